import Derived.Test.YtmboaaopmjmdnaaC2
import Derived.Test.YtmboaaopmjmdnaaS1
namespace Go.Proofs.Ytmboaaopmjmdnaa
open Go.RowKit

/-- A row of six digits. -/
structure RowD (r : List Nat) : Prop where
  len : r.length = 6
  lt : ∀ d ∈ r, d < 4
theorem RowD.get {r : List Nat} (h : RowD r) {k : Nat} (hk : k < 6) : ∃ d, d < 4 ∧ r[k]? = some d := by
  have hl := h.len
  exact ⟨r[k]'(by omega), h.lt _ (List.getElem_mem _), List.getElem?_eq_getElem (by omega)⟩
theorem Sl.nat {w : World} {B : Nat} {A : Option Addr} {n cap : Nat} {l : List Nat} {k : Nat} (h : Sl w B A n cap (nl l)) (hk : k < n) :
    ∃ b o x, A = some ⟨b, o, none⟩ ∧ b < B ∧ l[k]? = some x ∧ w.cell? ⟨b, o + k, none⟩ = some (.int .i64 (x : Nat)) := by
  obtain ⟨b, o, x, hA, hb, hx, hc⟩ := h.get hk
  rw [nl_get] at hx
  cases hz : l[k]? with
  | none => rw [hz] at hx; cases hx
  | some y => rw [hz] at hx; injection hx with hx; subst hx; exact ⟨b, o, y, hA, hb, rfl, hc⟩

theorem irowOk (B : Nat) (A : Option Addr) (cap : Nat) (r : List Nat) (w : World) (h : Sl w B A 6 cap (nl r)) (hr : RowD r) :
    Calls Try.prog 48 #[.slice A 6 cap] w fun e w' => e = .returned (.bool true) ∧ w = w' := by
  have HS := Lib.hid h
  have HR := Lib.hid hr
  clear h hr
  go_enter Try.func48, Try.ntmps48
  go_wp2
  go_loop [7] (fun i => ∃ k : Nat, k ≤ 6 ∧ i = .int .i64 k) (fun i => 6 - (intOf i).toNat)
  case atStart => exact ⟨0, Nat.zero_le _, rfl⟩
  case round =>
    obtain ⟨k, hk, rfl⟩ := hrel
    by_cases hlt : k < 6
    · obtain ⟨b, o, x, rfl, hb, hx, hc⟩ := HS.out.nat hlt
      obtain ⟨d, hd, hx'⟩ := HR.out.get hlt
      obtain rfl : x = d := by rw [hx] at hx'; injection hx'
      clear hx hx'
      have e1 : decide ((x : Int) ≤ 3) = true := by simp; omega
      go_wp2
      go_round
      case rel => exact ⟨k + 1, by omega, by go_num⟩
      case measure => simp [intOf]; omega
    · obtain rfl : k = 6 := by omega
      go_wp2
      go_ret
      exact ⟨rfl, rfl⟩

theorem srowOk (B : Nat) (A : Option Addr) (cap : Nat) (r : List Nat) (w : World) (h : Sl w B A 6 cap (nl r)) (hr : RowD r) :
    Calls Try.prog 66 #[.slice A 6 cap] w fun e w' => e = .returned (.bool true) ∧ w = w' := by
  have HS := Lib.hid h
  have HR := Lib.hid hr
  clear h hr
  go_enter Try.func66, Try.ntmps66
  go_wp2
  go_loop [3] (fun i => ∃ k : Nat, k ≤ 6 ∧ i = .int .i64 k) (fun i => 6 - (intOf i).toNat)
  case atStart => exact ⟨0, Nat.zero_le _, rfl⟩
  case round =>
    obtain ⟨k, hk, rfl⟩ := hrel
    by_cases hlt : k < 6
    · obtain ⟨b, o, x, rfl, hb, hx, hc⟩ := HS.out.nat hlt
      obtain ⟨d, hd, hx'⟩ := HR.out.get hlt
      obtain rfl : x = d := by rw [hx] at hx'; injection hx'
      clear hx hx'
      have e1 : decide ((x : Int) ≤ 3) = true := by simp; omega
      go_wp2
      go_round
      case rel => exact ⟨k + 1, by omega, by go_num⟩
      case measure => simp [intOf]; omega
    · obtain rfl : k = 6 := by omega
      go_wp2
      go_ret
      exact ⟨rfl, rfl⟩

theorem mono_same {P : Program} {f : FuncId} {args : Array Value} {w : World} {v : Value} (h : Calls P f args w fun e w' => e = .returned v ∧ w = w') : Calls P f args w fun e w' => e = .returned v ∧ w' = w :=
  h.mono fun _ _ ⟨a, b⟩ => ⟨a, b.symm⟩

theorem nl_inj {a b : List Nat} : nl a = nl b ↔ a = b := by
  unfold nl
  constructor
  · intro h
    have := congrArg (List.map Int.toNat) h
    simpa [Function.comp_def] using this
  · intro h; rw [h]

set_option maxHeartbeats 400000 in
theorem same6 (B : Nat) (A1 A2 : Option Addr) (c1 c2 : Nat) (l1 l2 : List Int) (w : World) (h1 : Sl w B A1 6 c1 l1) (h2 : Sl w B A2 6 c2 l2) :
    Calls Try.prog 67 #[.slice A1 6 c1, .slice A2 6 c2] w fun e w' => e = .returned (.bool (decide (l1 = l2))) ∧ Below w.heap.size w w' := by
  have HS1 := Lib.hid h1
  have HS2 := Lib.hid h2
  clear h1 h2
  go_enter Try.func67, Try.ntmps67
  go_wp2
  go_loopw [5] (fun i wr => ∃ k m : Nat, k ≤ 6 ∧ i = .int .i64 k ∧ wr = w.drewN m ∧ ∀ j, j < k → l1[j]? = l2[j]?) (fun i _ => 6 - (intOf i).toNat)
  case atStart => exact ⟨0, 0, Nat.zero_le _, rfl, rfl, by omega⟩
  case round =>
    obtain ⟨k, m, hk, rfl, rfl, hj⟩ := hrel
    have HJ := Lib.hid hj
    clear hj
    by_cases hlt : k < 6
    · obtain ⟨b, o, x, rfl, hb, hx, hc⟩ := HS1.out.get hlt
      obtain ⟨b', o', y, rfl, hb', hy, hc'⟩ := HS2.out.get hlt
      have HX := Lib.hid hx
      have HY := Lib.hid hy
      clear hx hy
      have hi0 : (0 : Int) ≤ (k : Int) := by omega
      have hi1 : (k : Int) < 6 := by omega
      by_cases hxy : x = y
      · subst hxy
        go_wp2_with fail
        go_quiet (fail)
        go_wp2
        go_roundw
        case rel =>
          refine ⟨k + 1, m + nq, by omega, by go_num, by simp, fun j hj => ?_⟩
          by_cases hjk : j = k
          · subst hjk; rw [HX.out, HY.out]
          · exact HJ.out j (by omega)
        case measure => simp [intOf]; omega
      · have hf : decide (l1 = l2) = false := by
          rw [decide_eq_false_iff_not]
          intro e
          have h1 := HX.out
          rw [e, HY.out] at h1
          injection h1 with h1
          exact hxy h1.symm
        have e1 : (x == y) = false := by simpa using hxy
        have e2 : (x != y) = true := by simpa using hxy
        have HF := Lib.hid hf
        clear hf hxy
        go_wp2_with fail
        go_quiet (fail)
        go_wp2
        go_ret
        rw [HF.out]
        exact ⟨rfl, below_drewN (below_drewN (Below.refl _ _) _) _⟩
    · obtain rfl : k = 6 := by omega
      have hf : decide (l1 = l2) = true := by
        have h1 := HS1.out.len
        have h2 := HS2.out.len
        have h3 := HJ.out
        rw [decide_eq_true_eq]
        apply List.ext_getElem?
        intro j
        by_cases hj : j < 6
        · exact h3 j hj
        · rw [List.getElem?_eq_none (by omega), List.getElem?_eq_none (by omega)]
      have HF := Lib.hid hf
      clear hf
      go_wp2
      go_ret
      rw [HF.out]
      exact ⟨rfl, below_drewN (Below.refl _ _) _⟩

set_option maxRecDepth 100000 in
set_option maxHeartbeats 1000000 in
theorem iHexIn (B : Nat) (A : Option Addr) (cap : Nat) (r : List Nat) (w : World) (h : Sl w B A 6 cap (nl r)) (hr : RowD r) (hB : B ≤ w.heap.size) :
    Calls Try.prog 37 #[.slice A 6 cap] w fun e w' => e = .returned (.bool (decide (r = hexL (r.getD 0 0) (r.getD 1 0) (r.getD 2 0)))) ∧ Below w.heap.size w w' := by
  obtain ⟨b, o, x0, rfl, hb, hx0, hc0⟩ := h.nat (k := 0) (by decide)
  obtain ⟨_, _, x1, hA1, _, hx1, hc1⟩ := h.nat (k := 1) (by decide)
  obtain ⟨_, _, x2, hA2, _, hx2, hc2⟩ := h.nat (k := 2) (by decide)
  cases hA1
  cases hA2
  obtain ⟨y0, l0, z0⟩ := hr.get (k := 0) (by decide)
  obtain ⟨y1, l1, z1⟩ := hr.get (k := 1) (by decide)
  obtain ⟨y2, l2, z2⟩ := hr.get (k := 2) (by decide)
  obtain rfl : x0 = y0 := by rw [hx0] at z0; injection z0
  obtain rfl : x1 = y1 := by rw [hx1] at z1; injection z1
  obtain rfl : x2 = y2 := by rw [hx2] at z2; injection z2
  have HX := Lib.hid (show r.getD 0 0 = x0 ∧ r.getD 1 0 = x1 ∧ r.getD 2 0 = x2 from by simp [List.getD_eq_getElem?_getD, hx0, hx1, hx2])
  have HS := Lib.hid h
  have HR := Lib.hid hr
  clear hx0 hx1 hx2 z0 z1 z2 h hr
  have hc0 : w.cell? ⟨b, o, none⟩ = some (.int .i64 x0) := hc0
  go_enter Try.func37, Try.ntmps37
  go_wp2_with fail
  go_region_held3 (fun w' => w'.cell? ⟨b, o, none⟩ = some (.int .i64 x0) ∧ w'.cell? ⟨b, o + 1, none⟩ = some (.int .i64 x1) ∧ w'.cell? ⟨b, o + 2, none⟩ = some (.int .i64 x2)) (first | go_keep | (exact ⟨((by assumption : Below w.heap.size w _).cell (by show b < _; omega)).trans hc0, ((by assumption : Below w.heap.size w _).cell (by show b < _; omega)).trans hc1, ((by assumption : Below w.heap.size w _).cell (by show b < _; omega)).trans hc2⟩))
    ((first | (go_at_call 48; refine (irowOk B _ cap r _ (by exact ⟨HS.out.len, HS.out.le, HS.out.max, HS.out.at_⟩) HR.out).mono ?_; rintro e w' ⟨rfl, rfl⟩) | (go_at_call 50; refine (ihexOf x0 x1 x2 _ l0 l1 l2).mono ?_; rintro e w1 ⟨A1, n1, c1, rfl, q1, q2⟩; have b1 : Below w.heap.size w w1 := ⟨q2.os, q2.tape, q2.output, q2.size, q2.block⟩; have o1 : Own w1 w.heap.size A1 n1 c1 (nl (hexL x0 x1 x2)) := q1; clear q1 q2; have hn6 : n1 = 6 := o1.length.symm.trans (nl_length _); subst hn6) | (go_at_call 49; refine (equalInts w1.heap.size _ A1 6 6 cap c1 _ _ w1 ((HS.out.below (b1.mono hB)).more (Nat.le_trans hB b1.size)) o1.sl (by decide)).mono ?_; rintro e w2 ⟨rfl, q2⟩; have b2 : Below w.heap.size w w2 := below_to b1 q2 (Nat.le_refl _); clear q2)))
  all_goals
    have HB := Lib.hid b2
    clear b2 b1 o1
    go_wp2
    go_ret
    refine ⟨?_, HB.out⟩
    rw [HX.out.1, HX.out.2.1, HX.out.2.2]
    exact ret_eq (bool_eq (by rw [decide_eq_decide]; exact nl_inj))

set_option maxRecDepth 100000 in
set_option maxHeartbeats 1000000 in
theorem sHexIn (B : Nat) (A : Option Addr) (cap : Nat) (r : List Nat) (w : World) (h : Sl w B A 6 cap (nl r)) (hr : RowD r) (hB : B ≤ w.heap.size) :
    Calls Try.prog 58 #[.slice A 6 cap] w fun e w' => e = .returned (.bool (decide (r = hexL (r.getD 0 0) (r.getD 1 0) (r.getD 2 0)))) ∧ Below w.heap.size w w' := by
  obtain ⟨b, o, x0, rfl, hb, hx0, hc0⟩ := h.nat (k := 0) (by decide)
  obtain ⟨_, _, x1, hA1, _, hx1, hc1⟩ := h.nat (k := 1) (by decide)
  obtain ⟨_, _, x2, hA2, _, hx2, hc2⟩ := h.nat (k := 2) (by decide)
  cases hA1
  cases hA2
  obtain ⟨y0, l0, z0⟩ := hr.get (k := 0) (by decide)
  obtain ⟨y1, l1, z1⟩ := hr.get (k := 1) (by decide)
  obtain ⟨y2, l2, z2⟩ := hr.get (k := 2) (by decide)
  obtain rfl : x0 = y0 := by rw [hx0] at z0; injection z0
  obtain rfl : x1 = y1 := by rw [hx1] at z1; injection z1
  obtain rfl : x2 = y2 := by rw [hx2] at z2; injection z2
  have HX := Lib.hid (show r.getD 0 0 = x0 ∧ r.getD 1 0 = x1 ∧ r.getD 2 0 = x2 from by simp [List.getD_eq_getElem?_getD, hx0, hx1, hx2])
  have HS := Lib.hid h
  have HR := Lib.hid hr
  clear hx0 hx1 hx2 z0 z1 z2 h hr
  have hc0 : w.cell? ⟨b, o, none⟩ = some (.int .i64 x0) := hc0
  go_enter Try.func58, Try.ntmps58
  go_wp2_with fail
  go_region_held3 (fun w' => w'.cell? ⟨b, o, none⟩ = some (.int .i64 x0) ∧ w'.cell? ⟨b, o + 1, none⟩ = some (.int .i64 x1) ∧ w'.cell? ⟨b, o + 2, none⟩ = some (.int .i64 x2)) (first | go_keep | (exact ⟨((by assumption : Below w.heap.size w _).cell (by show b < _; omega)).trans hc0, ((by assumption : Below w.heap.size w _).cell (by show b < _; omega)).trans hc1, ((by assumption : Below w.heap.size w _).cell (by show b < _; omega)).trans hc2⟩))
    ((first | (go_at_call 66; refine (srowOk B _ cap r _ (by exact ⟨HS.out.len, HS.out.le, HS.out.max, HS.out.at_⟩) HR.out).mono ?_; rintro e w' ⟨rfl, rfl⟩) | (go_at_call 45; refine (shexOf x0 x1 x2 _ l0 l1 l2).mono ?_; rintro e w1 ⟨A1, n1, c1, rfl, q1, q2⟩; have b1 : Below w.heap.size w w1 := ⟨q2.os, q2.tape, q2.output, q2.size, q2.block⟩; have o1 : Own w1 w.heap.size A1 n1 c1 (nl (hexL x0 x1 x2)) := q1; clear q1 q2; have hn6 : n1 = 6 := o1.length.symm.trans (nl_length _); subst hn6) | (go_at_call 67; refine (same6 w1.heap.size _ A1 cap c1 _ _ w1 ((HS.out.below (b1.mono hB)).more (Nat.le_trans hB b1.size)) o1.sl).mono ?_; rintro e w2 ⟨rfl, q2⟩; have b2 : Below w.heap.size w w2 := below_to b1 q2 (Nat.le_refl _); clear q2)))
  all_goals
    have HB := Lib.hid b2
    clear b2 b1 o1
    go_wp2
    go_ret
    refine ⟨?_, HB.out⟩
    rw [HX.out.1, HX.out.2.1, HX.out.2.2]
    exact ret_eq (bool_eq (by rw [decide_eq_decide]; exact nl_inj))

end Go.Proofs.Ytmboaaopmjmdnaa
