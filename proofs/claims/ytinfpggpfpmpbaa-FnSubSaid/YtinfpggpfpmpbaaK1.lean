/- The texts E1 E2 E3 E4 E5 E6 H0 H5 H12 H13 in one: a claim has at most 60 files. -/
import Derived.Test.YtinfpggpfpmpbaaB2
import Derived.Test.YtinfpggpfpmpbaaC9
import Derived.Test.YtinfpggpfpmpbaaA6
import Derived.Deep.RegionHeld3
import Derived.Deep.RegionWith
import Derived.Test.YtinfpggpfpmpbaaF2
import Derived.StillTailTactics
import Derived.Test.YtinfpggpfpmpbaaF5
import Derived.OwnWalk
import Derived.Test.YtinfpggpfpmpbaaF8
namespace Go.Proofs.Ytinfpggpfpmpbaa
open Go.RowKit

/-- The reader at block g: it has come to place p; its bytes lie below 'base'. -/
structure Rd (base : Nat) (w : World) (g p : Nat) : Prop where
  lo : base ≤ g
  hi : g < w.heap.size
  pos : w.cell? ⟨g, 1, none⟩ = some (.int .i64 (p : Nat))
  thaw : w.frozen? ⟨g, 1, none⟩ = false
  code : ∃ A n c, w.cell? ⟨g, 0, none⟩ = some (.slice A n c) ∧ n ≤ 2000 ∧ (0 < n → ∃ x, A = some x ∧ x.block < base ∧ ∀ j, j < n → ∃ v : Nat, v < 256 ∧ w.cell? (x.add j) = some (.int .u8 (v : Nat)))

/-- What leaves the reader's block and all below 'base' alone leaves the reader. -/
theorem Rd.keep {base : Nat} {w w' : World} {g p : Nat} (h : Rd base w g p) (hs : w.heap.size ≤ w'.heap.size) (hk : ∀ i, i < base ∨ i = g → w'.heap[i]? = w.heap[i]?) : Rd base w' g p := by
  have hc : ∀ o, w'.cell? ⟨g, o, none⟩ = w.cell? ⟨g, o, none⟩ := fun o => World.cell?_of_block (w := w) (hk g (.inr rfl))
  refine ⟨h.lo, Nat.lt_of_lt_of_le h.hi hs, (hc 1).trans h.pos, (World.frozen?_of_block (w := w) (hk g (.inr rfl))).trans h.thaw, ?_⟩
  obtain ⟨A, n, c, h0, hn, hb⟩ := h.code
  refine ⟨A, n, c, (hc 0).trans h0, hn, fun hp => ?_⟩
  obtain ⟨x, hx, hlt, hv⟩ := hb hp
  refine ⟨x, hx, hlt, fun j hj => ?_⟩
  obtain ⟨v, hv1, hv2⟩ := hv j hj
  exact ⟨v, hv1, (World.cell?_of_block (w := w) (hk _ (.inl (by rw [block_add]; exact hlt)))).trans hv2⟩
theorem Rd.below {base : Nat} {w w' : World} {g p : Nat} (h : Rd base w g p) (hb : Below w.heap.size w w') : Rd base w' g p :=
  h.keep hb.size fun i hi => hb.block i (by rcases hi with hi | rfl; have := h.lo; have := h.hi; omega; exact h.hi)
theorem Rd.only {base : Nat} {w w' : World} {g p : Nat} {A : Option Addr} (h : Rd base w g p) (ho : Only w w' A) (hA : ∀ x, A = some x → base ≤ x.block ∧ x.block ≠ g) : Rd base w' g p :=
  h.keep ho.size fun i hi => ho.block i (by rcases hi with hi | rfl; have := h.lo; have := h.hi; omega; exact h.hi) (fun e => by
    cases A with
    | none => cases e
    | some x =>
      have := hA x rfl
      simp at e
      rcases hi with hi | rfl <;> omega)
theorem Rd.drewN {base : Nat} {w : World} {g p : Nat} (h : Rd base w g p) (k : Nat) : Rd base (w.drewN k) g p := ⟨h.lo, h.hi, h.pos, h.thaw, h.code⟩
theorem Below.toOnly {w w' : World} (h : Below w.heap.size w w') (A : Option Addr) : Only w w' A := ⟨h.os, h.tape, h.output, h.size, fun i hi _ => h.block i hi⟩
theorem Only.drewN {w w' : World} {A : Option Addr} (h : Only w w' A) (k : Nat) : Only w (w'.drewN k) A := ⟨h.os, h.tape, h.output, h.size, h.block⟩

theorem Rd.step {base : Nat} {w : World} {g p : Nat} (h : Rd base w g p) {u : Value} (hu : u = .int .i64 (p + 1 : Nat)) : Rd base (w.setCell ⟨g, 1, none⟩ u) g (p + 1) := by
  subst hu
  have hs : (w.setCell ⟨g, 1, none⟩ (.int .i64 (p + 1 : Nat))).heap.size = w.heap.size := by simp [World.setCell]
  refine ⟨h.lo, by rw [hs]; exact h.hi, World.cell?_setCell_same w _ _ h.pos, (World.frozen?_setCell _ _ _ _).trans h.thaw, ?_⟩
  obtain ⟨A, n, c, h0, hn, hb⟩ := h.code
  refine ⟨A, n, c, (World.cell?_setCell_other _ _ _ _ (by simp)).trans h0, hn, fun hp => ?_⟩
  obtain ⟨x, hx, hlt, hv⟩ := hb hp
  refine ⟨x, hx, hlt, fun j hj => ?_⟩
  obtain ⟨v, hv1, hv2⟩ := hv j hj
  refine ⟨v, hv1, (World.cell?_setCell_other _ _ _ _ (fun e => ?_)).trans hv2⟩
  have h2 := block_add x j
  have h3 := h.lo
  have h4 := congrArg Addr.block e
  simp only [h2] at h4
  omega

def pickX (v u p q : Nat) : Nat := v * 131 + u * 1117 + p * 29 + q * 53
theorem pick_end (v u p q n : Nat) (hv : v < 256) (hu : u < 256) (hp : p ≤ 1000000) (hq : q ≤ p) :
    (bits .xor .i64 (wrap64 ((v : Int) * 131 + (u : Int) * 1117 + (p : Int) * 29 + wrap64 (wrap64 (q : Int) * 53))) (wrap64 ((wrap64 ((v : Int) * 131 + (u : Int) * 1117 + (p : Int) * 29 + wrap64 (wrap64 (q : Int) * 53))).tdiv 64))).tmod (n : Int) = (((pickX v u p q ^^^ pickX v u p q / 64) % n : Nat) : Int) := by
  have e1 : wrap64 (wrap64 (q : Int) * 53) = ((q * 53 : Nat) : Int) := by
    rw [wrap_small q (by omega), show (q : Int) * 53 = ((q * 53 : Nat) : Int) from by omega, wrap_small _ (by omega)]
  have hx : pickX v u p q < 200000000 := by unfold pickX; omega
  have e2 : wrap64 ((v : Int) * 131 + (u : Int) * 1117 + (p : Int) * 29 + wrap64 (wrap64 (q : Int) * 53)) = (pickX v u p q : Int) := by
    rw [e1, show (v : Int) * 131 + (u : Int) * 1117 + (p : Int) * 29 + ((q * 53 : Nat) : Int) = (pickX v u p q : Int) from by unfold pickX; omega, wrap_small _ (by omega)]
  rw [e2]
  generalize pickX v u p q = X at hx
  rw [show ((X : Int)).tdiv 64 = ((X / 64 : Nat) : Int) from rfl, wrap_small _ (by omega), i64_xor X (X / 64) (by omega) (by omega)]
  rfl

set_option maxRecDepth 100000 in
set_option maxHeartbeats 1000000 in
theorem pick_any (base g p n : Nat) (w : World) (h : Rd base w g p) (hp : p ≤ 1000000) (hn1 : 1 ≤ n) (hn : n ≤ 1000000) :
    Calls Try.prog 75 #[.pointer (some ⟨g, 0, none⟩), .int .i64 n] w fun e w' => ∃ k : Nat, k < n ∧ e = .returned (.int .i64 k) ∧ Rd base w' g (p + 1) ∧ Only w w' (some ⟨g, 0, none⟩) := by
  have h2 : Rd base (w.setCell ⟨g, 1, none⟩ (.int .i64 ((p : Int) + 1))) g (p + 1) := h.step (int_eq (by simp))
  have o2 : Only w (w.setCell ⟨g, 1, none⟩ (.int .i64 ((p : Int) + 1))) (some ⟨g, 0, none⟩) := (Only.refl w _).setCell 1 _
  obtain ⟨A, nb, cb, hc0, hnb, hcode⟩ := h.code
  have hpos := h.pos
  have hthaw := h.thaw
  have hlo := h.lo
  have H2 := Lib.hid h2
  have O2 := Lib.hid o2
  clear h h2 o2
  have e1 : decide ((n : Int) < 1) = false := by simp; omega
  by_cases h0 : nb = 0
  · clear hcode
    go_enter Try.func75, Try.ntmps75
    go_wp2
    go_ret
    exact ⟨0, by omega, rfl, H2.out, O2.out⟩
  · obtain ⟨x, rfl, hxb, hv⟩ := hcode (by omega)
    have hcell : ∀ j, j < nb → ∃ v : Nat, v < 256 ∧ (w.setCell ⟨g, 1, none⟩ (.int .i64 ((p : Int) + 1))).cell? (x.add j) = some (.int .u8 (v : Nat)) := by
      intro j hj
      obtain ⟨v, hv1, hv2⟩ := hv j hj
      refine ⟨v, hv1, (World.cell?_setCell_other _ _ _ _ (fun e => ?_)).trans hv2⟩
      have h2 := block_add x j
      have h4 := congrArg Addr.block e
      simp only [h2] at h4
      omega
    have e2 : ((nb : Int) == 0) = false := by simp; omega
    by_cases hlt : p < nb
    · obtain ⟨v, hv1, hv2⟩ := hcell p hlt
      have e3 : decide ((p : Int) < (nb : Int)) = true := by simp; omega
      clear hv hcell h0
      go_enter Try.func75, Try.ntmps75
      go_wp2
      go_ret
      exact ⟨v % n, Nat.mod_lt _ (by omega), ret_eq (int_eq (by simp)), H2.out, O2.out⟩
    · obtain ⟨v, hv1, hv2⟩ := hcell (p % nb) (Nat.mod_lt _ (by omega))
      obtain ⟨u, hu1, hu2⟩ := hcell ((p * 7 + 3) % nb) (Nat.mod_lt _ (by omega))
      have e3 : decide ((p : Int) < (nb : Int)) = false := by simp; omega
      clear hv hcell hcode
      go_enter Try.func75, Try.ntmps75
      have hcs : (w.setCell ⟨g, 1, none⟩ (.int .i64 ((p : Int) + 1))).cell? ⟨g, 0, none⟩ = some (.slice (some x) nb cb) := (World.cell?_setCell_other _ _ _ _ (by simp)).trans hc0
      go_wp2_with fail
      generalize w.setCell ⟨g, 1, none⟩ (.int .i64 ((p : Int) + 1)) = w1 at H2 O2 hv2 hu2 hcs ⊢
      have i0 : (0 : Int) ≤ (p : Int) % (nb : Int) := Int.emod_nonneg _ (by omega)
      have i1 : (p : Int) % (nb : Int) < (nb : Int) := Int.emod_lt_of_pos _ (by omega)
      have j0 : (0 : Int) ≤ ((p : Int) * 7 + 3) % (nb : Int) := Int.emod_nonneg _ (by omega)
      have j1 : ((p : Int) * 7 + 3) % (nb : Int) < (nb : Int) := Int.emod_lt_of_pos _ (by omega)
      have hnz : (nb : Int) ≠ 0 := by omega
      have hnp : (0 : Int) < (nb : Int) := by omega
      have it : ((p : Int) % (nb : Int)).toNat = p % nb := by
        rw [show ((p : Int) % (nb : Int)) = ((p % nb : Nat) : Int) from by simp]; rfl
      have jt : (((p : Int) * 7 + 3) % (nb : Int)).toNat = (p * 7 + 3) % nb := by
        rw [show (((p : Int) * 7 + 3) % (nb : Int)) = (((p * 7 + 3) % nb : Nat) : Int) from by simp]; rfl
      have HE := Lib.hid (pick_end v u p (p / nb) n hv1 hu1 hp (Nat.div_le_self _ _))
      go_quiet (fail)
      go_wp2
      go_ret
      refine ⟨(pickX v u p (p / nb) ^^^ pickX v u p (p / nb) / 64) % n, Nat.mod_lt _ (by omega), ret_eq (int_eq ?_), H2.out.drewN _, O2.out.drewN _⟩
      rw [show (p : Int) / (nb : Int) = ((p / nb : Nat) : Int) from by simp]
      exact HE.out

set_option maxHeartbeats 400000 in
theorem sWordOf (B : Nat) (A : Option Addr) (n cap : Nat) (l : List Int) (w : World) (h : Sl w B A n cap l) (hn : n ≤ 1048576) :
    Calls Try.prog 76 #[.slice A n cap] w fun e w' => e = .returned (.tuple #[.int .i64 ((wordOf l).getD 0 : Nat), .bool (wordOf l).isSome]) ∧ w = w' := by
  have HS := Lib.hid h
  clear h
  go_enter Try.func76, Try.ntmps76
  go_wp2
  go_loop [4, 5] (fun u i => ∃ k a : Nat, k ≤ n ∧ i = .int .i64 k ∧ u = .int .i64 a ∧ a < 16777216 ∧ wordOf (l.take k) = some a) (fun _ i => n - (intOf i).toNat)
  case atStart => exact ⟨0, 0, Nat.zero_le _, rfl, rfl, by omega, rfl⟩
  case round =>
    obtain ⟨k, a, hk, rfl, rfl, ha, hw⟩ := hrel
    have HW := Lib.hid hw
    clear hw
    by_cases hlt : k < n
    · obtain ⟨b, o, x, rfl, hb, hx, hc⟩ := HS.out.get hlt
      have HX := Lib.hid hx
      clear hx
      have hstep := wordOf_take HX.out
      rw [HW.out] at hstep
      have HT := Lib.hid hstep
      clear hstep
      have hi0 : (0 : Int) ≤ (k : Int) := by omega
      have hi1 : (k : Int) < (n : Int) := by omega
      by_cases hv : 0 ≤ x ∧ x ≤ 23
      · obtain ⟨h0, h23⟩ := hv
        obtain ⟨p, rfl⟩ := Int.eq_ofNat_of_zero_le h0
        have HI := Lib.hid (fun W => l6In_yes (p : Int) 0 23 W h0 h23)
        have HL := Lib.hid (fun W => l1Bit_any a p W (by omega) (by omega))
        by_cases hb : a.testBit p = true
        · have e1 : ((bt a p : Int) == 1) = true := by rw [bt_one.2 hb]; rfl
          have hf : wordOf l = none := wordOf_none (k + 1) (by rw [HT.out]; simp [step, hb])
          have HF := Lib.hid hf
          clear hb hf
          go_wp2_with (first | (go_at_call 47; refine (HI.out _).mono ?_; rintro e w' ⟨rfl, rfl⟩) | (go_at_call 48; refine (HL.out _).mono ?_; rintro e w' ⟨rfl, rfl⟩))
          go_ret2
          rw [HF.out]
          exact ⟨rfl, rfl⟩
        · have hb : a.testBit p = false := by simpa using hb
          have e1 : ((bt a p : Int) == 1) = false := by rw [bt_zero.2 hb]; rfl
          have HB := Lib.hid hb
          clear hb
          go_wp2_with (first | (go_at_call 47; refine (HI.out _).mono ?_; rintro e w' ⟨rfl, rfl⟩) | (go_at_call 48; refine (HL.out _).mono ?_; rintro e w' ⟨rfl, rfl⟩))
          go_round
          case rel =>
            refine ⟨k + 1, a ||| 1 <<< p, by omega, by go_num, int_eq (by rw [or_add ha (by omega) HB.out]; exact i64_plus2 a p ha (by omega)), or_lt ha (one_shl_lt (by omega)), ?_⟩
            rw [HT.out]
            have : step a p = some (a ||| 1 <<< p) := by unfold step; rw [if_pos ⟨by omega, by omega, by simpa using HB.out⟩]; simp
            simpa using this
          case measure => simp [intOf]; omega
      · have hf : wordOf l = none := wordOf_none (k + 1) (by rw [HT.out]; show step a x = none; unfold step; rw [if_neg (by omega)])
        have HF := Lib.hid hf
        have HI := Lib.hid (fun W => l6In_no x 0 23 W (by omega))
        clear hf hv
        go_wp2_with (first | (go_at_call 47; refine (HI.out _).mono ?_; rintro e w' ⟨rfl, rfl⟩))
        go_ret2
        rw [HF.out]
        exact ⟨rfl, rfl⟩
    · obtain rfl : k = n := by omega
      have hl := HS.out.len
      have hf : wordOf l = some a := by have := HW.out; rwa [← hl, List.take_length] at this
      have HF := Lib.hid hf
      clear hf hl
      go_wp2
      go_ret2
      rw [HF.out]
      exact ⟨rfl, rfl⟩

/-- What 'OctadThrough' answers. -/
def throughOk (l : List Int) : Bool := (wordOf l).isSome && decide (l.length = 5)
def throughR (l : List Int) : Nat := if throughOk l then (octs (hasf ((wordOf l).getD 0) 0)).headD 0 else 0
theorem through_no {l : List Int} (h : (wordOf l).isSome = false ∨ l.length ≠ 5) : throughOk l = false ∧ throughR l = 0 := by
  have h1 : throughOk l = false := by unfold throughOk; rcases h with h | h <;> simp [h]
  exact ⟨h1, by unfold throughR; rw [h1]; rfl⟩
theorem through_yes {l : List Int} {a : Nat} (h : wordOf l = some a) (h5 : l.length = 5) : throughOk l = true ∧ a < 16777216 ∧ octs (hasf a 0) = [throughR l] := by
  have h1 : throughOk l = true := by unfold throughOk; rw [h]; simp [h5]
  obtain ⟨f1, f2, _⟩ := wordOf_facts l a h
  refine ⟨h1, f1, ?_⟩
  have hl : (octs (hasf a 0)).length = 1 := cnt5 f1 (by omega)
  unfold throughR
  rw [h1, h]
  match hm : octs (hasf a 0), hl with
  | [x], _ => simp
theorem through_oct {l : List Int} (h : throughOk l = true) : Oct (throughR l) := by
  have h' := h
  unfold throughOk at h'
  rw [Bool.and_eq_true, decide_eq_true_eq] at h'
  obtain ⟨a, ha⟩ := Option.isSome_iff_exists.1 h'.1
  have e := (through_yes ha h'.2).2.2
  exact (mem_octs.1 (show throughR l ∈ octs (hasf a 0) from by rw [e]; simp)).1
theorem through_lt (l : List Int) : throughR l < 16777216 := by
  cases h : throughOk l with
  | true => exact oct_lt (through_oct h)
  | false => unfold throughR; rw [h]; simp

theorem u8_of {z : Int} (h : (Lit.int .u8 z).wf = true) : ∃ v : Nat, v < 256 ∧ z = (v : Int) := by
  simp only [Lit.wf, Bool.and_eq_true, decide_eq_true_eq] at h
  have h1 : (0 : Int) ≤ z := h.1
  have h2 : z ≤ 255 := h.2
  exact ⟨z.toNat, by omega, by omega⟩
theorem IsRow.bytes {w : World} {A : Option Addr} {n cap : Nat} {zs : List Int} (h : IsRow .u8 w A n cap zs) {m : Nat} (hm : m ≤ n) :
    0 < m → ∃ x, A = some x ∧ x.block < w.heap.size ∧ ∀ j, j < m → ∃ v : Nat, v < 256 ∧ w.cell? (x.add j) = some (.int .u8 (v : Nat)) := by
  intro hp
  rcases h with ⟨_, h0, _⟩ | ⟨x, rfl, hlc, hcm, hzl, hcell, hw⟩
  · omega
  · refine ⟨x, rfl, ?_, fun j hj => ?_⟩
    · have := World.block_lt_of_cell? w _ (hcell 0 (by omega))
      rwa [block_add] at this
    · have hj' : j < zs.length := by omega
      have hm : zs.getD j 0 ∈ zs := by
        rw [List.getD_eq_getElem?_getD, List.getElem?_eq_getElem hj']; exact List.getElem_mem _
      obtain ⟨v, hv, e⟩ := u8_of (hw _ hm)
      exact ⟨v, hv, by rw [hcell j hj', e]⟩
theorem Rd.fresh {w : World} {A : Option Addr} {n c : Nat} {T : TypeId} (hn : n ≤ 2000) (hb : 0 < n → ∃ x, A = some x ∧ x.block < w.heap.size ∧ ∀ j, j < n → ∃ v : Nat, v < 256 ∧ w.cell? (x.add j) = some (.int .u8 (v : Nat))) :
    Rd w.heap.size (w.alloc (.cells #[.slice A n c, .int .i64 0] T)) w.heap.size 0 := by
  have hbl : Below w.heap.size w (w.alloc (.cells #[.slice A n c, .int .i64 0] T)) := (Below.refl _ _).alloc (Nat.le_refl _) _
  have hat : (w.alloc (.cells #[.slice A n c, .int .i64 0] T)).heap[w.heap.size]? = some (.cells #[.slice A n c, .int .i64 0] T) := by show (w.heap.push _)[w.heap.size]? = _; simp
  refine ⟨Nat.le_refl _, by simp, ?_, ?_, A, n, c, ?_, hn, fun hp => ?_⟩
  · rw [World.cell?_alloc_at _ _ _ _ rfl]; rfl
  · unfold World.frozen?; rw [hat]; rfl
  · rw [World.cell?_alloc_at _ _ _ _ rfl]; rfl
  · obtain ⟨x, hx, hlt, hv⟩ := hb hp
    refine ⟨x, hx, hlt, fun j hj => ?_⟩
    obtain ⟨v, hv1, hv2⟩ := hv j hj
    exact ⟨v, hv1, (hbl.cell (p := x.add j) (by rw [block_add]; exact hlt)).trans hv2⟩

theorem sopen (A : Option Addr) (n cap : Nat) (zs : List Int) (w : World) (h : IsRow .u8 w A n cap zs) (hn : n ≤ 1048576) :
    Calls Try.prog 70 #[.slice A n cap] w fun e w' => ∃ g, e = .returned (.pointer (some ⟨g, 0, none⟩)) ∧ Rd w.heap.size w' g 0 ∧ Below w.heap.size w w' := by
  by_cases h2 : 2000 < n
  · have hb := h.bytes (m := 2000) (by omega)
    have HB := Lib.hid hb
    have e1 : decide ((2000 : Int) < (n : Int)) = true := by simp; omega
    obtain ⟨x, rfl, hlc, hcm⟩ : ∃ x, A = some x ∧ n ≤ cap ∧ cap ≤ maxLen := by
      rcases h with ⟨_, h0, _⟩ | ⟨x, rfl, hlc, hcm, _⟩
      · omega
      · exact ⟨x, rfl, hlc, hcm⟩
    clear hb h
    go_enter Try.func70, Try.ntmps70
    go_wp2
    go_ret
    exact ⟨_, rfl, Rd.fresh (Nat.le_refl _) HB.out, (Below.refl _ _).alloc (Nat.le_refl _) _⟩
  · have hb := h.bytes (m := n) (Nat.le_refl _)
    have HB := Lib.hid hb
    have e1 : decide ((2000 : Int) < (n : Int)) = false := by simp; omega
    clear hb h
    go_enter Try.func70, Try.ntmps70
    go_wp2
    go_ret
    exact ⟨_, rfl, Rd.fresh (by omega) HB.out, (Below.refl _ _).alloc (Nat.le_refl _) _⟩

/-- A drawing: the reader has moved on by at most K; nothing else that was there has turned. -/
def Drew (base g p K : Nat) (w w' : World) : Prop := ∃ q, p ≤ q ∧ q ≤ p + K ∧ Rd base w' g q ∧ Only w w' (some ⟨g, 0, none⟩)
theorem Drew.refl {base g p : Nat} {w : World} (h : Rd base w g p) : Drew base g p 0 w w := ⟨p, Nat.le_refl _, Nat.le_refl _, h, Only.refl _ _⟩
theorem Drew.of {base g p q K : Nat} {a w' : World} (h1 : p ≤ q) (h2 : q ≤ p + K) (h : Rd base w' g q) (ho : Only a w' (some ⟨g, 0, none⟩)) : Drew base g p K a w' := ⟨q, h1, h2, h, ho⟩

theorem scode (base g p : Nat) (w : World) (h : Rd base w g p) (hp : p ≤ 100000) :
    Calls Try.prog 100 #[.pointer (some ⟨g, 0, none⟩)] w fun e w' => ∃ m, m < 4096 ∧ e = .returned (.int .i64 (cw m)) ∧ Drew base g p 2 w w' := by
  have H := Lib.hid h
  clear h
  go_enter Try.func100, Try.ntmps100
  go_wp2_with fail
  refine (pick_any base g p 64 w H.out (by omega) (by decide) (by decide)).mono ?_
  rintro e w1 ⟨k1, hk1, rfl, r1, o1⟩
  go_wp2_with fail
  refine (pick_any base g (p + 1) 64 w1 r1 (by omega) (by decide) (by decide)).mono ?_
  rintro e w2 ⟨k2, hk2, rfl, r2, o2⟩
  go_wp2_with fail
  rw [show (k1 : Int) + 64 * (k2 : Int) = ((k1 + 64 * k2 : Nat) : Int) from by omega]
  refine (sl3Of (k1 + 64 * k2) w2 (by omega)).mono ?_
  rintro e w3 ⟨rfl, b3⟩
  have HD := Lib.hid (Drew.of (p := p) (K := 2) (by omega) (by omega) (r2.below b3) ((o1.trans o2).trans (Below.toOnly b3 _)))
  clear r1 o1 r2 o2 b3
  go_wp2
  go_ret
  exact ⟨_, by omega, rfl, HD.out⟩

/-- What 'l91Word' draws: a word, or one of two numbers that are none. -/
def Near (x : Int) : Prop := -1 ≤ x ∧ x ≤ 16777216

set_option maxHeartbeats 1000000 in
theorem sword (base g p : Nat) (w : World) (h : Rd base w g p) (hp : p ≤ 90000) :
    Calls Try.prog 88 #[.pointer (some ⟨g, 0, none⟩)] w fun e w' => ∃ x, Near x ∧ e = .returned (.int .i64 x) ∧ Drew base g p 9 w w' := by
  have H := Lib.hid h
  clear h
  go_enter Try.func88, Try.ntmps88
  go_wp2_with fail
  refine (pick_any base g p 20 w H.out (by omega) (by decide) (by decide)).mono ?_
  rintro e w1 ⟨k1, hk1, rfl, r1, o1⟩
  have R1 := Lib.hid r1
  have O1 := Lib.hid o1
  clear r1 o1
  by_cases h0 : k1 = 0
  · subst h0
    go_wp2
    go_ret
    exact ⟨-1, ⟨by omega, by omega⟩, rfl, Drew.of (by omega) (by omega) R1.out O1.out⟩
  · have e0 : ((k1 : Int) == 0) = false := by simp; omega
    by_cases h1 : k1 = 1
    · subst h1
      go_wp2
      go_ret
      exact ⟨16777216, ⟨by omega, by omega⟩, rfl, Drew.of (by omega) (by omega) R1.out O1.out⟩
    · have e1 : ((k1 : Int) == 1) = false := by simp; omega
      by_cases h2 : k1 = 2
      · subst h2
        go_wp2_with fail
        refine (pick_any base g (p + 1) 256 w1 R1.out (by omega) (by decide) (by decide)).mono ?_
        rintro e w2 ⟨k2, hk2, rfl, r2, o2⟩
        go_wp2_with fail
        refine (pick_any base g (p + 2) 256 w2 r2 (by omega) (by decide) (by decide)).mono ?_
        rintro e w3 ⟨k3, hk3, rfl, r3, o3⟩
        go_wp2_with fail
        refine (pick_any base g (p + 3) 256 w3 r3 (by omega) (by decide) (by decide)).mono ?_
        rintro e w4 ⟨k4, hk4, rfl, r4, o4⟩
        have HD := Lib.hid (Drew.of (p := p) (K := 9) (by omega) (by omega) r4 (((O1.out.trans o2).trans o3).trans o4))
        clear r2 o2 r3 o3 r4 o4
        go_wp2
        go_ret
        exact ⟨_, ⟨by omega, by omega⟩, rfl, HD.out⟩
      · have e2 : ((k1 : Int) == 2) = false := by simp; omega
        go_wp2_with fail
        refine (scode base g (p + 1) w1 R1.out (by omega)).mono ?_
        rintro e w2 ⟨m, hm, rfl, q, hq1, hq2, r2, o2⟩
        go_wp2_with fail
        refine (pick_any base g q 6 w2 r2 (by omega) (by decide) (by decide)).mono ?_
        rintro e w3 ⟨n, hn, rfl, r3, o3⟩
        have hcl := cw_lt m
        generalize cw m = x0 at hcl
        have R3 := Lib.hid r3
        have O3 := Lib.hid ((O1.out.trans o2).trans o3)
        clear r2 o2 r3 o3
        go_wp2
        go_loopw [3, 5] (fun u i wr => ∃ x k : Nat, k ≤ n ∧ x < 16777216 ∧ i = .int .i64 k ∧ u = .int .i64 x ∧ Rd base wr g (q + 1 + k) ∧ Only w wr (some ⟨g, 0, none⟩)) (fun _ i _ => n - (intOf i).toNat)
        case atStart => exact ⟨x0, 0, Nat.zero_le _, hcl, rfl, rfl, R3.out, O3.out⟩
        case round =>
          obtain ⟨x, k, hk, hx, rfl, rfl, hr, ho⟩ := hrel
          have R := Lib.hid hr
          have O := Lib.hid ho
          clear hr ho
          by_cases hlt : k < n
          · go_wp2_with fail
            refine (pick_any base g (q + 1 + k) 24 wr R.out (by omega) (by decide) (by decide)).mono ?_
            rintro e w4 ⟨d, hd, rfl, r4, o4⟩
            have hxor : bits .xor .i64 (x : Int) (wrap64 (2 ^ d)) = ((x ^^^ 1 <<< d : Nat) : Int) := by
              rw [i64_two d hd]; exact i64_xor _ _ (by omega) (by have := one_shl_lt hd; omega)
            have R4 := Lib.hid r4
            have O4 := Lib.hid (O.out.trans o4)
            clear r4 o4
            go_wp2
            go_roundw
            case rel => exact ⟨x ^^^ 1 <<< d, k + 1, by omega, xor_lt hx (one_shl_lt hd), by go_num, by trivial, R4.out, O4.out⟩
            case measure => simp [intOf]; omega
          · obtain rfl : k = n := by omega
            go_wp2
            go_ret
            exact ⟨x, ⟨by omega, by omega⟩, rfl, Drew.of (by omega) (by omega) R.out O.out⟩

theorem free_place {x : Nat} (h : wt x < 24) : ∃ q, q < 24 ∧ x.testBit q = false := by
  by_cases hh : ∃ q, q < 24 ∧ x.testBit q = false
  · exact hh
  · exfalso
    have e : wt x = sm 24 (fun _ => 1) := by
      unfold wt
      refine sm_congr fun i hi => ?_
      rw [bt_one]
      cases hb : x.testBit i with
      | true => rfl
      | false => exact absurd ⟨i, hi, hb⟩ hh
    rw [sm_const] at e
    omega
theorem Only.after {a b c : World} {A : Option Addr} (h : Only a b A) (k : Below a.heap.size b c) : Only a c A :=
  ⟨k.os.trans h.os, k.tape.trans h.tape, k.output.trans h.output, Nat.le_trans h.size k.size, fun i hi hne => (k.block i hi).trans (h.block i hi hne)⟩
theorem Rd.drew {base : Nat} {w : World} {g p : Nat} (h : Rd base w g p) : Rd base w.drew g p := ⟨h.lo, h.hi, h.pos, h.thaw, h.code⟩
theorem Only.cell {w w' : World} {g : Nat} (h : Only w w' (some ⟨g, 0, none⟩)) {p : Addr} (hp : p.block < w.heap.size) (hne : p.block ≠ g) : w'.cell? p = w.cell? p :=
  World.cell?_of_block (w := w) (h.block p.block hp (fun e => hne (by simpa using e)))
theorem Only.frozen {w w' : World} {g : Nat} (h : Only w w' (some ⟨g, 0, none⟩)) {p : Addr} (hp : p.block < w.heap.size) (hne : p.block ≠ g) : w'.frozen? p = w.frozen? p :=
  World.frozen?_of_block (w := w) (h.block p.block hp (fun e => hne (by simpa using e)))
theorem three_of (y : Int) {k : Nat} (hk : k < 3) : ∃ v, ([.int .i64 24, .int .i64 (-1), .int .i64 y] : List Value)[k]? = some (.int .i64 v) := by
  match k, hk with
  | 0, _ => exact ⟨24, rfl⟩
  | 1, _ => exact ⟨-1, rfl⟩
  | 2, _ => exact ⟨y, rfl⟩
theorem three_at {y v : Int} {k : Nat} (hv : ([.int .i64 24, .int .i64 (-1), .int .i64 y] : List Value)[k]? = some (.int .i64 v)) : ∀ h : k < ([.int .i64 24, .int .i64 (-1), .int .i64 y] : List Value).length, ([.int .i64 24, .int .i64 (-1), .int .i64 y] : List Value)[k]'h = .int .i64 v :=
  fun _ => (List.getElem?_eq_some_iff.1 hv).2
theorem after_alloc {w : World} {g : Nat} {x : Value} (hg : g < w.heap.size) (hc : w.cell? ⟨g, 0, none⟩ = some x) (hf : w.frozen? ⟨g, 0, none⟩ = false) :
    ∀ o, (w.alloc o).cell? ⟨g, 0, none⟩ = some x ∧ (w.alloc o).frozen? ⟨g, 0, none⟩ = false := fun o =>
  ⟨(((Below.refl _ w).alloc (Nat.le_refl _) o).cell (p := ⟨g, 0, none⟩) hg).trans hc, (((Below.refl _ w).alloc (Nat.le_refl _) o).frozen (p := ⟨g, 0, none⟩) hg).trans hf⟩
/-- The length in a slice value. -/
def lenOf : Value → Nat
  | .slice _ k _ => k
  | _ => 0

set_option maxHeartbeats 2000000 in
theorem splaces (base g p n : Nat) (w : World) (h : Rd base w g p) (hp : p ≤ 90000) (hn : n ≤ 24) :
    Calls Try.prog 77 #[.pointer (some ⟨g, 0, none⟩), .int .i64 n] w fun e w' => ∃ A cap l, e = .returned (.slice A n cap) ∧ Own w' w.heap.size A n cap l ∧ Drew base g p (n + 2) w w' := by
  have hg := h.hi
  have hlo := h.lo
  have H := Lib.hid h
  clear h
  have o0 : Only w (w.alloc (.cells #[] 3)) (some ⟨g, 0, none⟩) := Below.toOnly ((Below.refl _ _).alloc (Nat.le_refl _) _) _
  have r0 : Rd base (w.alloc (.cells #[] 3)) g p := H.out.below ((Below.refl _ _).alloc (Nat.le_refl _) _)
  have O0 := Lib.hid o0
  have R0 := Lib.hid r0
  clear o0 r0
  go_enter Try.func77, Try.ntmps77
  go_wp2
  go_loopw [5, 6] (fun v u wr => ∃ k a q A cap l, k ≤ n ∧ a < 16777216 ∧ wt a = k ∧ p ≤ q ∧ q ≤ p + k ∧ v = .slice A k cap ∧ u = .int .i64 (a : Nat) ∧ Own wr w.heap.size A k cap l ∧ Rd base wr g q ∧ Only w wr (some ⟨g, 0, none⟩)) (fun v _ _ => n - lenOf v)
  case atStart => exact ⟨0, 0, p, _, _, [], Nat.zero_le _, by decide, by decide, Nat.le_refl _, by omega, rfl, rfl, Own.lit w [] (by decide), R0.out, O0.out⟩
  case round =>
    obtain ⟨k, a, q, A, cap, l, hk, ha, hwt, hq1, hq2, rfl, rfl, hown, hrd, honly⟩ := hrel
    have HO := Lib.hid hown
    have R := Lib.hid hrd
    have O := Lib.hid honly
    have hsz := honly.size
    have hat := hown.at_base
    have HA := Lib.hid hat
    clear hown hrd honly hat
    by_cases hlt : k < n
    · have e1 : decide ((k : Int) < (n : Int)) = true := by simp; omega
      obtain ⟨f, hf24, hfb⟩ := free_place (x := a) (by omega)
      have HF := Lib.hid hfb
      clear hfb
      go_wp2_with fail
      refine (pick_any base g q 24 wr R.out (by omega) (by decide) (by decide)).mono ?_
      rintro e w1 ⟨d, hd, rfl, r1, o1⟩
      have HO1 := Lib.hid (HO.out.only o1 (fun x y hx hy => by have h1 := HA.out x hx; injection hy with hy; subst hy; show x.block ≠ g; omega))
      have R1 := Lib.hid r1
      have O1 := Lib.hid (O.out.trans o1)
      have hsz1 := Nat.le_trans hsz o1.size
      clear r1 o1
      go_wp2
      go_loop [7] (fun i => ∃ x : Nat, x < 24 ∧ i = .int .i64 x) (fun i => (f + 24 - (intOf i).toNat) % 24)
      case atStart => exact ⟨d, hd, rfl⟩
      case round =>
        obtain ⟨x, hx, rfl⟩ := hrel
        cases hb : a.testBit x with
        | true =>
          have e2 : ((bt a x : Int) == 1) = true := by rw [bt_one.2 hb]; rfl
          have hne : x ≠ f := fun e => by rw [e, HF.out] at hb; cases hb
          clear hb
          go_wp2_with (first | (go_at_call 48; refine (l1Bit_any a x _ (by omega) hx).mono ?_; rintro e w' ⟨rfl, rfl⟩))
          go_round
          case rel => exact ⟨(x + 1) % 24, by omega, by go_num⟩
          case measure => simp [intOf]; omega
        | false =>
          have e2 : ((bt a x : Int) == 1) = false := by rw [bt_zero.2 hb]; rfl
          have HB := Lib.hid hb
          clear hb
          go_wp2_with (first | (go_at_call 48; refine (l1Bit_any a x _ (by omega) hx).mono ?_; rintro e w' ⟨rfl, rfl⟩) | (at_builtin; refine wl_app _ rfl (.tmp 26) (.tmp 28) rfl w.heap.size A _ cap l _ rfl HO1.out rfl (by omega) hsz1 ?_))
          intro A2 cap2 w2 hown2 hb2
          have HO2 := Lib.hid hown2
          have R2 := Lib.hid (R1.out.keep hb2.size (fun i hi => hb2.block i (by omega)))
          have O2 := Lib.hid (O1.out.after hb2)
          clear hown2 hb2
          go_wp2
          go_roundw
          case rel => exact ⟨k + 1, a ||| 1 <<< x, q + 1, A2, cap2, _, by omega, or_lt ha (one_shl_lt hx), by rw [wt_put hx HB.out, hwt], by omega, by omega, by simp, int_eq (by rw [or_add ha hx HB.out]; exact i64_plus2 a x ha hx), HO2.out, R2.out, O2.out⟩
          case measure => simp [lenOf]; omega
    · obtain rfl : k = n := by omega
      have e1 : decide ((k : Int) < (k : Int)) = false := by simp
      by_cases h0 : k = 0
      · subst h0
        go_wp2
        go_ret
        exact ⟨A, cap, l, rfl, HO.out, Drew.of hq1 (by omega) R.out O.out⟩
      · have e2 : decide ((0 : Int) < (k : Int)) = true := by simp; omega
        go_wp2_with fail
        refine (pick_any base g q 20 wr R.out (by omega) (by decide) (by decide)).mono ?_
        rintro e w1 ⟨d, hd, rfl, r1, o1⟩
        have HO1 := Lib.hid (HO.out.only o1 (fun x y hx hy => by have h1 := HA.out x hx; injection hy with hy; subst hy; show x.block ≠ g; omega))
        have R1 := Lib.hid r1
        have O1 := Lib.hid (O.out.trans o1)
        have hsz1 := Nat.le_trans hsz o1.size
        clear r1 o1
        by_cases hd0 : d = 0
        · subst hd0
          obtain ⟨ga, rfl, hga1, hga2⟩ := HO1.out.form (by omega)
          have hl := HO1.out.length
          obtain ⟨y, hy⟩ : ∃ y, l[k - 1]? = some y := ⟨l[k - 1]'(by omega), List.getElem?_eq_getElem _⟩
          have hc := HO1.out.cell hy
          obtain ⟨y0, hy0⟩ : ∃ y0, l[0]? = some y0 := ⟨l[0]'(by omega), List.getElem?_eq_getElem _⟩
          have hc0 := HO1.out.cell hy0
          have hfr := HO1.out.free 0
          have HY := Lib.hid hy
          clear hy hl hy0
          have r1d := R1.out.drew
          have s1 : IntKind.i64.wrap ((k : Int) - 1) = (k : Int) - 1 := by rw [IntKind.wrap_i64]; omega
          have hgag : ga ≠ g := by omega
          have ka : ∀ o, (w1.alloc o).drew.cell? ⟨ga, k - 1, none⟩ = some (.int .i64 y) := fun o => (((Below.refl _ w1).alloc (Nat.le_refl _) o).cell (p := ⟨ga, k - 1, none⟩) hga2).trans hc
          have kf : ∀ o, (w1.alloc o).drew.frozen? ⟨ga, 0, none⟩ = false := fun o => (((Below.refl _ w1).alloc (Nat.le_refl _) o).frozen (p := ⟨ga, 0, none⟩) hga2).trans hfr
          have r1a : ∀ o, Rd base (w1.alloc o).drew g (q + 1) := fun o => R1.out.below ((Below.refl _ _).alloc (Nat.le_refl _) _).drew
          have ow : ∀ o, Only w1 (w1.alloc o).drew (some ⟨g, 0, none⟩) := fun o => Below.toOnly ((Below.refl _ _).alloc (Nat.le_refl _) _).drew _
          have hwg : w1.heap.size ≠ g := by omega
          have hsz3 : ∀ o, w1.heap.size < (w1.alloc o).drew.heap.size := fun o => by show w1.heap.size < (w1.alloc o).heap.size; simp
          have hv3 : ∀ (j : Nat) (u : Value), ([.int .i64 24, .int .i64 (-1), .int .i64 y] : List Value)[j]? = some u → (w1.alloc (.cells #[.int .i64 24, .int .i64 (-1), .int .i64 y] 3)).drew.cell? ⟨w1.heap.size, j, none⟩ = some u := fun j u h => by
            show (w1.alloc _).cell? _ = _
            rw [World.cell?_alloc_at _ _ _ _ rfl]
            simpa using h
          have s2 : (0 : Int) ≤ (k : Int) - 1 := by omega
          have s3 : (1 : Int) ≤ (k : Int) := by omega
          have s4 : (k : Int) - 1 < (k : Int) := by omega
          have s5 : ((k : Int) - 1).toNat = k - 1 := by omega
          go_wp2_with fail
          go_region_with (first | (go_at_call 75; refine (pick_any base g (q + 1) 3 _ ?_ (by omega) (by decide) (by decide)).mono ?_; (first | exact r1d | exact r1a _); rintro e w2 ⟨k3, hk3, rfl, r2, o2⟩; have oo : Only w1 w2 (some ⟨g, 0, none⟩) := (by first | exact ⟨o2.os, o2.tape, o2.output, o2.size, o2.block⟩ | exact (ow _).trans o2); have cc := (oo.cell (p := ⟨ga, k - 1, none⟩) hga2 hgag).trans hc; have ff := (oo.frozen (p := ⟨ga, 0, none⟩) hga2 hgag).trans hfr; have c2 := (oo.cell (p := ⟨ga, 0, none⟩) hga2 hgag).trans hc0; have kb := after_alloc (Nat.lt_of_lt_of_le hga2 oo.size) c2 ff; obtain ⟨v, hv⟩ := three_of y hk3; have hv2 := three_at hv; have hk30 : (0 : Int) ≤ (k3 : Int) := Int.natCast_nonneg _; have hk31 : (k3 : Int) < 3 := Int.ofNat_lt.2 hk3; (first | (have hw : w2.cell? ⟨w1.heap.size, k3, none⟩ = some (.int .i64 v) := ((o2.cell (p := ⟨w1.heap.size, k3, none⟩) (hsz3 _) hwg).trans (hv3 k3 _ hv))) | skip)))
          all_goals
            have HW := Lib.hid (HO1.out.only oo (fun x y hx hy => by injection hx with hx; injection hy with hy; subst hx; subst hy; exact hgag))
            have HR := Lib.hid r2
            have HQ := Lib.hid (O1.out.trans oo)
            have hsw := oo.size
            clear r1d s1 ka kf r1a ow hsz3 hv3 r2 o2 oo cc ff c2 kb hv hv2 hc hc0 hfr
            go_wp2
            go_ret
            first
              | exact ⟨_, cap, _, rfl, HW.out.set 0 v, Drew.of (q := q + 2) (by omega) (by omega) (HR.out.only ((Only.refl w2 (some ⟨ga, 0, none⟩)).setCell 0 _) (fun x hx => by injection hx with hx; subst hx; exact ⟨by show base ≤ ga; omega, hgag⟩)) (HQ.out.after ((Below.refl _ w2).setCell hga1 _))⟩
              | exact ⟨_, cap, _, rfl, (HW.out.alloc _).set 0 v, Drew.of (q := q + 2) (by omega) (by omega) ((HR.out.below ((Below.refl _ w2).alloc (Nat.le_refl _) _)).only ((Only.refl _ (some ⟨ga, 0, none⟩)).setCell 0 _) (fun x hx => by injection hx with hx; subst hx; exact ⟨by show base ≤ ga; omega, hgag⟩)) (HQ.out.after (((Below.refl _ w2).alloc (Nat.le_trans hsz1 hsw) _).setCell hga1 _))⟩
        · have e3 : ((d : Int) == 0) = false := by simp; omega
          go_wp2
          go_ret
          exact ⟨A, cap, l, rfl, HO1.out, Drew.of (by omega) (by omega) R1.out O1.out⟩

theorem Drew.le {base g p K L : Nat} {a w : World} (h : Drew base g p K a w) (hk : K ≤ L) : Drew base g p L a w := by
  obtain ⟨q, h1, h2, h3, h4⟩ := h
  exact ⟨q, h1, by omega, h3, h4⟩
/-- A drawing, and then a call that only makes memory. -/
theorem Drew.after {base g p K : Nat} {a w w' : World} (h : Drew base g p K a w) (hb : Below w.heap.size w w') : Drew base g p K a w' := by
  obtain ⟨q, h1, h2, h3, h4⟩ := h
  exact ⟨q, h1, h2, h3.below hb, h4.trans (Below.toOnly hb _)⟩
theorem near_nat {n : Nat} (h : n < 16777216) : Near (n : Int) := ⟨by omega, by omega⟩
theorem wordOf_lt (l : List Int) : (wordOf l).getD 0 < 16777216 := by
  cases h : wordOf l with
  | none => decide
  | some a => exact (wordOf_facts l a h).1

theorem sx_cases (x : Int) : (tetZ x = true ∧ (sxR x).length = 6) ∨ (tetZ x = false ∧ sxR x = []) := by
  cases h : tetZ x with
  | true =>
    obtain ⟨t, rfl, ht, h4⟩ := tetZ_nat h
    exact .inl ⟨rfl, by rw [(sx_yes ht h4).2, sext_len ht h4]⟩
  | false => exact .inr ⟨rfl, sx_no h⟩

set_option maxHeartbeats 400000 in
theorem sl1Places (x : Nat) (w : World) (hx : x < 16777216) :
    Calls Try.prog 58 #[.int .i64 x] w (Makes (nl (pl x)) w) := by
  go_enter Try.func58, Try.ntmps58
  go_wp2
  go_loopw [3, 4] (fun v i wr => ∃ k A cap, k ≤ 24 ∧ i = .int .i64 (k : Nat) ∧ v = .slice A (plTo x k).length cap ∧ Own wr w.heap.size A (plTo x k).length cap (nl (plTo x k)) ∧ Below w.heap.size w wr) (fun _ i _ => 24 - (intOf i).toNat)
  case atStart => exact ⟨0, _, _, Nat.zero_le _, rfl, rfl, Own.lit w [] (by decide), (Below.refl _ _).alloc (Nat.le_refl _) _⟩
  case round =>
    obtain ⟨k, A, cap, hk, rfl, rfl, hown, hb⟩ := hrel
    have HO := Lib.hid hown
    have HB := Lib.hid hb
    have hlen : (plTo x k).length ≤ 24 := by rw [plTo_len]; have := sm_le (n := k) (f := bt x) (g := fun _ => 1) (fun i _ => bt_le x i); rw [sm_const] at this; omega
    have hsz := hb.size
    clear hown hb
    by_cases hlt : k < 24
    · have hbit : bits .and .i64 ((x : Int) / 2 ^ k) 1 = (bt x k : Int) := i64_bit x k (by omega)
      cases hv : x.testBit k with
      | true =>
        have e1 : ((bt x k : Int) == 1) = true := by rw [bt_one.2 hv]; rfl
        have hy := plTo_yes hv
        have HY := Lib.hid hy
        clear hv hy
        go_wp2_with (first | (go_at_call 48; refine (l1Bit_any x k _ (by omega) hlt).mono ?_; rintro e w' ⟨rfl, rfl⟩) | (at_builtin; refine wl_app _ rfl (.tmp 14) (.tmp 16) rfl w.heap.size A _ cap (nl (plTo x k)) k rfl HO.out rfl (by omega) hsz ?_))
        intro A' cap' w1 hown1 hb1
        have HO1 := Lib.hid hown1
        clear hown1
        go_wp2
        go_roundw
        case rel =>
          refine ⟨k + 1, A', cap', by omega, by go_num, ?_, ?_, HB.out.trans hb1⟩
          · rw [HY.out]; simp
          · have := HO1.out
            rw [HY.out]
            simpa [nl_append, nl] using this
        case measure => simp [intOf]; omega
      | false =>
        have e1 : ((bt x k : Int) == 1) = false := by rw [bt_zero.2 hv]; rfl
        have hy := plTo_no hv
        have HY := Lib.hid hy
        clear hv hy
        go_wp2_with (first | (go_at_call 48; refine (l1Bit_any x k _ (by omega) hlt).mono ?_; rintro e w' ⟨rfl, rfl⟩))
        go_roundw
        case rel => exact ⟨k + 1, A, cap, by omega, by go_num, by rw [HY.out], by rw [HY.out]; exact HO.out, HB.out⟩
        case measure => simp [intOf]; omega
    · obtain rfl : k = 24 := by omega
      go_wp2
      go_ret
      exact ⟨A, _, cap, rfl, HO.out, HB.out⟩

/-- What is left of a drawn number under the mask of all places. -/
def maskR (x : Int) : Nat := if x = -1 then 16777215 else if x = 16777216 then 0 else x.toNat
theorem mask_eq {x : Int} (h : Near x) : bits .and .i64 x 16777215 = (maskR x : Int) ∧ maskR x < 16777216 := by
  obtain ⟨h1, h2⟩ := h
  by_cases e1 : x = -1
  · subst e1; exact ⟨rfl, by decide⟩
  · by_cases e2 : x = 16777216
    · subst e2; exact ⟨rfl, by decide⟩
    · obtain ⟨n, rfl⟩ := Int.eq_ofNat_of_zero_le (show 0 ≤ x from by omega)
      have hn : n < 16777216 := by omega
      have hm : maskR (n : Int) = n := by unfold maskR; rw [if_neg (by omega), if_neg (by omega)]; rfl
      rw [hm]
      refine ⟨?_, hn⟩
      have h := i64_and n 16777215 (by omega) (by decide)
      rw [show (n &&& 16777215 : Nat) = n from by
        rw [show (16777215 : Nat) = 2 ^ 24 - 1 from rfl, Nat.and_two_pow_sub_one_eq_mod]; exact Nat.mod_eq_of_lt hn] at h
      exact h
/-- Four different places. -/
theorem four_sum {a b c d : Nat} (h1 : a < b) (h2 : b < c) (h3 : c < d) (h4 : d < 24) : 1 <<< a + 1 <<< b + 1 <<< c + 1 <<< d < 16777216 := by
  have hb : ∀ {x y : Nat}, x < y → (1 <<< x).testBit y = false := fun h => by rw [bit_one]; simp; omega
  have e1 := or_add (one_shl_lt (show a < 24 by omega)) (show b < 24 by omega) (hb h1)
  have l1 := or_lt (one_shl_lt (show a < 24 by omega)) (one_shl_lt (show b < 24 by omega))
  have e2 := or_add l1 (show c < 24 by omega) (by rw [Nat.testBit_or, hb (show a < c by omega), hb h2]; rfl)
  have l2 := or_lt l1 (one_shl_lt (show c < 24 by omega))
  have e3 := or_add l2 h4 (by rw [Nat.testBit_or, Nat.testBit_or, hb (show a < d by omega), hb (show b < d by omega), hb h3]; rfl)
  have l3 := or_lt l2 (one_shl_lt h4)
  rw [← e1, ← e2, ← e3]
  exact l3
theorem wrap_nat {n : Nat} (h : n < 9223372036854775808) : IntKind.i64.wrap (n : Int) = (n : Int) := by rw [IntKind.wrap_i64]; omega
theorem four_wrap {a b c d : Nat} (h : 1 <<< a + 1 <<< b + 1 <<< c + 1 <<< d < 16777216) :
    IntKind.i64.wrap (IntKind.i64.wrap (IntKind.i64.wrap (IntKind.i64.wrap (2 ^ a) + IntKind.i64.wrap (2 ^ b)) + IntKind.i64.wrap (2 ^ c)) + IntKind.i64.wrap (2 ^ d)) = ((1 <<< a + 1 <<< b + 1 <<< c + 1 <<< d : Nat) : Int) := by
  rw [two_pow a, two_pow b, two_pow c, two_pow d]
  generalize 1 <<< a = x at *
  generalize 1 <<< b = y at *
  generalize 1 <<< c = z at *
  generalize 1 <<< d = u at *
  rw [wrap_nat (n := x) (by omega), wrap_nat (n := y) (by omega), wrap_nat (n := z) (by omega), wrap_nat (n := u) (by omega)]
  rw [show (x : Int) + (y : Int) = ((x + y : Nat) : Int) from by omega, wrap_nat (n := x + y) (by omega)]
  rw [show ((x + y : Nat) : Int) + (z : Int) = ((x + y + z : Nat) : Int) from by omega, wrap_nat (n := x + y + z) (by omega)]
  rw [show ((x + y + z : Nat) : Int) + (u : Int) = ((x + y + z + u : Nat) : Int) from by omega, wrap_nat (n := x + y + z + u) (by omega)]
theorem pl_four {m : Nat} (h : 4 ≤ (pl m).length) : ∃ a b c d, (pl m).getD 0 0 = a ∧ (pl m).getD 1 0 = b ∧ (pl m).getD 2 0 = c ∧ (pl m).getD 3 0 = d ∧ a < b ∧ b < c ∧ c < d ∧ d < 24 := by
  have hs := pl_sorted m
  have hm : ∀ i ∈ pl m, i < 24 := fun i hi => (mem_pl.1 hi).1
  match hp : pl m, h with
  | a :: b :: c :: d :: r, _ =>
    rw [hp] at hs hm
    simp only [List.pairwise_cons, List.mem_cons] at hs
    exact ⟨a, b, c, d, rfl, rfl, rfl, rfl, hs.1 b (.inl rfl), hs.2.1 c (.inl rfl), hs.2.2.1 d (.inl rfl), hm d (by simp)⟩

/-- A row apart from the reader's block stays while it is read. -/
theorem Own.sl_read {w w' : World} {base g : Nat} {A : Option Addr} {n cap : Nat} {l : List Int} (h : Own w base A n cap l) (hg : g < base) (o : Only w w' (some ⟨g, 0, none⟩)) : Own w' base A n cap l :=
  h.only o (fun x y hx hy => by have h1 := h.at_base x hx; injection hy with hy; subst hy; show x.block ≠ g; omega)
theorem Sl.read {w w' : World} {g : Nat} {A : Option Addr} {n cap : Nat} {l : List Int} (h : Sl w w.heap.size A n cap l) (hA : ∀ x, A = some x → x.block ≠ g) (o : Only w w' (some ⟨g, 0, none⟩)) : Sl w' w'.heap.size A n cap l :=
  (h.only o (Nat.le_refl _) (fun _ p1 p2 hp1 hp2 => by injection hp1 with hp1; subst hp1; exact fun e => hA p2 hp2 e.symm)).more o.size
theorem Only.drawn {B : Nat} {w w1 w2 : World} {g : Nat} (b : Below B w w1) (hB : B ≤ w.heap.size) (hg : B ≤ g) (o : Only w1 w2 (some ⟨g, 0, none⟩)) : Below B w w2 :=
  b.trans (o.below (Nat.le_trans hB b.size) (fun z hz => by injection hz with hz; subst hz; exact hg))

set_option maxHeartbeats 400000 in
theorem sbased (base g p : Nat) (w : World) (h : Rd base w g p) (hp : p ≤ 80000) :
    Calls Try.prog 69 #[.pointer (some ⟨g, 0, none⟩)] w fun e w' => ∃ x, Near x ∧ e = .returned (.int .i64 x) ∧ Drew base g p 20 w w' := by
  have H := Lib.hid h
  clear h
  go_enter Try.func69, Try.ntmps69
  go_wp2_with fail
  refine (splaces base g p 3 w H.out (by omega) (by decide)).mono ?_
  rintro e w1 ⟨A, cap, l, rfl, o, q, hq1, hq2, r1, o1⟩
  have HW := Lib.hid (sWordOf w1.heap.size A 3 cap l w1 o.sl (by decide))
  have hl := wordOf_lt l
  clear o
  generalize (wordOf l).getD 0 = x at HW hl
  generalize (wordOf l).isSome = v at HW
  go_wp2_with fail
  refine HW.out.mono ?_
  rintro e w' ⟨rfl, rfl⟩
  cases v with
  | false =>
    go_wp2_with fail
    refine (sword base g q w1 r1 (by omega)).mono ?_
    rintro e w2 ⟨y, hy, rfl, q2, hq3, hq4, r2, o2⟩
    have HD := Lib.hid (Drew.of (p := p) (K := 20) (by omega) (by omega) r2 (o1.trans o2))
    have HX := Lib.hid hy
    clear r1 o1 r2 o2 hy
    go_wp2
    go_ret
    exact ⟨y, HX.out, rfl, HD.out⟩
  | true =>
    go_wp2_with fail
    refine (pick_any base g q 20 w1 r1 (by omega) (by decide) (by decide)).mono ?_
    rintro e w2 ⟨k2, hk2, rfl, r2, o2⟩
    by_cases h0 : k2 = 0
    · subst h0
      go_wp2_with fail
      refine (sword base g (q + 1) w2 r2 (by omega)).mono ?_
      rintro e w3 ⟨y, hy, rfl, q2, hq3, hq4, r3, o3⟩
      have HD := Lib.hid (Drew.of (p := p) (K := 20) (by omega) (by omega) r3 ((o1.trans o2).trans o3))
      have HX := Lib.hid hy
      clear r1 o1 r2 o2 r3 o3 hy
      go_wp2
      go_ret
      exact ⟨y, HX.out, rfl, HD.out⟩
    · have e0 : ((k2 : Int) == 0) = false := by simp; omega
      have HD := Lib.hid (Drew.of (p := p) (K := 20) (by omega) (by omega) r2 (o1.trans o2))
      clear r1 o1 r2 o2
      go_wp2
      go_ret
      exact ⟨x, near_nat hl, rfl, HD.out⟩


theorem free_any {a : Nat} (h : a ≤ 16777216) (hm : a ≠ 16777215) : ∃ f, f < 24 ∧ a.testBit f = false := by
  by_cases e : a = 16777216
  · subst e; exact ⟨0, by decide, by decide⟩
  · have ha : a < 16777216 := by omega
    have hw : wt a < 24 := by
      rcases Nat.lt_or_ge (wt a) 24 with h1 | h1
      · exact h1
      · exact absurd (wt_all ha h1) hm
    exact free_place hw

set_option maxHeartbeats 1000000 in
theorem spointd (base g p : Nat) (x : Int) (w : World) (h : Rd base w g p) (hp : p ≤ 80000) (hx : Near x) :
    Calls Try.prog 72 #[.pointer (some ⟨g, 0, none⟩), .int .i64 x] w fun e w' => ∃ y : Nat, y < 24 ∧ e = .returned (.int .i64 y) ∧ Drew base g p 25 w w' := by
  have H := Lib.hid h
  clear h
  go_enter Try.func72, Try.ntmps72
  go_wp2_with fail
  refine (pick_any base g p 24 w H.out (by omega) (by decide) (by decide)).mono ?_
  rintro e w1 ⟨d, hd, rfl, r1, o1⟩
  have R1 := Lib.hid r1
  have O1 := Lib.hid o1
  clear r1 o1
  by_cases hneg : x < 0
  · have e1 : decide ((0 : Int) ≤ x) = false := by simp; omega
    go_wp2
    go_loopw [5] (fun i wr => i = .int .i64 (d : Nat) ∧ wr = w1) (fun _ _ => 0)
    case atStart => exact ⟨rfl, rfl⟩
    case round =>
      obtain ⟨rfl, rfl⟩ := hrel
      go_wp2
      go_ret
      exact ⟨d, hd, rfl, Drew.of (by omega) (by omega) R1.out O1.out⟩
  · obtain ⟨a, rfl⟩ := Int.eq_ofNat_of_zero_le (show 0 ≤ x from by omega)
    have e1 : decide ((0 : Int) ≤ (a : Int)) = true := by simp
    by_cases hm : a = 16777215
    · have e2 : ((a : Int) != 16777215) = false := by simp [hm]
      go_wp2
      go_loopw [5] (fun i wr => i = .int .i64 (d : Nat) ∧ wr = w1) (fun _ _ => 0)
      case atStart => exact ⟨rfl, rfl⟩
      case round =>
        obtain ⟨rfl, rfl⟩ := hrel
        go_wp2
        go_ret
        exact ⟨d, hd, rfl, Drew.of (by omega) (by omega) R1.out O1.out⟩
    · have e2 : ((a : Int) != 16777215) = true := by simp; omega
      have ha : a ≤ 16777216 := by have := hx.2; omega
      obtain ⟨f, hf, hfb⟩ := free_any ha hm
      have HF := Lib.hid hfb
      clear hfb hx
      go_wp2
      go_loopw [5] (fun i wr => ∃ y q : Nat, y < 24 ∧ i = .int .i64 y ∧ p + 1 ≤ q ∧ q + (f + 24 - y) % 24 ≤ p + 25 ∧ Rd base wr g q ∧ Only w wr (some ⟨g, 0, none⟩)) (fun i _ => (f + 24 - (intOf i).toNat) % 24)
      case atStart => exact ⟨d, p + 1, hd, rfl, Nat.le_refl _, by omega, R1.out, O1.out⟩
      case round =>
        obtain ⟨y, q, hy, rfl, hq1, hq2, hr, ho⟩ := hrel
        have R := Lib.hid hr
        have O := Lib.hid ho
        clear hr ho
        cases hb : a.testBit y with
        | false =>
          have e3 : ((bt a y : Int) == 1) = false := by rw [bt_zero.2 hb]; rfl
          clear hb
          go_wp2_with (first | (go_at_call 48; refine (l1Bit_any a y _ (by omega) hy).mono ?_; rintro e w' ⟨rfl, rfl⟩))
          go_ret
          exact ⟨y, hy, rfl, Drew.of (by omega) (by omega) R.out O.out⟩
        | true =>
          have e3 : ((bt a y : Int) == 1) = true := by rw [bt_one.2 hb]; rfl
          have hne : y ≠ f := fun e => by rw [e, HF.out] at hb; cases hb
          clear hb
          go_wp2_with fail
          refine (l1Bit_any a y _ (by omega) hy).mono ?_
          rintro e w' ⟨rfl, rfl⟩
          go_wp2_with fail
          refine (pick_any base g q 30 wr R.out (by omega) (by decide) (by decide)).mono ?_
          rintro e w2 ⟨k, hk, rfl, r2, o2⟩
          have R2 := Lib.hid r2
          have O2 := Lib.hid (O.out.trans o2)
          clear r2 o2
          by_cases h0 : k = 0
          · subst h0
            go_wp2
            go_ret
            exact ⟨y, hy, rfl, Drew.of (by omega) (by omega) R2.out O2.out⟩
          · have e4 : decide ((0 : Int) < (k : Int)) = true := by simp; omega
            go_wp2
            go_roundw
            case rel => exact ⟨(y + 1) % 24, q + 1, by omega, by go_num, by omega, by omega, R2.out, O2.out⟩
            case measure => simp [intOf]; omega

theorem dPlaneLines (A : Option Addr) (n cap : Nat) (zs : List Int) (w : World) (h : IsRow .u8 w A n cap zs) (hn : n ≤ 1048576) :
    Calls Try.prog 26 #[.slice A n cap] w fun e w' => (∃ x, e = .returned (.int .i64 x)) ∧ Below w.heap.size w w' := by
  have H := Lib.hid h
  clear h
  go_enter Try.func26, Try.ntmps26
  go_wp2_with fail
  refine (sopen A n cap zs w H.out hn).mono ?_
  rintro e w1 ⟨g, rfl, r1, b1⟩
  have hgl := r1.lo
  have hgi := r1.hi
  go_wp2_with fail
  refine (sbased w.heap.size g 0 w1 r1 (by decide)).mono ?_
  rintro e w2 ⟨x, hx, rfl, q, hq1, hq2, r2, o2⟩
  have B2 := Lib.hid (Only.drawn b1 (Nat.le_refl _) hgl o2)
  have R2 := Lib.hid r2
  have hz2 : g < w2.heap.size := r2.hi
  clear r1 b1 r2 o2
  clear hx
  go_wp2
  go_ret
  exact ⟨⟨x, rfl⟩, B2.out⟩

theorem dPlaneOn (A : Option Addr) (n cap : Nat) (zs : List Int) (w : World) (h : IsRow .u8 w A n cap zs) (hn : n ≤ 1048576) :
    Calls Try.prog 34 #[.slice A n cap] w fun e w' => (∃ x y, e = .returned (.tuple #[.int .i64 x, .int .i64 y])) ∧ Below w.heap.size w w' := by
  have H := Lib.hid h
  clear h
  go_enter Try.func34, Try.ntmps34
  go_wp2_with fail
  refine (sopen A n cap zs w H.out hn).mono ?_
  rintro e w1 ⟨g, rfl, r1, b1⟩
  have hgl := r1.lo
  have hgi := r1.hi
  go_wp2_with fail
  refine (sbased w.heap.size g 0 w1 r1 (by decide)).mono ?_
  rintro e w2 ⟨x, hx, rfl, q, hq1, hq2, r2, o2⟩
  have B2 := Lib.hid (Only.drawn b1 (Nat.le_refl _) hgl o2)
  have R2 := Lib.hid r2
  have hz2 : g < w2.heap.size := r2.hi
  clear r1 b1 r2 o2
  go_wp2_with fail
  refine (spointd w.heap.size g q x w2 R2.out (by omega) hx).mono ?_
  rintro e w3 ⟨p3, hp3, rfl, q3, hq3a, hq3b, r3, o3⟩
  have B3 := Lib.hid (Only.drawn B2.out (Nat.le_refl _) hgl o3)
  have R3 := Lib.hid r3
  clear r3 o3
  go_wp2
  go_ret2
  exact ⟨⟨x, _, rfl⟩, B3.out⟩

theorem dPlaneLine (A : Option Addr) (n cap : Nat) (zs : List Int) (w : World) (h : IsRow .u8 w A n cap zs) (hn : n ≤ 1048576) :
    Calls Try.prog 31 #[.slice A n cap] w fun e w' => (∃ x y z, e = .returned (.tuple #[.int .i64 x, .int .i64 y, .int .i64 z])) ∧ Below w.heap.size w w' := by
  have H := Lib.hid h
  clear h
  go_enter Try.func31, Try.ntmps31
  go_wp2_with fail
  refine (sopen A n cap zs w H.out hn).mono ?_
  rintro e w1 ⟨g, rfl, r1, b1⟩
  have hgl := r1.lo
  have hgi := r1.hi
  go_wp2_with fail
  refine (sbased w.heap.size g 0 w1 r1 (by decide)).mono ?_
  rintro e w2 ⟨x, hx, rfl, q, hq1, hq2, r2, o2⟩
  have B2 := Lib.hid (Only.drawn b1 (Nat.le_refl _) hgl o2)
  have R2 := Lib.hid r2
  have hz2 : g < w2.heap.size := r2.hi
  clear r1 b1 r2 o2
  go_wp2_with fail
  refine (spointd w.heap.size g q x w2 R2.out (by omega) hx).mono ?_
  rintro e w3 ⟨p3, hp3, rfl, q3, hq3a, hq3b, r3, o3⟩
  have B3 := Lib.hid (Only.drawn B2.out (Nat.le_refl _) hgl o3)
  have R3 := Lib.hid r3
  clear r3 o3
  go_wp2_with fail
  refine (spointd w.heap.size g q3 x w3 R3.out (by omega) hx).mono ?_
  rintro e w4 ⟨p4, hp4, rfl, q4, hq4a, hq4b, r4, o4⟩
  have B4 := Lib.hid (Only.drawn B3.out (Nat.le_refl _) hgl o4)
  have R4 := Lib.hid r4
  clear r4 o4
  go_wp2
  go_ret3
  exact ⟨⟨x, _, _, rfl⟩, B4.out⟩

set_option maxHeartbeats 400000 in
theorem dFour (A : Option Addr) (n cap : Nat) (zs : List Int) (w : World) (h : IsRow .u8 w A n cap zs) (hn : n ≤ 1048576) :
    Calls Try.prog 79 #[.slice A n cap] w fun e w' => (∃ x y, e = .returned (.tuple #[.int .i64 x, .int .i64 y])) ∧ Below w.heap.size w w' := by
  have H := Lib.hid h
  clear h
  go_enter Try.func79, Try.ntmps79
  go_wp2_with fail
  refine (sopen A n cap zs w H.out hn).mono ?_
  rintro e w1 ⟨g, rfl, r1, b1⟩
  have hgl := r1.lo
  have hgi := r1.hi
  go_wp2_with fail
  refine (sbased w.heap.size g 0 w1 r1 (by decide)).mono ?_
  rintro e w2 ⟨x, hx, rfl, q, hq1, hq2, r2, o2⟩
  have B2 := Lib.hid (Only.drawn b1 (Nat.le_refl _) hgl o2)
  have R2 := Lib.hid r2
  have hz2 : g < w2.heap.size := r2.hi
  clear r1 b1 r2 o2
  go_wp2
  go_loopw [6, 7] (fun v iv wr => ∃ k a p : Nat, k ≤ 4 ∧ iv = .int .i64 (k : Nat) ∧ v = .int .i64 (a : Nat) ∧ a < 16777216 ∧ p ≤ 100 + 25 * k ∧ Rd w.heap.size wr g p ∧ Below w.heap.size w wr) (fun _ iv _ => 4 - (intOf iv).toNat)
  case atStart => exact ⟨0, 0, q, Nat.zero_le _, rfl, rfl, by decide, by omega, R2.out, B2.out⟩
  case round =>
    obtain ⟨k, a, p, hk, rfl, rfl, hal, hp, hr, hb⟩ := hrel
    have R := Lib.hid hr
    have B := Lib.hid hb
    clear hr hb
    by_cases hlt : k < 4
    · go_wp2_with fail
      refine (spointd w.heap.size g p x wr R.out (by omega) hx).mono ?_
      rintro e w3 ⟨y, hy, rfl, q3, hq3a, hq3b, r3, o3⟩
      have B3 := Lib.hid (Only.drawn B.out (Nat.le_refl _) hgl o3)
      have R3 := Lib.hid r3
      clear r3 o3
      go_wp2
      go_roundw
      case rel => exact ⟨k + 1, a ||| 1 <<< y, q3, by omega, by go_num, int_eq (i64_put a y hal hy), or_lt hal (one_shl_lt hy), by omega, R3.out, B3.out⟩
      case measure => simp [intOf]; omega
    · obtain rfl : k = 4 := by omega
      go_wp2
      go_ret2
      exact ⟨⟨x, _, rfl⟩, B.out⟩

theorem dPlaneFour (A : Option Addr) (n cap : Nat) (zs : List Int) (w : World) (h : IsRow .u8 w A n cap zs) (hn : n ≤ 1048576) :
    Calls Try.prog 43 #[.slice A n cap] w fun e w' => (∃ x y, e = .returned (.tuple #[.int .i64 x, .int .i64 y])) ∧ Below w.heap.size w w' := by
  have H := Lib.hid h
  clear h
  go_enter Try.func43, Try.ntmps43
  go_wp2_with fail
  refine (dFour A n cap zs w H.out hn).mono ?_
  rintro e w1 ⟨⟨x, y, rfl⟩, b1⟩
  have B1 := Lib.hid b1
  clear b1
  go_wp2
  go_ret2
  exact ⟨⟨x, y, rfl⟩, B1.out⟩

theorem dPlaneSub (A : Option Addr) (n cap : Nat) (zs : List Int) (w : World) (h : IsRow .u8 w A n cap zs) (hn : n ≤ 1048576) :
    Calls Try.prog 45 #[.slice A n cap] w fun e w' => (∃ x y, e = .returned (.tuple #[.int .i64 x, .int .i64 y])) ∧ Below w.heap.size w w' := by
  have H := Lib.hid h
  clear h
  go_enter Try.func45, Try.ntmps45
  go_wp2_with fail
  refine (dFour A n cap zs w H.out hn).mono ?_
  rintro e w1 ⟨⟨x, y, rfl⟩, b1⟩
  have B1 := Lib.hid b1
  clear b1
  go_wp2
  go_ret2
  exact ⟨⟨x, y, rfl⟩, B1.out⟩

/-- A row apart from the reader's block, read behind a drawing. -/
theorem Sl.reads {w : World} {g bb ob n c : Nat} {L : List Nat} (S : Sl w w.heap.size (some ⟨bb, ob, none⟩) n c (nl L)) (hA : bb ≠ g) :
    ∀ (w8 : World) (k : Nat), Only w.drew w8 (some ⟨g, 0, none⟩) → k < n → w8.cell? ⟨bb, ob + k, none⟩ = some (.int .i64 ((L.getD k 0 : Nat) : Int)) := fun w8 k o8 hk => by
  have S8 := Sl.read (w := w.drew) S.drew (fun x hx => by injection hx with hx; subst hx; exact hA) o8
  obtain ⟨b', o', e, _, hc⟩ := S8.nats (by omega)
  injection e with e
  injection e with e1 e2
  subst e1
  subst e2
  exact hc k hk

set_option maxHeartbeats 1000000 in
theorem dPlaneOvals (A : Option Addr) (n cap : Nat) (zs : List Int) (w : World) (h : IsRow .u8 w A n cap zs) (hn : n ≤ 1048576) :
    Calls Try.prog 41 #[.slice A n cap] w fun e w' => (∃ x y z, e = .returned (.tuple #[.int .i64 x, .int .i64 y, .int .i64 z])) ∧ Below w.heap.size w w' := by
  have H := Lib.hid h
  clear h
  go_enter Try.func41, Try.ntmps41
  go_wp2_with fail
  refine (sopen A n cap zs w H.out hn).mono ?_
  rintro e w1 ⟨g, rfl, r1, b1⟩
  have hgl := r1.lo
  have hgi := r1.hi
  go_wp2_with fail
  refine (sbased w.heap.size g 0 w1 r1 (by decide)).mono ?_
  rintro e w2 ⟨x, hx, rfl, q, hq1, hq2, r2, o2⟩
  have B2 := Lib.hid (Only.drawn b1 (Nat.le_refl _) hgl o2)
  have R2 := Lib.hid r2
  have hz2 : g < w2.heap.size := r2.hi
  clear r1 b1 r2 o2
  obtain ⟨hmask, hml⟩ := mask_eq hx
  go_wp2_with fail
  refine (sl1Places (maskR x) w2 hml).mono ?_
  rintro e w3 ⟨A3, n3, c3, rfl, o3, b3⟩
  have hl3 := o3.length
  have hn3 : n3 ≤ 24 := by rw [nl_length, pl_len] at hl3; have := wt_le (maskR x); omega
  have hpl : ∀ k, k < n3 → (pl (maskR x)).getD k 0 < 24 := fun k hk => (mem_pl.1 (getD_mem (by rw [nl_length] at hl3; omega))).1
  have HS := Lib.hid o3.sl
  have HAT := Lib.hid o3.at_base
  have R3 := Lib.hid (R2.out.below b3)
  have B3 := Lib.hid (below_to B2.out b3 (Nat.le_refl _))
  clear o3 b3 hl3
  generalize pl (maskR x) = L at HS hpl
  by_cases h2 : n3 < 2
  · have e1 : decide ((n3 : Int) < 2) = true := by simp; omega
    go_wp2
    go_ret3
    exact ⟨⟨x, _, _, rfl⟩, B3.out⟩
  · have e1 : decide ((n3 : Int) < 2) = false := by simp; omega
    go_wp2_with fail
    refine (pick_any w.heap.size g q n3 w3 R3.out (by omega) (by omega) (by omega)).mono ?_
    rintro e w4 ⟨k4, hk4, rfl, r4, o4⟩
    have S4 := HS.out.read (fun z hz => by have := HAT.out z hz; omega) o4
    obtain ⟨bb, ob, rfl, hbb, hcells⟩ := S4.nats (by omega)
    have hne : bb ≠ g := by have := HAT.out ⟨bb, ob, none⟩ rfl; have : w2.heap.size ≤ bb := this; omega
    have c4 := hcells k4 hk4
    have i0 : (0 : Int) ≤ (k4 : Int) := Int.natCast_nonneg _
    have i1 : (k4 : Int) < (n3 : Int) := by omega
    have HC := Lib.hid (Sl.reads S4 hne)
    have HI := Lib.hid (show ∀ k : Nat, k < n3 → (k : Int) < (n3 : Int) from fun k hk => by omega)
    have B4 := Lib.hid (Only.drawn B3.out (Nat.le_refl _) hgl o4)
    have HFIN := Lib.hid (fun (w8 : World) (o8 : Only w4.drew w8 (some ⟨g, 0, none⟩)) => Only.drawn B4.out.drew (Nat.le_refl _) hgl o8)
    have R4d := Lib.hid r4.drew
    have hp1 : q + 1 ≤ 1000000 := by omega
    have hp2 : 1 ≤ n3 := by omega
    have hp3 : n3 ≤ 1000000 := by omega
    clear hcells r4 o4 S4 hpl
    go_wp2_with fail
    go_region_with (first | (go_at_call 75; refine (pick_any w.heap.size g (q + 1) n3 w4.drew ?_ hp1 hp2 hp3).mono ?_; (exact R4d.out); rintro e w8 ⟨k8, hk8, rfl, r8, o8⟩; have i80 : (0 : Int) ≤ (k8 : Int) := Int.natCast_nonneg _; have i81 := HI.out k8 hk8; have c8 := HC.out w8 k8 o8 hk8; have F8 := HFIN.out w8 o8; clear r8 o8))
    all_goals
      have HF := Lib.hid F8
      clear F8
      go_wp2
      go_ret3
      exact ⟨⟨x, _, _, rfl⟩, HF.out⟩

set_option maxHeartbeats 2000000 in
theorem dPlaneOval (A : Option Addr) (n cap : Nat) (zs : List Int) (w : World) (h : IsRow .u8 w A n cap zs) (hn : n ≤ 1048576) :
    Calls Try.prog 37 #[.slice A n cap] w fun e w' => (∃ x y, e = .returned (.tuple #[.int .i64 x, .int .i64 y])) ∧ Below w.heap.size w w' := by
  have H := Lib.hid h
  clear h
  go_enter Try.func37, Try.ntmps37
  go_wp2_with fail
  refine (sopen A n cap zs w H.out hn).mono ?_
  rintro e w1 ⟨g, rfl, r1, b1⟩
  have hgl := r1.lo
  have hgi := r1.hi
  go_wp2_with fail
  refine (sbased w.heap.size g 0 w1 r1 (by decide)).mono ?_
  rintro e w2 ⟨x, hx, rfl, q, hq1, hq2, r2, o2⟩
  have B2 := Lib.hid (Only.drawn b1 (Nat.le_refl _) hgl o2)
  have R2 := Lib.hid r2
  have hz2 : g < w2.heap.size := r2.hi
  clear r1 b1 r2 o2
  obtain ⟨hmask, hml⟩ := mask_eq hx
  go_wp2_with fail
  refine (sl1Places (maskR x) w2 hml).mono ?_
  rintro e w3 ⟨A3, n3, c3, rfl, o3, b3⟩
  have hl3 := o3.length
  have hn3 : n3 ≤ 24 := by rw [nl_length, pl_len] at hl3; have := wt_le (maskR x); omega
  have hpl : ∀ k, k < n3 → (pl (maskR x)).getD k 0 < 24 := fun k hk => (mem_pl.1 (getD_mem (by rw [nl_length] at hl3; omega))).1
  have HS := Lib.hid o3.sl
  have HAT := Lib.hid o3.at_base
  have R3 := Lib.hid (R2.out.below b3)
  have B3 := Lib.hid (below_to B2.out b3 (Nat.le_refl _))
  clear o3 b3 hl3
  generalize pl (maskR x) = L at HS hpl
  have tail : ∀ (p : Nat) (W : World), p ≤ 200 → Rd w.heap.size W g p → Below w.heap.size w W → Calls Try.prog 77 #[.pointer (some ⟨g, 0, none⟩), .int .i64 6] W fun e w' => ∃ A cap l, e = .returned (.slice A 6 cap) ∧ Sl w' w'.heap.size A 6 cap l ∧ Below w.heap.size w w' := fun p W hp hr hb =>
    (splaces w.heap.size g p 6 W hr (by omega) (by decide)).mono fun e w' ⟨A, cap, l, he, ho, q, _, _, _, oo⟩ => ⟨A, cap, l, he, ho.sl, Only.drawn hb (Nat.le_refl _) hgl oo⟩
  have HTAIL := Lib.hid tail
  clear tail
  by_cases hpos : 0 ≤ x ∧ n3 = 3
  · obtain ⟨hx0, rfl⟩ := hpos
    have e1 : decide ((0 : Int) ≤ x) = true := by simp; omega
    go_wp2_with fail
    refine (pick_any w.heap.size g q 3 w3 R3.out (by omega) (by decide) (by decide)).mono ?_
    rintro e w4 ⟨k4, hk4, rfl, r4, o4⟩
    have B4 := Lib.hid (Only.drawn B3.out (Nat.le_refl _) hgl o4)
    by_cases h0 : k4 = 0
    · subst h0
      have HT := Lib.hid (HTAIL.out (q + 1) w4 (by omega) r4 B4.out)
      clear r4 o4 HTAIL
      go_wp2_with fail
      refine HT.out.mono ?_
      rintro e w5 ⟨A5, c5, l5, rfl, s5, b5⟩
      have HW := Lib.hid (sWordOf _ _ _ _ _ w5 s5 (by decide))
      have HB := Lib.hid b5
      clear s5 b5 HT
      go_wp2_with fail
      refine HW.out.mono ?_
      rintro e w' ⟨rfl, rfl⟩
      go_wp2
      go_ret2
      exact ⟨⟨x, _, rfl⟩, HB.out⟩
    · have e2 : decide ((0 : Int) < (k4 : Int)) = true := by simp; omega
      have S4 := HS.out.read (fun z hz => by have := HAT.out z hz; omega) o4
      obtain ⟨bb, ob, rfl, hbb, hcells⟩ := S4.nats (by omega)
      have c0 := hcells 0 (by decide)
      have c1 := hcells 1 (by decide)
      rw [Nat.add_zero] at c0
      generalize L.getD 0 0 = y0 at c0
      generalize L.getD 1 0 = y1 at c1
      have R4d := Lib.hid r4.drew
      have B4d := Lib.hid B4.out.drew
      clear hcells r4 o4 S4 hpl HS HAT HTAIL
      go_wp2_with fail
      go_region_with (first | (go_at_call 15; refine (sPlaneOvals x (y0 : Int) (y1 : Int) w4.drew).mono ?_; rintro e w6 ⟨A6, n6, c6, rfl, o6, b6⟩))
      all_goals
        clear c0 c1
        have hn6 : n6 ≤ 56 := by have := o6.length; have := ov_len x (y0 : Int) (y1 : Int); omega
        have B6 := Lib.hid (below_to B4d.out b6 (Nat.le_refl _))
        have R6 := Lib.hid (R4d.out.below b6)
        have S6 := Lib.hid o6.sl
        have hgi5 := R4d.out.hi
        have HAT6 := Lib.hid o6.at_base
        clear o6 b6
        generalize ovR x (y0 : Int) (y1 : Int) = M at S6
        have fin : ∀ W, Below w.heap.size w W → Rd w.heap.size W g (q + 1) → Calls Try.prog 77 #[.pointer (some ⟨g, 0, none⟩), .int .i64 6] W fun e w' => ∃ A cap l, e = .returned (.slice A 6 cap) ∧ Sl w' w'.heap.size A 6 cap l ∧ Below w.heap.size w w' := fun W hb hr =>
          (splaces w.heap.size g (q + 1) 6 W hr (by omega) (by decide)).mono fun e w' ⟨A, cap, l, he, ho, q, _, _, _, oo⟩ => ⟨A, cap, l, he, ho.sl, Only.drawn hb (Nat.le_refl _) hgl oo⟩
        have HFN := Lib.hid (fin w6 B6.out R6.out)
        clear fin
        by_cases hok : ovOk x (y0 : Int) (y1 : Int) = true ∧ 0 < n6
        · obtain ⟨hv, hn0⟩ := hok
          rw [hv]
          have e3 : decide ((0 : Int) < (n6 : Int)) = true := by simp; omega
          obtain ⟨bb, ob, rfl, hbb, hcells⟩ := S6.out.nats hn0
          have hne : bb ≠ g := by have := HAT6.out ⟨bb, ob, none⟩ rfl; have : w4.drew.heap.size ≤ bb := this; omega
          have HC := Lib.hid (Sl.reads S6.out hne)
          have HI := Lib.hid (show ∀ k : Nat, k < n6 → (k : Int) < (n6 : Int) from fun k hk => by omega)
          have HFIN := Lib.hid (fun (w8 : World) (o8 : Only w6.drew w8 (some ⟨g, 0, none⟩)) => Only.drawn B6.out.drew (Nat.le_refl _) hgl o8)
          have R6d := Lib.hid R6.out.drew
          have hp1 : q + 1 ≤ 1000000 := by omega
          have hp2 : 1 ≤ n6 := by omega
          have hp3 : n6 ≤ 1000000 := by omega
          clear hcells hv HFN
          go_wp2_with fail
          go_region_with (first | (go_at_call 75; refine (pick_any w.heap.size g (q + 1) n6 w6.drew ?_ hp1 hp2 hp3).mono ?_; (exact R6d.out); rintro e w8 ⟨k8, hk8, rfl, r8, o8⟩; have i80 : (0 : Int) ≤ (k8 : Int) := Int.natCast_nonneg _; have i81 := HI.out k8 hk8; have c8 := HC.out w8 k8 o8 hk8; have F8 := HFIN.out w8 o8; clear r8 o8))
          all_goals
            have HF := Lib.hid F8
            clear F8
            go_wp2
            go_ret2
            exact ⟨⟨x, _, rfl⟩, HF.out⟩
        · have hor : ovOk x (y0 : Int) (y1 : Int) = false ∨ (ovOk x (y0 : Int) (y1 : Int) = true ∧ n6 = 0) := by
            cases hv : ovOk x (y0 : Int) (y1 : Int) with
            | false => exact .inl rfl
            | true => exact .inr ⟨rfl, by rw [hv] at hok; simp at hok; omega⟩
          clear hok
          rcases hor with hv | ⟨hv, rfl⟩
          all_goals
            rw [hv]
            clear hv
            go_wp2_with fail
            refine HFN.out.mono ?_
            rintro e w7 ⟨A7, c7, l7, rfl, s7, b7⟩
            have HW := Lib.hid (sWordOf _ _ _ _ _ w7 s7 (by decide))
            have HB := Lib.hid b7
            clear s7 b7
            go_wp2_with fail
            refine HW.out.mono ?_
            rintro e w' ⟨rfl, rfl⟩
            go_wp2
            go_ret2
            exact ⟨⟨x, _, rfl⟩, HB.out⟩
  · have HT := Lib.hid (HTAIL.out q w3 (by omega) R3.out B3.out)
    clear HTAIL
    by_cases hx0 : 0 ≤ x
    · have e1 : decide ((0 : Int) ≤ x) = true := by simp; omega
      have e2 : ((n3 : Int) == 3) = false := by simp; omega
      go_wp2_with fail
      refine HT.out.mono ?_
      rintro e w5 ⟨A5, c5, l5, rfl, s5, b5⟩
      have HW := Lib.hid (sWordOf _ _ _ _ _ w5 s5 (by decide))
      have HB := Lib.hid b5
      clear s5 b5 HT
      go_wp2_with fail
      refine HW.out.mono ?_
      rintro e w' ⟨rfl, rfl⟩
      go_wp2
      go_ret2
      exact ⟨⟨x, _, rfl⟩, HB.out⟩
    · have e1 : decide ((0 : Int) ≤ x) = false := by simp; omega
      go_wp2_with fail
      refine HT.out.mono ?_
      rintro e w5 ⟨A5, c5, l5, rfl, s5, b5⟩
      have HW := Lib.hid (sWordOf _ _ _ _ _ w5 s5 (by decide))
      have HB := Lib.hid b5
      clear s5 b5 HT
      go_wp2_with fail
      refine HW.out.mono ?_
      rintro e w' ⟨rfl, rfl⟩
      go_wp2
      go_ret2
      exact ⟨⟨x, _, rfl⟩, HB.out⟩

end Go.Proofs.Ytinfpggpfpmpbaa
