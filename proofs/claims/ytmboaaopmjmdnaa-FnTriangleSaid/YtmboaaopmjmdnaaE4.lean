import Derived.Test.YtmboaaopmjmdnaaE3
import Derived.Deep.RegionHeld3
import Derived.Deep.RegionWith
namespace Go.Proofs.Ytmboaaopmjmdnaa
open Go.RowKit

theorem free_place {x : Nat} (h : wt x < 24) : ∃ q, q < 24 ∧ x.testBit q = false := by
  by_cases hh : ∃ q, q < 24 ∧ x.testBit q = false
  · exact hh
  · exfalso
    have e : wt x = sm 24 (fun _ => 1) := by
      unfold wt
      refine sm_congr fun i hi => ?_
      rw [bt_one]
      cases hb : x.testBit i with
      | true => rfl
      | false => exact absurd ⟨i, hi, hb⟩ hh
    rw [sm_const] at e
    omega
theorem Only.after {a b c : World} {A : Option Addr} (h : Only a b A) (k : Below a.heap.size b c) : Only a c A :=
  ⟨k.os.trans h.os, k.tape.trans h.tape, k.output.trans h.output, Nat.le_trans h.size k.size, fun i hi hne => (k.block i hi).trans (h.block i hi hne)⟩
theorem Rd.drew {base : Nat} {w : World} {g p : Nat} (h : Rd base w g p) : Rd base w.drew g p := ⟨h.lo, h.hi, h.pos, h.thaw, h.code⟩
theorem Only.cell {w w' : World} {g : Nat} (h : Only w w' (some ⟨g, 0, none⟩)) {p : Addr} (hp : p.block < w.heap.size) (hne : p.block ≠ g) : w'.cell? p = w.cell? p :=
  World.cell?_of_block (w := w) (h.block p.block hp (fun e => hne (by simpa using e)))
theorem Only.frozen {w w' : World} {g : Nat} (h : Only w w' (some ⟨g, 0, none⟩)) {p : Addr} (hp : p.block < w.heap.size) (hne : p.block ≠ g) : w'.frozen? p = w.frozen? p :=
  World.frozen?_of_block (w := w) (h.block p.block hp (fun e => hne (by simpa using e)))
theorem three_of (y : Int) {k : Nat} (hk : k < 3) : ∃ v, ([.int .i64 24, .int .i64 (-1), .int .i64 y] : List Value)[k]? = some (.int .i64 v) := by
  match k, hk with
  | 0, _ => exact ⟨24, rfl⟩
  | 1, _ => exact ⟨-1, rfl⟩
  | 2, _ => exact ⟨y, rfl⟩
theorem three_at {y v : Int} {k : Nat} (hv : ([.int .i64 24, .int .i64 (-1), .int .i64 y] : List Value)[k]? = some (.int .i64 v)) : ∀ h : k < ([.int .i64 24, .int .i64 (-1), .int .i64 y] : List Value).length, ([.int .i64 24, .int .i64 (-1), .int .i64 y] : List Value)[k]'h = .int .i64 v :=
  fun _ => (List.getElem?_eq_some_iff.1 hv).2
theorem after_alloc {w : World} {g : Nat} {x : Value} (hg : g < w.heap.size) (hc : w.cell? ⟨g, 0, none⟩ = some x) (hf : w.frozen? ⟨g, 0, none⟩ = false) :
    ∀ o, (w.alloc o).cell? ⟨g, 0, none⟩ = some x ∧ (w.alloc o).frozen? ⟨g, 0, none⟩ = false := fun o =>
  ⟨(((Below.refl _ w).alloc (Nat.le_refl _) o).cell (p := ⟨g, 0, none⟩) hg).trans hc, (((Below.refl _ w).alloc (Nat.le_refl _) o).frozen (p := ⟨g, 0, none⟩) hg).trans hf⟩
/-- The length in a slice value. -/
def lenOf : Value → Nat
  | .slice _ k _ => k
  | _ => 0

set_option maxHeartbeats 2000000 in
theorem splaces (base g p n : Nat) (w : World) (h : Rd base w g p) (hp : p ≤ 90000) (hn : n ≤ 24) :
    Calls Try.prog 21 #[.pointer (some ⟨g, 0, none⟩), .int .i64 n] w fun e w' => ∃ A cap l, e = .returned (.slice A n cap) ∧ Own w' w.heap.size A n cap l ∧ Drew base g p (n + 2) w w' := by
  have hg := h.hi
  have hlo := h.lo
  have H := Lib.hid h
  clear h
  have o0 : Only w (w.alloc (.cells #[] 3)) (some ⟨g, 0, none⟩) := Below.toOnly ((Below.refl _ _).alloc (Nat.le_refl _) _) _
  have r0 : Rd base (w.alloc (.cells #[] 3)) g p := H.out.below ((Below.refl _ _).alloc (Nat.le_refl _) _)
  have O0 := Lib.hid o0
  have R0 := Lib.hid r0
  clear o0 r0
  go_enter Try.func21, Try.ntmps21
  go_wp2
  go_loopw [5, 6] (fun v u wr => ∃ k a q A cap l, k ≤ n ∧ a < 16777216 ∧ wt a = k ∧ p ≤ q ∧ q ≤ p + k ∧ v = .slice A k cap ∧ u = .int .i64 (a : Nat) ∧ Own wr w.heap.size A k cap l ∧ Rd base wr g q ∧ Only w wr (some ⟨g, 0, none⟩)) (fun v _ _ => n - lenOf v)
  case atStart => exact ⟨0, 0, p, _, _, [], Nat.zero_le _, by decide, by decide, Nat.le_refl _, by omega, rfl, rfl, Own.lit w [] (by decide), R0.out, O0.out⟩
  case round =>
    obtain ⟨k, a, q, A, cap, l, hk, ha, hwt, hq1, hq2, rfl, rfl, hown, hrd, honly⟩ := hrel
    have HO := Lib.hid hown
    have R := Lib.hid hrd
    have O := Lib.hid honly
    have hsz := honly.size
    have hat := hown.at_base
    have HA := Lib.hid hat
    clear hown hrd honly hat
    by_cases hlt : k < n
    · have e1 : decide ((k : Int) < (n : Int)) = true := by simp; omega
      obtain ⟨f, hf24, hfb⟩ := free_place (x := a) (by omega)
      have HF := Lib.hid hfb
      clear hfb
      go_wp2_with fail
      refine (pick_any base g q 24 wr R.out (by omega) (by decide) (by decide)).mono ?_
      rintro e w1 ⟨d, hd, rfl, r1, o1⟩
      have HO1 := Lib.hid (HO.out.only o1 (fun x y hx hy => by have h1 := HA.out x hx; injection hy with hy; subst hy; show x.block ≠ g; omega))
      have R1 := Lib.hid r1
      have O1 := Lib.hid (O.out.trans o1)
      have hsz1 := Nat.le_trans hsz o1.size
      clear r1 o1
      go_wp2
      go_loop [7] (fun i => ∃ x : Nat, x < 24 ∧ i = .int .i64 x) (fun i => (f + 24 - (intOf i).toNat) % 24)
      case atStart => exact ⟨d, hd, rfl⟩
      case round =>
        obtain ⟨x, hx, rfl⟩ := hrel
        cases hb : a.testBit x with
        | true =>
          have e2 : ((bt a x : Int) == 1) = true := by rw [bt_one.2 hb]; rfl
          have hne : x ≠ f := fun e => by rw [e, HF.out] at hb; cases hb
          clear hb
          go_wp2_with (first | (go_at_call 29; refine (l1Bit_any a x _ (by omega) hx).mono ?_; rintro e w' ⟨rfl, rfl⟩))
          go_round
          case rel => exact ⟨(x + 1) % 24, by omega, by go_num⟩
          case measure => simp [intOf]; omega
        | false =>
          have e2 : ((bt a x : Int) == 1) = false := by rw [bt_zero.2 hb]; rfl
          have HB := Lib.hid hb
          clear hb
          go_wp2_with (first | (go_at_call 29; refine (l1Bit_any a x _ (by omega) hx).mono ?_; rintro e w' ⟨rfl, rfl⟩) | (at_builtin; refine wl_app _ rfl (.tmp 26) (.tmp 28) rfl w.heap.size A _ cap l _ rfl HO1.out rfl (by omega) hsz1 ?_))
          intro A2 cap2 w2 hown2 hb2
          have HO2 := Lib.hid hown2
          have R2 := Lib.hid (R1.out.keep hb2.size (fun i hi => hb2.block i (by omega)))
          have O2 := Lib.hid (O1.out.after hb2)
          clear hown2 hb2
          go_wp2
          go_roundw
          case rel => exact ⟨k + 1, a ||| 1 <<< x, q + 1, A2, cap2, _, by omega, or_lt ha (one_shl_lt hx), by rw [wt_put hx HB.out, hwt], by omega, by omega, by simp, int_eq (by rw [or_add ha hx HB.out]; exact i64_plus2 a x ha hx), HO2.out, R2.out, O2.out⟩
          case measure => simp [lenOf]; omega
    · obtain rfl : k = n := by omega
      have e1 : decide ((k : Int) < (k : Int)) = false := by simp
      by_cases h0 : k = 0
      · subst h0
        go_wp2
        go_ret
        exact ⟨A, cap, l, rfl, HO.out, Drew.of hq1 (by omega) R.out O.out⟩
      · have e2 : decide ((0 : Int) < (k : Int)) = true := by simp; omega
        go_wp2_with fail
        refine (pick_any base g q 20 wr R.out (by omega) (by decide) (by decide)).mono ?_
        rintro e w1 ⟨d, hd, rfl, r1, o1⟩
        have HO1 := Lib.hid (HO.out.only o1 (fun x y hx hy => by have h1 := HA.out x hx; injection hy with hy; subst hy; show x.block ≠ g; omega))
        have R1 := Lib.hid r1
        have O1 := Lib.hid (O.out.trans o1)
        have hsz1 := Nat.le_trans hsz o1.size
        clear r1 o1
        by_cases hd0 : d = 0
        · subst hd0
          obtain ⟨ga, rfl, hga1, hga2⟩ := HO1.out.form (by omega)
          have hl := HO1.out.length
          obtain ⟨y, hy⟩ : ∃ y, l[k - 1]? = some y := ⟨l[k - 1]'(by omega), List.getElem?_eq_getElem _⟩
          have hc := HO1.out.cell hy
          obtain ⟨y0, hy0⟩ : ∃ y0, l[0]? = some y0 := ⟨l[0]'(by omega), List.getElem?_eq_getElem _⟩
          have hc0 := HO1.out.cell hy0
          have hfr := HO1.out.free 0
          have HY := Lib.hid hy
          clear hy hl hy0
          have r1d := R1.out.drew
          have s1 : IntKind.i64.wrap ((k : Int) - 1) = (k : Int) - 1 := by rw [IntKind.wrap_i64]; omega
          have hgag : ga ≠ g := by omega
          have ka : ∀ o, (w1.alloc o).drew.cell? ⟨ga, k - 1, none⟩ = some (.int .i64 y) := fun o => (((Below.refl _ w1).alloc (Nat.le_refl _) o).cell (p := ⟨ga, k - 1, none⟩) hga2).trans hc
          have kf : ∀ o, (w1.alloc o).drew.frozen? ⟨ga, 0, none⟩ = false := fun o => (((Below.refl _ w1).alloc (Nat.le_refl _) o).frozen (p := ⟨ga, 0, none⟩) hga2).trans hfr
          have r1a : ∀ o, Rd base (w1.alloc o).drew g (q + 1) := fun o => R1.out.below ((Below.refl _ _).alloc (Nat.le_refl _) _).drew
          have ow : ∀ o, Only w1 (w1.alloc o).drew (some ⟨g, 0, none⟩) := fun o => Below.toOnly ((Below.refl _ _).alloc (Nat.le_refl _) _).drew _
          have hwg : w1.heap.size ≠ g := by omega
          have hsz3 : ∀ o, w1.heap.size < (w1.alloc o).drew.heap.size := fun o => by show w1.heap.size < (w1.alloc o).heap.size; simp
          have hv3 : ∀ (j : Nat) (u : Value), ([.int .i64 24, .int .i64 (-1), .int .i64 y] : List Value)[j]? = some u → (w1.alloc (.cells #[.int .i64 24, .int .i64 (-1), .int .i64 y] 3)).drew.cell? ⟨w1.heap.size, j, none⟩ = some u := fun j u h => by
            show (w1.alloc _).cell? _ = _
            rw [World.cell?_alloc_at _ _ _ _ rfl]
            simpa using h
          have s2 : (0 : Int) ≤ (k : Int) - 1 := by omega
          have s3 : (1 : Int) ≤ (k : Int) := by omega
          have s4 : (k : Int) - 1 < (k : Int) := by omega
          have s5 : ((k : Int) - 1).toNat = k - 1 := by omega
          go_wp2_with fail
          go_region_with (first | (go_at_call 18; refine (pick_any base g (q + 1) 3 _ ?_ (by omega) (by decide) (by decide)).mono ?_; (first | exact r1d | exact r1a _); rintro e w2 ⟨k3, hk3, rfl, r2, o2⟩; have oo : Only w1 w2 (some ⟨g, 0, none⟩) := (by first | exact ⟨o2.os, o2.tape, o2.output, o2.size, o2.block⟩ | exact (ow _).trans o2); have cc := (oo.cell (p := ⟨ga, k - 1, none⟩) hga2 hgag).trans hc; have ff := (oo.frozen (p := ⟨ga, 0, none⟩) hga2 hgag).trans hfr; have c2 := (oo.cell (p := ⟨ga, 0, none⟩) hga2 hgag).trans hc0; have kb := after_alloc (Nat.lt_of_lt_of_le hga2 oo.size) c2 ff; obtain ⟨v, hv⟩ := three_of y hk3; have hv2 := three_at hv; have hk30 : (0 : Int) ≤ (k3 : Int) := Int.natCast_nonneg _; have hk31 : (k3 : Int) < 3 := Int.ofNat_lt.2 hk3; (first | (have hw : w2.cell? ⟨w1.heap.size, k3, none⟩ = some (.int .i64 v) := ((o2.cell (p := ⟨w1.heap.size, k3, none⟩) (hsz3 _) hwg).trans (hv3 k3 _ hv))) | skip)))
          all_goals
            have HW := Lib.hid (HO1.out.only oo (fun x y hx hy => by injection hx with hx; injection hy with hy; subst hx; subst hy; exact hgag))
            have HR := Lib.hid r2
            have HQ := Lib.hid (O1.out.trans oo)
            have hsw := oo.size
            clear r1d s1 ka kf r1a ow hsz3 hv3 r2 o2 oo cc ff c2 kb hv hv2 hc hc0 hfr
            go_wp2
            go_ret
            first
              | exact ⟨_, cap, _, rfl, HW.out.set 0 v, Drew.of (q := q + 2) (by omega) (by omega) (HR.out.only ((Only.refl w2 (some ⟨ga, 0, none⟩)).setCell 0 _) (fun x hx => by injection hx with hx; subst hx; exact ⟨by show base ≤ ga; omega, hgag⟩)) (HQ.out.after ((Below.refl _ w2).setCell hga1 _))⟩
              | exact ⟨_, cap, _, rfl, (HW.out.alloc _).set 0 v, Drew.of (q := q + 2) (by omega) (by omega) ((HR.out.below ((Below.refl _ w2).alloc (Nat.le_refl _) _)).only ((Only.refl _ (some ⟨ga, 0, none⟩)).setCell 0 _) (fun x hx => by injection hx with hx; subst hx; exact ⟨by show base ≤ ga; omega, hgag⟩)) (HQ.out.after (((Below.refl _ w2).alloc (Nat.le_trans hsz1 hsw) _).setCell hga1 _))⟩
        · have e3 : ((d : Int) == 0) = false := by simp; omega
          go_wp2
          go_ret
          exact ⟨A, cap, l, rfl, HO1.out, Drew.of (by omega) (by omega) R1.out O1.out⟩
end Go.Proofs.Ytmboaaopmjmdnaa
