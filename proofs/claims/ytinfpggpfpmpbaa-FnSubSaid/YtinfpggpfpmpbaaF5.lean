import Derived.Test.YtinfpggpfpmpbaaD3
namespace Go.Proofs.Ytinfpggpfpmpbaa
open Go.RowKit

/-- Whether an int is a point of the plane over b. -/
def ptZ (b : Nat) (p : Int) : Bool := decide (0 ≤ p ∧ p ≤ 23) && !(b.testBit p.toNat)
theorem pt_no1 {b : Nat} {p : Int} (h : p < 0 ∨ 23 < p) : ptZ b p = false := by
  unfold ptZ; rw [decide_eq_false (by omega), Bool.false_and]
theorem pt_eq {b p : Nat} (h : p < 24) : ptZ b p = !(b.testBit p) := by
  unfold ptZ; rw [decide_eq_true (by omega), Bool.true_and]; rfl
theorem pt_nat {b : Nat} {p : Int} (h : ptZ b p = true) : ∃ q : Nat, p = q ∧ q < 24 ∧ b.testBit q = false := by
  by_cases hp : 0 ≤ p ∧ p ≤ 23
  · obtain ⟨q, rfl⟩ := Int.eq_ofNat_of_zero_le hp.1
    have hq : q < 24 := by omega
    rw [pt_eq hq] at h
    exact ⟨q, rfl, hq, by simpa using h⟩
  · rw [pt_no1 (by omega)] at h; cases h
theorem bt_eq0 (b p : Nat) : ((bt b p : Int) == 0) = !(b.testBit p) := by
  unfold bt; cases b.testBit p <;> rfl

theorem iplaceOk_yes (p : Nat) (w : World) (hp : p < 24) : Calls Try.prog 52 #[.int .i64 p] w fun e w' => e = .returned (.bool true) ∧ w = w' := by
  go_enter Try.func52, Try.ntmps52
  go_wp2_with fail
  refine (within_yes (p : Int) 0 23 _ (by omega) (by omega)).mono ?_
  rintro e w' ⟨rfl, rfl⟩
  go_wp2
  go_ret
  exact ⟨rfl, rfl⟩
theorem iplaceOk_no (p : Int) (w : World) (hp : p < 0 ∨ 23 < p) : Calls Try.prog 52 #[.int .i64 p] w fun e w' => e = .returned (.bool false) ∧ w = w' := by
  go_enter Try.func52, Try.ntmps52
  go_wp2_with fail
  refine (within_no p 0 23 _ hp).mono ?_
  rintro e w' ⟨rfl, rfl⟩
  go_wp2
  go_ret
  exact ⟨rfl, rfl⟩
theorem ipointOk (b : Nat) (p : Int) (w : World) (hb : b < 16777216) :
    Calls Try.prog 73 #[.int .i64 b, .int .i64 p] w fun e w' => e = .returned (.bool (ptZ b p)) ∧ w = w' := by
  by_cases hp : 0 ≤ p ∧ p ≤ 23
  · obtain ⟨q, rfl⟩ := Int.eq_ofNat_of_zero_le hp.1
    have hq : q < 24 := by omega
    have hbit : bits .and .i64 ((b : Int) / 2 ^ q) 1 = (bt b q : Int) := i64_bit b q (by omega)
    have HE := Lib.hid (bt_eq0 b q)
    have HP := Lib.hid (pt_eq (b := b) hq)
    have HW := Lib.hid (iplaceOk_yes q w hq)
    clear hp
    go_enter Try.func73, Try.ntmps73
    go_wp2_with fail
    refine HW.out.mono ?_
    rintro e w' ⟨rfl, rfl⟩
    go_wp2
    go_ret
    rw [HP.out, ← HE.out]
    exact ⟨rfl, rfl⟩
  · have HP := Lib.hid (pt_no1 (b := b) (p := p) (by omega))
    have HW := Lib.hid (iplaceOk_no p w (by omega))
    clear hp
    go_enter Try.func73, Try.ntmps73
    go_wp2_with fail
    refine HW.out.mono ?_
    rintro e w' ⟨rfl, rfl⟩
    go_wp2
    go_ret
    rw [HP.out]
    exact ⟨rfl, rfl⟩
theorem spoint (b : Nat) (p : Int) (w : World) (hb : b < 16777216) :
    Calls Try.prog 74 #[.int .i64 b, .int .i64 p] w fun e w' => e = .returned (.bool (ptZ b p)) ∧ w = w' := by
  by_cases hp : 0 ≤ p ∧ p ≤ 23
  · obtain ⟨q, rfl⟩ := Int.eq_ofNat_of_zero_le hp.1
    have hq : q < 24 := by omega
    have HE := Lib.hid (bt_eq0 b q)
    have HP := Lib.hid (pt_eq (b := b) hq)
    have HW := Lib.hid (l6In_yes (q : Int) 0 23 w (by omega) (by omega))
    have HL := Lib.hid (l1Bit_any b q w (by omega) hq)
    clear hp
    go_enter Try.func74, Try.ntmps74
    go_wp2_with fail
    refine HW.out.mono ?_
    rintro e w' ⟨rfl, rfl⟩
    go_wp2_with fail
    refine HL.out.mono ?_
    rintro e w' ⟨rfl, rfl⟩
    go_wp2
    go_ret
    rw [HP.out, ← HE.out]
    exact ⟨rfl, rfl⟩
  · have HP := Lib.hid (pt_no1 (b := b) (p := p) (by omega))
    have HW := Lib.hid (l6In_no p 0 23 w (by omega))
    clear hp
    go_enter Try.func74, Try.ntmps74
    go_wp2_with fail
    refine HW.out.mono ?_
    rintro e w' ⟨rfl, rfl⟩
    go_wp2
    go_ret
    rw [HP.out]
    exact ⟨rfl, rfl⟩
theorem ipt_is (b : Nat) (p : Int) (v : Bool) (h : ptZ b p = v) (w : World) (hb : b < 16777216) :
    Calls Try.prog 73 #[.int .i64 b, .int .i64 p] w fun e w' => e = .returned (.bool v) ∧ w = w' := by subst h; exact ipointOk b p w hb
theorem spt_is (b : Nat) (p : Int) (v : Bool) (h : ptZ b p = v) (w : World) (hb : b < 16777216) :
    Calls Try.prog 74 #[.int .i64 b, .int .i64 p] w fun e w' => e = .returned (.bool v) ∧ w = w' := by subst h; exact spoint b p w hb

/-- What 'PlaneLines' answers. -/
def plnR (b : Int) : List Nat := if baseZ b then lns b.toNat 0 else []
theorem pln_yes {b : Nat} (hb : b < 16777216) (h3 : wt b = 3) : baseZ b = true ∧ plnR b = lns b 0 := by
  have h := baseZ_yes hb h3
  exact ⟨h, by unfold plnR; rw [h]; rfl⟩
theorem pln_no {b : Int} (h : baseZ b = false) : plnR b = [] := by unfold plnR; rw [h]; rfl
theorem pln_len (b : Int) : (nl (plnR b)).length ≤ 21 := by
  rw [nl_length]
  cases h : baseZ b with
  | true =>
    obtain ⟨t, rfl, ht, h3⟩ := baseZ_nat h
    rw [(pln_yes ht h3).2, lines_21 ht h3]
    exact Nat.le_refl _
  | false => rw [pln_no h]; simp
theorem iPlaneLines (b : Int) (w : World) :
    Calls Try.prog 27 #[.int .i64 b] w (MakesB (nl (plnR b)) (baseZ b) w) := by
  cases h : baseZ b with
  | true =>
    obtain ⟨t, rfl, ht, h3⟩ := baseZ_nat h
    have HT := Lib.hid (ibase_is _ _ h)
    have HS := Lib.hid (ilines t 0 w ht (by decide) (by simp))
    have HR := Lib.hid (pln_yes ht h3).2
    clear h h3
    go_enter Try.func27, Try.ntmps27
    go_wp2_with fail
    refine (HT.out _).mono ?_
    rintro e w' ⟨rfl, rfl⟩
    go_wp2_with fail
    refine HS.out.mono ?_
    rintro e w1 ⟨A1, n1, c1, rfl, o1, b1⟩
    go_wp2
    go_ret2
    rw [HR.out]
    exact ⟨_, _, _, rfl, o1, b1⟩
  | false =>
    have HT := Lib.hid (ibase_is _ _ h)
    have HR := Lib.hid (pln_no h)
    clear h
    go_enter Try.func27, Try.ntmps27
    go_wp2_with fail
    refine (HT.out _).mono ?_
    rintro e w' ⟨rfl, rfl⟩
    go_wp2
    go_ret2
    rw [HR.out]
    exact ⟨_, _, _, rfl, Own.lit w [] (by decide), (Below.refl _ _).alloc (Nat.le_refl _) _⟩
theorem sPlaneLines (b : Int) (w : World) :
    Calls Try.prog 28 #[.int .i64 b] w (MakesB (nl (plnR b)) (baseZ b) w) := by
  cases h : baseZ b with
  | true =>
    obtain ⟨t, rfl, ht, h3⟩ := baseZ_nat h
    have HT := Lib.hid (sbase_is _ _ h)
    have HS := Lib.hid (slines t w ht h3)
    have HR := Lib.hid (pln_yes ht h3).2
    clear h h3
    go_enter Try.func28, Try.ntmps28
    go_wp2_with fail
    refine (HT.out _).mono ?_
    rintro e w' ⟨rfl, rfl⟩
    go_wp2_with fail
    refine HS.out.mono ?_
    rintro e w1 ⟨A1, n1, c1, rfl, o1, b1⟩
    go_wp2
    go_ret2
    rw [HR.out]
    exact ⟨_, _, _, rfl, o1, b1⟩
  | false =>
    have HT := Lib.hid (sbase_is _ _ h)
    have HR := Lib.hid (pln_no h)
    clear h
    go_enter Try.func28, Try.ntmps28
    go_wp2_with fail
    refine (HT.out _).mono ?_
    rintro e w' ⟨rfl, rfl⟩
    go_wp2
    go_ret2
    rw [HR.out]
    exact ⟨_, _, _, rfl, Own.lit w [] (by decide), (Below.refl _ _).alloc (Nat.le_refl _) _⟩
end Go.Proofs.Ytinfpggpfpmpbaa
