import Derived.Test.YtinfpggpfpmpbaaD3
namespace Go.Proofs.Ytinfpggpfpmpbaa
open Go.RowKit

/-- What 'PlaneOval' answers. -/
def ovalZ (b x : Int) : Bool := spreadZ b x && decide (wt x.toNat = 6)
theorem spread_word {b x : Int} (h : spreadZ b x = true) : ∃ n : Nat, x = n ∧ n < 16777216 := by
  rcases word_cases x with h' | h'
  · exact h'
  · rw [spread_no2 (valid_no h')] at h; cases h

theorem iPlaneOval (b x : Int) (w : World) :
    Calls Try.prog 38 #[.int .i64 b, .int .i64 x] w fun e w' => e = .returned (.bool (ovalZ b x)) ∧ Below w.heap.size w w' := by
  have HS := Lib.hid (ispread b x w)
  cases hs : spreadZ b x with
  | false =>
    rw [hs] at HS
    have HR := Lib.hid (show ovalZ b x = false from by unfold ovalZ; rw [hs, Bool.false_and])
    clear hs
    go_enter Try.func38, Try.ntmps38
    go_wp2_with (first | (go_at_call 66; refine HS.out.mono ?_; rintro e w1 ⟨rfl, b1⟩))
    go_ret
    rw [HR.out]
    exact ⟨rfl, b1⟩
  | true =>
    rw [hs] at HS
    obtain ⟨n, rfl, hn⟩ := spread_word hs
    have HR := Lib.hid (show ovalZ b n = ((wt n : Int) == 6) from by unfold ovalZ; rw [hs, Bool.true_and, show ((6 : Int)) = ((6 : Nat) : Int) from rfl, int_beq]; rfl)
    clear hs
    go_enter Try.func38, Try.ntmps38
    go_wp2_with (first | (go_at_call 66; refine HS.out.mono ?_; rintro e w1 ⟨rfl, b1⟩) | (go_at_call 67; refine (iweight n _ hn).mono ?_; rintro e w' ⟨rfl, rfl⟩))
    go_ret
    rw [HR.out]
    exact ⟨rfl, b1⟩

theorem oval_no1 {b x : Int} (h : baseZ b = false) : ovalZ b x = false := by unfold ovalZ; rw [spread_no1 h, Bool.false_and]
theorem oval_no2 {b x : Int} (h : valid x = false) : ovalZ b x = false := by unfold ovalZ; rw [spread_no2 h, Bool.false_and]
theorem oval_no3 {b : Int} {x : Nat} (h : wt x ≠ 6) : ovalZ b x = false := by
  unfold ovalZ; rw [show decide (wt (x : Int).toNat = 6) = false from decide_eq_false h, Bool.and_false]
theorem oval_no4 {b x : Nat} (h : x &&& b ≠ 0) : ovalZ b x = false := by unfold ovalZ; rw [spread_no3 h, Bool.false_and]
theorem oval_eq {b x : Nat} (hb : b < 16777216) (h3 : wt b = 3) (hx : x < 16777216) (h : x &&& b = 0) (h6 : wt x = 6) : ovalZ b x = thinL x (lns b 0) := by
  unfold ovalZ; rw [spread_eq hb h3 hx h, show decide (wt (x : Int).toNat = 6) = true from decide_eq_true h6, Bool.and_true]

theorem sPlaneOval (b x : Int) (w : World) :
    Calls Try.prog 39 #[.int .i64 b, .int .i64 x] w fun e w' => e = .returned (.bool (ovalZ b x)) ∧ Below w.heap.size w w' := by
  cases hbz : baseZ b with
  | false =>
    have HR := Lib.hid (oval_no1 (x := x) hbz)
    have HB := Lib.hid (sbase_is b false hbz)
    clear hbz
    go_enter Try.func39, Try.ntmps39
    go_wp2_with (first | (go_at_call 46; refine (HB.out _).mono ?_; rintro e w' ⟨rfl, rfl⟩))
    go_ret
    rw [HR.out]
    exact ⟨rfl, Below.refl _ _⟩
  | true =>
    have HB := Lib.hid (sbase_is b true hbz)
    obtain ⟨y, rfl, hy, h3⟩ := baseZ_nat hbz
    rcases word_cases x with ⟨n, rfl, hn⟩ | hx
    · have ha := i64_and n y (by omega) (by omega)
      have HV := Lib.hid (sWordValid_yes n w hn)
      have HW := Lib.hid (sweight n w hn)
      by_cases h6 : wt n = 6
      · have e1 : ((wt n : Int) == 6) = true := by simp [h6]
        by_cases h0 : n &&& y = 0
        · have e2 : (((n &&& y : Nat) : Int) == 0) = true := by simp [h0]
          have HR := Lib.hid (oval_eq hy h3 hn h0 h6)
          have HL := Lib.hid (slines y w hy h3)
          have H3 := Lib.hid h3
          clear h0 hbz h3 h6
          go_enter Try.func39, Try.ntmps39
          go_wp2_with fail
          refine (HB.out _).mono ?_
          rintro e w' ⟨rfl, rfl⟩
          go_wp2_with fail
          refine HV.out.mono ?_
          rintro e w' ⟨rfl, rfl⟩
          go_wp2_with fail
          refine HW.out.mono ?_
          rintro e w' ⟨rfl, rfl⟩
          go_wp2_with fail
          refine HL.out.mono ?_
          rintro e w1 ⟨A1, n1, c1, rfl, o1, b1⟩
          have hn1 : n1 = 21 := by have := o1.length; rw [nl_length, lines_21 hy H3.out] at this; omega
          subst hn1
          go_wp2_with fail
          refine (sthin w1.heap.size A1 21 c1 _ n w1 o1.sl (fun k z h => lns_at hy h) hn (by decide)).mono ?_
          rintro e w' ⟨rfl, rfl⟩
          go_wp2
          go_ret
          rw [HR.out]
          exact ⟨rfl, b1⟩
        · have e2 : (((n &&& y : Nat) : Int) == 0) = false := by simp; omega
          have HR := Lib.hid (oval_no4 h0)
          clear h0 hbz h3 h6
          go_enter Try.func39, Try.ntmps39
          go_wp2_with fail
          refine (HB.out _).mono ?_
          rintro e w' ⟨rfl, rfl⟩
          go_wp2_with fail
          refine HV.out.mono ?_
          rintro e w' ⟨rfl, rfl⟩
          go_wp2_with fail
          refine HW.out.mono ?_
          rintro e w' ⟨rfl, rfl⟩
          go_wp2
          go_ret
          rw [HR.out]
          exact ⟨rfl, Below.refl _ _⟩
      · have e1 : ((wt n : Int) == 6) = false := by simp; omega
        have HR := Lib.hid (oval_no3 (b := (y : Int)) h6)
        clear hbz h3 h6
        go_enter Try.func39, Try.ntmps39
        go_wp2_with fail
        refine (HB.out _).mono ?_
        rintro e w' ⟨rfl, rfl⟩
        go_wp2_with fail
        refine HV.out.mono ?_
        rintro e w' ⟨rfl, rfl⟩
        go_wp2_with fail
        refine HW.out.mono ?_
        rintro e w' ⟨rfl, rfl⟩
        go_wp2
        go_ret
        rw [HR.out]
        exact ⟨rfl, Below.refl _ _⟩
    · have HR := Lib.hid (oval_no2 (b := (y : Int)) (valid_no hx))
      have HV := Lib.hid (sWordValid_no x w hx)
      clear hbz h3
      go_enter Try.func39, Try.ntmps39
      go_wp2_with fail
      refine (HB.out _).mono ?_
      rintro e w' ⟨rfl, rfl⟩
      go_wp2_with fail
      refine HV.out.mono ?_
      rintro e w' ⟨rfl, rfl⟩
      go_wp2
      go_ret
      rw [HR.out]
      exact ⟨rfl, Below.refl _ _⟩

end Go.Proofs.Ytinfpggpfpmpbaa
