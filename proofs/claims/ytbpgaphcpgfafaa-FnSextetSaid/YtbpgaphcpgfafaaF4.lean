import Derived.Test.YtbpgaphcpgfafaaF2
namespace Go.Proofs.Ytbpgaphcpgfafaa
open Go.RowKit

theorem iSextetOf (x : Int) (w : World) :
    Calls Try.prog 31 #[.int .i64 x] w (MakesB (nl (sxR x)) (tetZ x) w) := by
  cases h : tetZ x with
  | true =>
    obtain ⟨t, rfl, ht, h4⟩ := tetZ_nat h
    have HT := Lib.hid (itet_is _ _ h)
    have HS := Lib.hid (isextet t w ht h4)
    have HR := Lib.hid (sx_yes ht h4).2
    clear h h4
    go_enter Try.func31, Try.ntmps31
    go_wp2_with fail
    refine (HT.out _).mono ?_
    rintro e w' ⟨rfl, rfl⟩
    go_wp2_with fail
    refine HS.out.mono ?_
    rintro e w1 ⟨A1, n1, c1, rfl, o1, b1⟩
    go_wp2
    go_ret2
    rw [HR.out]
    exact ⟨_, _, _, rfl, o1, b1⟩
  | false =>
    have HT := Lib.hid (itet_is _ _ h)
    have HR := Lib.hid (sx_no h)
    clear h
    go_enter Try.func31, Try.ntmps31
    go_wp2_with fail
    refine (HT.out _).mono ?_
    rintro e w' ⟨rfl, rfl⟩
    go_wp2
    go_ret2
    rw [HR.out]
    exact ⟨_, _, _, rfl, Own.lit w [] (by decide), (Below.refl _ _).alloc (Nat.le_refl _) _⟩

/-- What 'SextetSum' answers. -/
def sumOk (a b : Int) : Bool := tetZ a && (tetZ b && decide (wt (a.toNat &&& b.toNat) = 2))
def sumR (a b : Int) : List Nat := if sumOk a b then sext (a.toNat ^^^ b.toNat) else []
theorem sum_no {a b : Int} (h : tetZ a = false ∨ tetZ b = false ∨ wt (a.toNat &&& b.toNat) ≠ 2) : sumOk a b = false ∧ sumR a b = [] := by
  have h1 : sumOk a b = false := by unfold sumOk; rcases h with h | h | h <;> simp [h]
  exact ⟨h1, by unfold sumR; rw [h1]; rfl⟩
theorem sum_yes {a b : Nat} (ha : a < 16777216) (ha4 : wt a = 4) (hb : b < 16777216) (hb4 : wt b = 4) (h2 : wt (a &&& b) = 2) :
    sumOk a b = true ∧ sumR a b = sext (a ^^^ b) ∧ a ^^^ b < 16777216 ∧ wt (a ^^^ b) = 4 := by
  have h1 : sumOk a b = true := by unfold sumOk; rw [tetZ_yes ha ha4, tetZ_yes hb hb4]; simp [h2]
  have h3 := wt_xor a b
  exact ⟨h1, by unfold sumR; rw [h1]; rfl, xor_lt ha hb, by omega⟩
theorem sum_len (a b : Int) : (nl (sumR a b)).length ≤ 6 := by
  rw [nl_length]
  cases h : sumOk a b with
  | true =>
    have h' := h
    unfold sumOk at h'
    rw [Bool.and_eq_true, Bool.and_eq_true, decide_eq_true_eq] at h'
    obtain ⟨x, rfl, hx, hx4⟩ := tetZ_nat h'.1
    obtain ⟨y, rfl, hy, hy4⟩ := tetZ_nat h'.2.1
    have := sum_yes hx hx4 hy hy4 h'.2.2
    rw [this.2.1, sext_len this.2.2.1 this.2.2.2]
    exact Nat.le_refl _
  | false => unfold sumR; rw [h]; simp

theorem iSextetSum (a b : Int) (w : World) :
    Calls Try.prog 34 #[.int .i64 a, .int .i64 b] w (MakesB (nl (sumR a b)) (sumOk a b) w) := by
  cases ha : tetZ a with
  | false =>
    have HT := Lib.hid (itet_is _ _ ha)
    have HR := Lib.hid (sum_no (b := b) (.inl ha))
    clear ha
    go_enter Try.func34, Try.ntmps34
    go_wp2_with fail
    refine (HT.out _).mono ?_
    rintro e w' ⟨rfl, rfl⟩
    go_wp2
    go_ret2
    rw [HR.out.1, HR.out.2]
    exact ⟨_, _, _, rfl, Own.lit w [] (by decide), (Below.refl _ _).alloc (Nat.le_refl _) _⟩
  | true =>
    have HT := Lib.hid (itet_is _ _ ha)
    cases hb : tetZ b with
    | false =>
      have HU := Lib.hid (itet_is _ _ hb)
      have HR := Lib.hid (sum_no (a := a) (.inr (.inl hb)))
      clear ha hb
      go_enter Try.func34, Try.ntmps34
      go_wp2_with fail
      refine (HT.out _).mono ?_
      rintro e w' ⟨rfl, rfl⟩
      go_wp2_with fail
      refine (HU.out _).mono ?_
      rintro e w' ⟨rfl, rfl⟩
      go_wp2
      go_ret2
      rw [HR.out.1, HR.out.2]
      exact ⟨_, _, _, rfl, Own.lit w [] (by decide), (Below.refl _ _).alloc (Nat.le_refl _) _⟩
    | true =>
      have HU := Lib.hid (itet_is _ _ hb)
      obtain ⟨x, rfl, hx, hx4⟩ := tetZ_nat ha
      obtain ⟨y, rfl, hy, hy4⟩ := tetZ_nat hb
      have hand := i64_and x y (by omega) (by omega)
      have hal := Nat.lt_of_le_of_lt (Nat.and_le_left (n := x) (m := y)) hx
      have HW := Lib.hid (iweight _ w hal)
      by_cases h2 : wt (x &&& y) = 2
      · obtain ⟨hok, hr, hxl, hx44⟩ := sum_yes hx hx4 hy hy4 h2
        have HR := Lib.hid (And.intro hok hr)
        have HS := Lib.hid (isextet _ w hxl hx44)
        have hxor := i64_xor x y (by omega) (by omega)
        have e1 : ((wt (x &&& y) : Int) != 2) = false := by simp [h2]
        clear ha hb hok hr h2 hx4 hy4 hx44
        go_enter Try.func34, Try.ntmps34
        go_wp2_with fail
        refine (HT.out _).mono ?_
        rintro e w' ⟨rfl, rfl⟩
        go_wp2_with fail
        refine (HU.out _).mono ?_
        rintro e w' ⟨rfl, rfl⟩
        go_wp2_with fail
        refine HW.out.mono ?_
        rintro e w' ⟨rfl, rfl⟩
        go_wp2_with fail
        refine HS.out.mono ?_
        rintro e w1 ⟨A1, n1, c1, rfl, o1, b1⟩
        go_wp2
        go_ret2
        rw [HR.out.1, HR.out.2]
        exact ⟨_, _, _, rfl, o1, b1⟩
      · have HR := Lib.hid (sum_no (a := (x : Int)) (b := (y : Int)) (.inr (.inr h2)))
        have e1 : ((wt (x &&& y) : Int) != 2) = true := by simp; omega
        clear ha hb h2 hx4 hy4
        go_enter Try.func34, Try.ntmps34
        go_wp2_with fail
        refine (HT.out _).mono ?_
        rintro e w' ⟨rfl, rfl⟩
        go_wp2_with fail
        refine (HU.out _).mono ?_
        rintro e w' ⟨rfl, rfl⟩
        go_wp2_with fail
        refine HW.out.mono ?_
        rintro e w' ⟨rfl, rfl⟩
        go_wp2
        go_ret2
        rw [HR.out.1, HR.out.2]
        exact ⟨_, _, _, rfl, Own.lit w [] (by decide), (Below.refl _ _).alloc (Nat.le_refl _) _⟩

set_option maxHeartbeats 1000000 in
theorem sSextetSum (a b : Int) (w : World) :
    Calls Try.prog 35 #[.int .i64 a, .int .i64 b] w (MakesB (nl (sumR a b)) (sumOk a b) w) := by
  rcases word_cases a with ⟨x, rfl, hx⟩ | hx
  · have HV := Lib.hid (sWordValid_yes x w hx)
    have HW := Lib.hid (sweight x w hx)
    rcases word_cases b with ⟨y, rfl, hy⟩ | hy
    · have HV2 := Lib.hid (sWordValid_yes y w hy)
      have HW2 := Lib.hid (sweight y w hy)
      by_cases hx4 : wt x = 4
      · have e1 : ((wt x : Int) != 4) = false := by simp [hx4]
        by_cases hy4 : wt y = 4
        · have e2 : ((wt y : Int) != 4) = false := by simp [hy4]
          have hand := i64_and x y (by omega) (by omega)
          have hal := Nat.lt_of_le_of_lt (Nat.and_le_left (n := x) (m := y)) hx
          have HW3 := Lib.hid (sweight _ w hal)
          by_cases h2 : wt (x &&& y) = 2
          · obtain ⟨hok, hr, hxl, hx44⟩ := sum_yes hx hx4 hy hy4 h2
            have HR := Lib.hid (And.intro hok hr)
            have hs := sSextetOf ((x ^^^ y : Nat) : Int) w
            rw [(sx_yes hxl hx44).1, (sx_yes hxl hx44).2] at hs
            have HS := Lib.hid hs
            have hxor := i64_xor x y (by omega) (by omega)
            have e3 : ((wt (x &&& y) : Int) != 2) = false := by simp [h2]
            clear hok hr h2 hx4 hy4 hx44 hs
            go_enter Try.func35, Try.ntmps35
            go_wp2_with fail
            refine HV.out.mono ?_
            rintro e w' ⟨rfl, rfl⟩
            go_wp2_with fail
            refine HV2.out.mono ?_
            rintro e w' ⟨rfl, rfl⟩
            go_wp2_with fail
            refine HW.out.mono ?_
            rintro e w' ⟨rfl, rfl⟩
            go_wp2_with fail
            refine HW2.out.mono ?_
            rintro e w' ⟨rfl, rfl⟩
            go_wp2_with fail
            refine HW3.out.mono ?_
            rintro e w' ⟨rfl, rfl⟩
            go_wp2_with fail
            refine HS.out.mono ?_
            rintro e w1 ⟨A1, n1, c1, rfl, o1, b1⟩
            go_wp2
            go_ret2
            rw [HR.out.1, HR.out.2]
            exact ⟨_, _, _, rfl, o1, b1⟩
          · have HR := Lib.hid (sum_no (a := (x : Int)) (b := (y : Int)) (.inr (.inr h2)))
            have e3 : ((wt (x &&& y) : Int) != 2) = true := by simp; omega
            clear h2 hx4 hy4
            go_enter Try.func35, Try.ntmps35
            go_wp2_with fail
            refine HV.out.mono ?_
            rintro e w' ⟨rfl, rfl⟩
            go_wp2_with fail
            refine HV2.out.mono ?_
            rintro e w' ⟨rfl, rfl⟩
            go_wp2_with fail
            refine HW.out.mono ?_
            rintro e w' ⟨rfl, rfl⟩
            go_wp2_with fail
            refine HW2.out.mono ?_
            rintro e w' ⟨rfl, rfl⟩
            go_wp2_with fail
            refine HW3.out.mono ?_
            rintro e w' ⟨rfl, rfl⟩
            go_wp2
            go_ret2
            rw [HR.out.1, HR.out.2]
            exact ⟨_, _, _, rfl, Own.lit w [] (by decide), (Below.refl _ _).alloc (Nat.le_refl _) _⟩
        · have HR := Lib.hid (sum_no (a := (x : Int)) (b := (y : Int)) (.inr (.inl (tetZ_no (.inr hy4)))))
          have e2 : ((wt y : Int) != 4) = true := by simp; omega
          clear hx4 hy4
          go_enter Try.func35, Try.ntmps35
          go_wp2_with fail
          refine HV.out.mono ?_
          rintro e w' ⟨rfl, rfl⟩
          go_wp2_with fail
          refine HV2.out.mono ?_
          rintro e w' ⟨rfl, rfl⟩
          go_wp2_with fail
          refine HW.out.mono ?_
          rintro e w' ⟨rfl, rfl⟩
          go_wp2_with fail
          refine HW2.out.mono ?_
          rintro e w' ⟨rfl, rfl⟩
          go_wp2
          go_ret2
          rw [HR.out.1, HR.out.2]
          exact ⟨_, _, _, rfl, Own.lit w [] (by decide), (Below.refl _ _).alloc (Nat.le_refl _) _⟩
      · have HR := Lib.hid (sum_no (a := (x : Int)) (b := (y : Int)) (.inl (tetZ_no (.inr hx4))))
        have e1 : ((wt x : Int) != 4) = true := by simp; omega
        clear hx4
        go_enter Try.func35, Try.ntmps35
        go_wp2_with fail
        refine HV.out.mono ?_
        rintro e w' ⟨rfl, rfl⟩
        go_wp2_with fail
        refine HV2.out.mono ?_
        rintro e w' ⟨rfl, rfl⟩
        go_wp2_with fail
        refine HW.out.mono ?_
        rintro e w' ⟨rfl, rfl⟩
        go_wp2
        go_ret2
        rw [HR.out.1, HR.out.2]
        exact ⟨_, _, _, rfl, Own.lit w [] (by decide), (Below.refl _ _).alloc (Nat.le_refl _) _⟩
    · have HV2 := Lib.hid (sWordValid_no b w hy)
      have HR := Lib.hid (sum_no (a := (x : Int)) (.inr (.inl (tetZ_no (.inl (valid_no hy))))))
      go_enter Try.func35, Try.ntmps35
      go_wp2_with fail
      refine HV.out.mono ?_
      rintro e w' ⟨rfl, rfl⟩
      go_wp2_with fail
      refine HV2.out.mono ?_
      rintro e w' ⟨rfl, rfl⟩
      go_wp2
      go_ret2
      rw [HR.out.1, HR.out.2]
      exact ⟨_, _, _, rfl, Own.lit w [] (by decide), (Below.refl _ _).alloc (Nat.le_refl _) _⟩
  · have HV := Lib.hid (sWordValid_no a w hx)
    have HR := Lib.hid (sum_no (b := b) (.inl (tetZ_no (.inl (valid_no hx)))))
    go_enter Try.func35, Try.ntmps35
    go_wp2_with fail
    refine HV.out.mono ?_
    rintro e w' ⟨rfl, rfl⟩
    go_wp2
    go_ret2
    rw [HR.out.1, HR.out.2]
    exact ⟨_, _, _, rfl, Own.lit w [] (by decide), (Below.refl _ _).alloc (Nat.le_refl _) _⟩
end Go.Proofs.Ytbpgaphcpgfafaa
