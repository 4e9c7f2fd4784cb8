import Derived.Test.YtdomilpnhkkkiaaC4
import Derived.Test.YtdomilpnhkkkiaaM6
namespace Go.Proofs.Ytdomilpnhkkkiaa
open Go.RowKit

theorem iOct_is (x : Int) (v : Bool) (h : octZ x = v) (W : World) :
    Calls Try.prog 34 #[.int .i64 x] W fun e w' => e = .returned (.bool v) ∧ Below W.heap.size W w' := by subst h; exact iOctadInZ x W
theorem sOct_is (x : Int) (v : Bool) (h : octZ x = v) (W : World) :
    Calls Try.prog 35 #[.int .i64 x] W fun e w' => e = .returned (.bool v) ∧ Below W.heap.size W w' := by subst h; exact sOctadInZ x W
theorem octZ_yes {x : Int} (h : octZ x = true) : ∃ n : Nat, x = n ∧ Oct n := by
  rcases word_cases x with ⟨n, rfl, hn⟩ | hx
  · rw [octZ_nat n hn] at h; exact ⟨n, rfl, (isOct_iff hn).1 h⟩
  · rw [octZ_no x hx] at h; cases h
/-- What 'OctadPair' answers. -/
def pairOk (a b : Int) : Bool := octZ a && octZ b && decide (wt (a.toNat ^^^ b.toNat) = 8)
def pairR (a b : Int) : Int := if pairOk a b then ((a.toNat ^^^ b.toNat : Nat) : Int) else 0
theorem pair_yes {a b : Nat} (ha : Oct a) (hb : Oct b) (h : wt (a ^^^ b) = 8) : pairOk a b = true ∧ pairR a b = ((a ^^^ b : Nat) : Int) := by
  have h1 : pairOk a b = true := by
    unfold pairOk; rw [octZ_nat a (oct_lt ha), octZ_nat b (oct_lt hb), (isOct_iff (oct_lt ha)).2 ha, (isOct_iff (oct_lt hb)).2 hb]
    simp [h]
  exact ⟨h1, by unfold pairR; rw [h1]; simp⟩
theorem pair_no {a b : Int} (h : octZ a = false ∨ octZ b = false ∨ wt (a.toNat ^^^ b.toNat) ≠ 8) : pairOk a b = false ∧ pairR a b = 0 := by
  have h1 : pairOk a b = false := by
    unfold pairOk
    rcases h with h | h | h <;> simp [h]
  exact ⟨h1, by unfold pairR; rw [h1]; simp⟩
theorem oct_xor {a b : Nat} (ha : Oct a) (hb : Oct b) : isOct (a ^^^ b) = decide (wt (a ^^^ b) = 8) := by
  have h := cod_xor ha.1 hb.1
  rw [isOct_split, h.2, Bool.true_and]

theorem iOctadPair (a b : Int) (w : World) :
    Calls Try.prog 37 #[.int .i64 a, .int .i64 b] w fun e w' => e = .returned (.tuple #[.int .i64 (pairR a b), .bool (pairOk a b)]) ∧ Below w.heap.size w w' := by
  cases ha : octZ a with
  | false =>
    have HR := Lib.hid (pair_no (b := b) (.inl ha))
    have HA := Lib.hid (iOct_is a false ha)
    clear ha
    go_enter Try.func37, Try.ntmps37
    go_wp2_with fail
    refine (HA.out w).mono ?_
    rintro e w1 ⟨rfl, b1⟩
    go_wp2
    go_ret2
    rw [HR.out.1, HR.out.2]
    exact ⟨rfl, b1⟩
  | true =>
    have HA := Lib.hid (iOct_is a true ha)
    cases hb : octZ b with
    | false =>
      have HR := Lib.hid (pair_no (a := a) (.inr (.inl hb)))
      have HB := Lib.hid (iOct_is b false hb)
      clear ha hb
      go_enter Try.func37, Try.ntmps37
      go_wp2_with fail
      refine (HA.out w).mono ?_
      rintro e w1 ⟨rfl, b1⟩
      go_wp2_with fail
      refine (HB.out w1).mono ?_
      rintro e w2 ⟨rfl, b2⟩
      go_wp2
      go_ret2
      rw [HR.out.1, HR.out.2]
      exact ⟨rfl, below_to b1 b2 (Nat.le_refl _)⟩
    | true =>
      have HB := Lib.hid (iOct_is b true hb)
      obtain ⟨x, rfl, hx⟩ := octZ_yes ha
      obtain ⟨y, rfl, hy⟩ := octZ_yes hb
      have hl1 := oct_lt hx
      have hl2 := oct_lt hy
      have hxor := i64_xor x y (by omega) (by omega)
      have h3 : octZ ((x ^^^ y : Nat) : Int) = decide (wt (x ^^^ y) = 8) := by rw [octZ_nat _ (xor_lt hl1 hl2), oct_xor hx hy]
      have HC := Lib.hid (iOct_is _ _ h3)
      by_cases h8 : wt (x ^^^ y) = 8
      · have HR := Lib.hid (pair_yes hx hy h8)
        rw [decide_eq_true h8] at HC
        clear ha hb hx hy h3 h8
        go_enter Try.func37, Try.ntmps37
        go_wp2_with fail
        refine (HA.out w).mono ?_
        rintro e w1 ⟨rfl, b1⟩
        go_wp2_with fail
        refine (HB.out w1).mono ?_
        rintro e w2 ⟨rfl, b2⟩
        go_wp2_with fail
        refine (HC.out w2).mono ?_
        rintro e w3 ⟨rfl, b3⟩
        go_wp2
        go_ret2
        rw [HR.out.1, HR.out.2]
        exact ⟨rfl, below_to (below_to b1 b2 (Nat.le_refl _)) b3 (Nat.le_refl _)⟩
      · have HR := Lib.hid (pair_no (a := x) (b := y) (.inr (.inr h8)))
        rw [decide_eq_false h8] at HC
        clear ha hb hx hy h3 h8
        go_enter Try.func37, Try.ntmps37
        go_wp2_with fail
        refine (HA.out w).mono ?_
        rintro e w1 ⟨rfl, b1⟩
        go_wp2_with fail
        refine (HB.out w1).mono ?_
        rintro e w2 ⟨rfl, b2⟩
        go_wp2_with fail
        refine (HC.out w2).mono ?_
        rintro e w3 ⟨rfl, b3⟩
        go_wp2
        go_ret2
        rw [HR.out.1, HR.out.2]
        exact ⟨rfl, below_to (below_to b1 b2 (Nat.le_refl _)) b3 (Nat.le_refl _)⟩

theorem sOctadPair (a b : Int) (w : World) :
    Calls Try.prog 36 #[.int .i64 a, .int .i64 b] w fun e w' => e = .returned (.tuple #[.int .i64 (pairR a b), .bool (pairOk a b)]) ∧ Below w.heap.size w w' := by
  cases ha : octZ a with
  | false =>
    have HR := Lib.hid (pair_no (b := b) (.inl ha))
    have HA := Lib.hid (sOct_is a false ha)
    clear ha
    go_enter Try.func36, Try.ntmps36
    go_wp2_with fail
    refine (HA.out w).mono ?_
    rintro e w1 ⟨rfl, b1⟩
    go_wp2
    go_ret2
    rw [HR.out.1, HR.out.2]
    exact ⟨rfl, b1⟩
  | true =>
    have HA := Lib.hid (sOct_is a true ha)
    cases hb : octZ b with
    | false =>
      have HR := Lib.hid (pair_no (a := a) (.inr (.inl hb)))
      have HB := Lib.hid (sOct_is b false hb)
      clear ha hb
      go_enter Try.func36, Try.ntmps36
      go_wp2_with fail
      refine (HA.out w).mono ?_
      rintro e w1 ⟨rfl, b1⟩
      go_wp2_with fail
      refine (HB.out w1).mono ?_
      rintro e w2 ⟨rfl, b2⟩
      go_wp2
      go_ret2
      rw [HR.out.1, HR.out.2]
      exact ⟨rfl, below_to b1 b2 (Nat.le_refl _)⟩
    | true =>
      have HB := Lib.hid (sOct_is b true hb)
      obtain ⟨x, rfl, hx⟩ := octZ_yes ha
      obtain ⟨y, rfl, hy⟩ := octZ_yes hb
      have hl1 := oct_lt hx
      have hl2 := oct_lt hy
      have hxor := i64_xor x y (by omega) (by omega)
      have hxl := xor_lt hl1 hl2
      by_cases h8 : wt (x ^^^ y) = 8
      · have HR := Lib.hid (pair_yes hx hy h8)
        have e1 : ((wt (x ^^^ y) : Int) != 8) = false := by simp [h8]
        clear ha hb hx hy h8
        go_enter Try.func36, Try.ntmps36
        go_wp2_with fail
        refine (HA.out w).mono ?_
        rintro e w1 ⟨rfl, b1⟩
        go_wp2_with fail
        refine (HB.out w1).mono ?_
        rintro e w2 ⟨rfl, b2⟩
        go_wp2_with fail
        refine (sweight _ w2 hxl).mono ?_
        rintro e w' ⟨rfl, rfl⟩
        go_wp2
        go_ret2
        rw [HR.out.1, HR.out.2]
        exact ⟨rfl, below_to b1 b2 (Nat.le_refl _)⟩
      · have HR := Lib.hid (pair_no (a := x) (b := y) (.inr (.inr h8)))
        have e1 : ((wt (x ^^^ y) : Int) != 8) = true := by simp; omega
        clear ha hb hx hy h8
        go_enter Try.func36, Try.ntmps36
        go_wp2_with fail
        refine (HA.out w).mono ?_
        rintro e w1 ⟨rfl, b1⟩
        go_wp2_with fail
        refine (HB.out w1).mono ?_
        rintro e w2 ⟨rfl, b2⟩
        go_wp2_with fail
        refine (sweight _ w2 hxl).mono ?_
        rintro e w' ⟨rfl, rfl⟩
        go_wp2
        go_ret2
        rw [HR.out.1, HR.out.2]
        exact ⟨rfl, below_to b1 b2 (Nat.le_refl _)⟩

theorem lawOctadPair (a b : Int) (w : World) :
    Calls Try.prog 11 #[.int .i64 a, .int .i64 b] w fun e w' => e = .returned (.bool true) ∧ Below w.heap.size w w' := by
  obtain ⟨r, hr⟩ : ∃ r, r = pairR a b := ⟨_, rfl⟩
  obtain ⟨v, hv⟩ : ∃ v, v = pairOk a b := ⟨_, rfl⟩
  have HS := Lib.hid (sOctadPair a b)
  have HI := Lib.hid (iOctadPair a b)
  rw [← hr, ← hv] at HS HI
  clear hr hv
  have e0 : (r != r) = false := by simp
  have e1 : (v != v) = false := by simp
  have e2 : (r == r) = true := by simp
  have e3 : (v == v) = true := by simp
  go_enter Try.func11, Try.ntmps11
  go_wp2_with fail
  refine (HS.out w).mono ?_
  rintro e w1 ⟨rfl, b1⟩
  go_wp2_with fail
  refine (HI.out w1).mono ?_
  rintro e w2 ⟨rfl, b2⟩
  have HB := Lib.hid (below_to b1 b2 (Nat.le_refl _))
  clear b1 b2
  go_wp2
  go_ret
  exact ⟨rfl, HB.out⟩
end Go.Proofs.Ytdomilpnhkkkiaa
