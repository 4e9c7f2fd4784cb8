import Derived.Test.YtmboaaopmjmdnaaD2
namespace Go.Proofs.Ytmboaaopmjmdnaa
open Go.RowKit

/-- Whether an int is a tetrad. -/
def tetZ (x : Int) : Bool := valid x && decide (wt x.toNat = 4)
theorem tetZ_yes {n : Nat} (hn : n < 16777216) (h : wt n = 4) : tetZ n = true := by unfold tetZ; rw [valid_yes hn]; simp [h]
theorem tetZ_no {x : Int} (h : valid x = false ∨ wt x.toNat ≠ 4) : tetZ x = false := by
  unfold tetZ; rcases h with h | h <;> simp [h]
theorem tetZ_nat {x : Int} (h : tetZ x = true) : ∃ n : Nat, x = n ∧ n < 16777216 ∧ wt n = 4 := by
  rcases word_cases x with ⟨n, rfl, hn⟩ | hx
  · refine ⟨n, rfl, hn, ?_⟩
    unfold tetZ at h
    rw [Bool.and_eq_true, decide_eq_true_eq] at h
    exact h.2
  · rw [tetZ_no (.inl (valid_no hx))] at h; cases h

/-- What 'SextetOf' answers. -/
def sxR (x : Int) : List Nat := if tetZ x then sext x.toNat else []
theorem sx_yes {t : Nat} (ht : t < 16777216) (h4 : wt t = 4) : tetZ t = true ∧ sxR t = sext t := by
  have h := tetZ_yes ht h4
  exact ⟨h, by unfold sxR; rw [h]; rfl⟩
theorem sx_no {x : Int} (h : tetZ x = false) : sxR x = [] := by unfold sxR; rw [h]; rfl
theorem sx_len (x : Int) : (nl (sxR x)).length ≤ 6 := by
  rw [nl_length]
  cases h : tetZ x with
  | true =>
    obtain ⟨t, rfl, ht, h4⟩ := tetZ_nat h
    rw [(sx_yes ht h4).2, sext_len ht h4]
    exact Nat.le_refl _
  | false => rw [sx_no h]; simp

end Go.Proofs.Ytmboaaopmjmdnaa
