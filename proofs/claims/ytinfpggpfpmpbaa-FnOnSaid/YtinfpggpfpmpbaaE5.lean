import Derived.Test.YtinfpggpfpmpbaaE4
import Derived.Test.YtinfpggpfpmpbaaF2
namespace Go.Proofs.Ytinfpggpfpmpbaa
open Go.RowKit

theorem Drew.le {base g p K L : Nat} {a w : World} (h : Drew base g p K a w) (hk : K ≤ L) : Drew base g p L a w := by
  obtain ⟨q, h1, h2, h3, h4⟩ := h
  exact ⟨q, h1, by omega, h3, h4⟩
/-- A drawing, and then a call that only makes memory. -/
theorem Drew.after {base g p K : Nat} {a w w' : World} (h : Drew base g p K a w) (hb : Below w.heap.size w w') : Drew base g p K a w' := by
  obtain ⟨q, h1, h2, h3, h4⟩ := h
  exact ⟨q, h1, h2, h3.below hb, h4.trans (Below.toOnly hb _)⟩
theorem near_nat {n : Nat} (h : n < 16777216) : Near (n : Int) := ⟨by omega, by omega⟩
theorem wordOf_lt (l : List Int) : (wordOf l).getD 0 < 16777216 := by
  cases h : wordOf l with
  | none => decide
  | some a => exact (wordOf_facts l a h).1

theorem sx_cases (x : Int) : (tetZ x = true ∧ (sxR x).length = 6) ∨ (tetZ x = false ∧ sxR x = []) := by
  cases h : tetZ x with
  | true =>
    obtain ⟨t, rfl, ht, h4⟩ := tetZ_nat h
    exact .inl ⟨rfl, by rw [(sx_yes ht h4).2, sext_len ht h4]⟩
  | false => exact .inr ⟨rfl, sx_no h⟩

end Go.Proofs.Ytinfpggpfpmpbaa
