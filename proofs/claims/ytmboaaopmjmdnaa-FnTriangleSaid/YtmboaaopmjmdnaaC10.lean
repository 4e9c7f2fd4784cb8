import Derived.Test.YtmboaaopmjmdnaaC4
import Derived.Test.YtmboaaopmjmdnaaM6
namespace Go.Proofs.Ytmboaaopmjmdnaa
open Go.RowKit

theorem iOct_is (x : Int) (v : Bool) (h : octZ x = v) (W : World) :
    Calls Try.prog 10 #[.int .i64 x] W fun e w' => e = .returned (.bool v) ∧ Below W.heap.size W w' := by subst h; exact iOctadInZ x W
theorem sOct_is (x : Int) (v : Bool) (h : octZ x = v) (W : World) :
    Calls Try.prog 14 #[.int .i64 x] W fun e w' => e = .returned (.bool v) ∧ Below W.heap.size W w' := by subst h; exact sOctadInZ x W
theorem octZ_yes {x : Int} (h : octZ x = true) : ∃ n : Nat, x = n ∧ Oct n := by
  rcases word_cases x with ⟨n, rfl, hn⟩ | hx
  · rw [octZ_nat n hn] at h; exact ⟨n, rfl, (isOct_iff hn).1 h⟩
  · rw [octZ_no x hx] at h; cases h
/-- What 'OctadPair' answers. -/
def pairOk (a b : Int) : Bool := octZ a && octZ b && decide (wt (a.toNat ^^^ b.toNat) = 8)
def pairR (a b : Int) : Int := if pairOk a b then ((a.toNat ^^^ b.toNat : Nat) : Int) else 0
theorem pair_yes {a b : Nat} (ha : Oct a) (hb : Oct b) (h : wt (a ^^^ b) = 8) : pairOk a b = true ∧ pairR a b = ((a ^^^ b : Nat) : Int) := by
  have h1 : pairOk a b = true := by
    unfold pairOk; rw [octZ_nat a (oct_lt ha), octZ_nat b (oct_lt hb), (isOct_iff (oct_lt ha)).2 ha, (isOct_iff (oct_lt hb)).2 hb]
    simp [h]
  exact ⟨h1, by unfold pairR; rw [h1]; simp⟩
theorem pair_no {a b : Int} (h : octZ a = false ∨ octZ b = false ∨ wt (a.toNat ^^^ b.toNat) ≠ 8) : pairOk a b = false ∧ pairR a b = 0 := by
  have h1 : pairOk a b = false := by
    unfold pairOk
    rcases h with h | h | h <;> simp [h]
  exact ⟨h1, by unfold pairR; rw [h1]; simp⟩
theorem oct_xor {a b : Nat} (ha : Oct a) (hb : Oct b) : isOct (a ^^^ b) = decide (wt (a ^^^ b) = 8) := by
  have h := cod_xor ha.1 hb.1
  rw [isOct_split, h.2, Bool.true_and]

end Go.Proofs.Ytmboaaopmjmdnaa
