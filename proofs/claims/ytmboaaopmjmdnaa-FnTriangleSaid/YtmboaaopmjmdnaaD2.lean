import Derived.Test.YtmboaaopmjmdnaaC9
import Derived.Test.YtmboaaopmjmdnaaM12
namespace Go.Proofs.Ytmboaaopmjmdnaa
open Go.RowKit

theorem i64_less (a b : Nat) (ha : a < 9223372036854775808) (hb : b < 9223372036854775808) : bits .andNot .i64 (a : Int) (b : Int) = ((a ^^^ (a &&& b) : Nat) : Int) := by
  have hx : a ^^^ (a &&& b) < 2 ^ 63 := Nat.xor_lt_two_pow (by omega) (Nat.and_lt_two_pow _ (by omega))
  show IntKind.i64.wrap ((BitVec.ofInt 64 (a : Int) &&& ~~~ BitVec.ofInt 64 (b : Int)).toNat : Int) = _
  have e : ∀ x y : BitVec 64, x &&& ~~~ y = x ^^^ (x &&& y) := by
    intro x y
    ext i
    simp
    cases x[i] <;> cases y[i] <;> rfl
  rw [e, BitVec.toNat_xor, BitVec.toNat_and, ofInt_i64 a ha, ofInt_i64 b hb, IntKind.wrap_i64]
  omega

/-- Whether an int is a base. -/
def baseZ (x : Int) : Bool := valid x && decide (wt x.toNat = 3)
theorem baseZ_yes {n : Nat} (hn : n < 16777216) (h : wt n = 3) : baseZ n = true := by unfold baseZ; rw [valid_yes hn]; simp [h]
theorem baseZ_no {x : Int} (h : valid x = false ∨ wt x.toNat ≠ 3) : baseZ x = false := by
  unfold baseZ; rcases h with h | h <;> simp [h]
theorem baseZ_nat {x : Int} (h : baseZ x = true) : ∃ n : Nat, x = n ∧ n < 16777216 ∧ wt n = 3 := by
  rcases word_cases x with ⟨n, rfl, hn⟩ | hx
  · refine ⟨n, rfl, hn, ?_⟩
    unfold baseZ at h
    rw [Bool.and_eq_true, decide_eq_true_eq] at h
    exact h.2
  · rw [baseZ_no (.inl (valid_no hx))] at h; cases h

end Go.Proofs.Ytmboaaopmjmdnaa
