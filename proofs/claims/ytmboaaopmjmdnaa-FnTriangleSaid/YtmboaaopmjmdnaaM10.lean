/- How the two programs put a word of the code together, step by step. -/
import Derived.Test.YtmboaaopmjmdnaaM4
namespace Go.Proofs.Ytmboaaopmjmdnaa

/-- The place of row 0 in column 0, step by step. -/
def fx (m : Nat) : Nat → Nat
  | 0 => bt m 6
  | k + 1 => fx m k ^^^ bt m (7 + k)
def fsTo (m k : Nat) : List Nat := fx m k :: (List.range k).map fun i => bt m (7 + i)
theorem fx_lt (m k : Nat) : fx m k < 2 := by
  induction k with
  | zero => have := bt_le m 6; simp only [fx]; omega
  | succ k ih =>
    have := bt_le m (7 + k)
    simp only [fx]
    rw [xor_bits _ ih _ (by omega)]; omega
theorem fsTo_len (m k : Nat) : (fsTo m k).length = k + 1 := by simp [fsTo]
theorem fsTo_succ (m k : Nat) : (fsTo m k ++ [bt m (7 + k)]).set 0 (fx m (k + 1)) = fsTo m (k + 1) := by
  unfold fsTo; rw [List.range_succ]; simp
theorem fsTo_five (m c : Nat) (hc : c < 6) : (fsTo m 5).getD c 0 = fstM m c := by
  unfold fsTo fstM
  match c, hc with
  | 0, _ => rfl
  | 1, _ => rfl
  | 2, _ => rfl
  | 3, _ => rfl
  | 4, _ => rfl
  | 5, _ => rfl
def topF (m : Nat) : Nat → Nat
  | 0 => 0
  | k + 1 => topF m k ^^^ bt m (7 + k)
theorem topF_lt (m k : Nat) : topF m k < 2 := by
  induction k with
  | zero => simp [topF]
  | succ k ih =>
    have := bt_le m (7 + k)
    simp only [topF]
    rw [xor_bits _ ih _ (by omega)]; omega
theorem topF_five (m : Nat) : topF m 5 ^^^ bt m 6 = fst0 m := by
  simp only [topF, fst0, Nat.zero_xor]
  ac_rfl
/-- The first k columns of a word of the code. -/
def cwTo (m k : Nat) : Nat := sm k fun c => colM m c * 2 ^ (4 * c)
theorem cwTo_lt (m k : Nat) : cwTo m k < 2 ^ (4 * k) := by
  induction k with
  | zero => simp [cwTo, sm]
  | succ k ih =>
    have := (colM_all m k).1
    have e : cwTo m (k + 1) = cwTo m k + colM m k * 2 ^ (4 * k) := rfl
    rw [e, show 4 * (k + 1) = 4 * k + 4 from by omega, Nat.pow_add]
    have : colM m k * 2 ^ (4 * k) ≤ 15 * 2 ^ (4 * k) := Nat.mul_le_mul_right _ (by omega)
    omega
theorem cwTo_or (m k : Nat) : cwTo m k ||| colM m k * 2 ^ (4 * k) = cwTo m (k + 1) := by
  have e : cwTo m (k + 1) = cwTo m k + colM m k * 2 ^ (4 * k) := rfl
  rw [e, Nat.or_comm, Nat.mul_comm, ← Nat.two_pow_add_eq_or_of_lt (cwTo_lt m k), Nat.add_comm]
theorem cwTo_lt' (m k : Nat) (hk : k ≤ 6) : cwTo m k < 16777216 := Nat.lt_of_lt_of_le (cwTo_lt m k) (show 2 ^ (4 * k) ≤ 2 ^ 24 from Nat.pow_le_pow_right (by decide) (by omega))
theorem cwTo_six (m : Nat) : cwTo m 6 = cw m := by
  unfold cwTo cw
  simp only [sm, Nat.reduceMul, Nat.reducePow]
  omega
theorem col_part (m k : Nat) (hk : k < 6) : colM m k * 2 ^ (4 * k) < 16777216 := by
  have h := cwTo_lt' m (k + 1) (by omega)
  have e : cwTo m (k + 1) = cwTo m k + colM m k * 2 ^ (4 * k) := rfl
  omega
/-- The columns 1 .. k of a word of the code. -/
def cwFrom (m k : Nat) : Nat := sm k fun c => colM m (c + 1) * 2 ^ (4 * (c + 1))
theorem cwFrom_eq (m k : Nat) : cwFrom m k + colM m 0 = cwTo m (k + 1) := by
  induction k with
  | zero => simp [cwFrom, cwTo, sm]
  | succ k ih =>
    have e : cwTo m (k + 1 + 1) = cwTo m (k + 1) + colM m (k + 1) * 2 ^ (4 * (k + 1)) := rfl
    have e' : cwFrom m (k + 1) = cwFrom m k + colM m (k + 1) * 2 ^ (4 * (k + 1)) := rfl
    omega
theorem cwFrom_lt (m k : Nat) (hk : k < 6) : cwFrom m k < 16777216 := by
  have h := cwTo_lt' m (k + 1) (by omega)
  have e := cwFrom_eq m k
  omega
theorem cwFrom_succ (m k : Nat) : cwFrom m (k + 1) = cwFrom m k + colM m (k + 1) * 2 ^ (4 * (k + 1)) := rfl
theorem cwFrom_five (m : Nat) : cwFrom m 5 + colM m 0 = cw m := by rw [cwFrom_eq, cwTo_six]
/-- The words of the first k messages. -/
def wdTo (k : Nat) : List Nat := (List.range k).map cw
theorem wdTo_succ (k : Nat) : wdTo (k + 1) = wdTo k ++ [cw k] := by unfold wdTo; rw [List.range_succ]; simp
theorem wdTo_len (k : Nat) : (wdTo k).length = k := by simp [wdTo]
theorem tbl_first {s p f : Nat} (hs : s < 4) (hp : p < 2) (hf : f < 2) (k : Nat) (hk : k < 16) : k = tbl s p f ↔ bt k 0 = f ∧ wt k % 2 = p ∧ scr k = s := by
  obtain ⟨_, a, b, c⟩ := tbl_all s hs p hp f hf
  constructor
  · rintro rfl; exact ⟨c, b, a⟩
  · rintro ⟨rfl, rfl, rfl⟩; exact (tbl_back k hk).symm
end Go.Proofs.Ytmboaaopmjmdnaa
