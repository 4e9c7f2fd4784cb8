import Derived.Test.YtmboaaopmjmdnaaA9
import Derived.Test.YtmboaaopmjmdnaaN0
namespace Go.Proofs.Ytmboaaopmjmdnaa
open Go.RowKit

theorem u64_and' (a b : Nat) (ha : a < 16777216) (hb : b < 18446744073709551616) : bits .and .u64 (a : Int) (b : Int) = ((a &&& b : Nat) : Int) := u64_and_nat a b (by omega) hb
set_option maxRecDepth 100000 in
theorem ones64 (x : Nat) (w : World) (hx : x < 16777216) :
    Calls Try.prog 53 #[.int .u64 x] w fun e w' => e = .returned (.int .i64 (wt x)) ∧ w = w' := by
  have and_le : ∀ a b : Nat, a < 16777216 → a &&& b < 16777216 := fun a b h => Nat.lt_of_le_of_lt Nat.and_le_left h
  obtain ⟨s0, s1, s2, t0, t1, t2, hp, hw⟩ := pop3_eq x hx
  obtain ⟨a1, h1⟩ : ∃ a1, x / 2 &&& 6148914691236517205 = a1 := ⟨_, rfl⟩
  obtain ⟨a2, h2⟩ : ∃ a2, x &&& 6148914691236517205 = a2 := ⟨_, rfl⟩
  have l1 : a1 < 8388608 := by rw [← h1]; exact Nat.lt_of_le_of_lt Nat.and_le_left (by omega)
  have l2 : a2 < 16777216 := by rw [← h2]; exact and_le _ _ hx
  obtain ⟨a3, h3⟩ : ∃ a3, (a1 + a2) / 4 &&& 3689348814741910323 = a3 := ⟨_, rfl⟩
  obtain ⟨a4, h4⟩ : ∃ a4, (a1 + a2) &&& 3689348814741910323 = a4 := ⟨_, rfl⟩
  have l3 : a3 < 8388608 := by rw [← h3]; exact Nat.lt_of_le_of_lt Nat.and_le_left (by omega)
  have l4 : a4 < 25165824 := by rw [← h4]; exact Nat.lt_of_le_of_lt Nat.and_le_left (by omega)
  obtain ⟨p, h5⟩ : ∃ p, ((a3 + a4) / 16 + (a3 + a4)) &&& 1085102592571150095 = p := ⟨_, rfl⟩
  have e5 : pop3 x = p := by unfold pop3 q2 q1; rw [h1, h2, h3, h4, h5]
  have l5 : p < 67108864 := by rw [← h5]; exact Nat.lt_of_le_of_lt Nat.and_le_left (by omega)
  have hend := pop_end t0 t1 t2 (e5.symm.trans hp)
  obtain ⟨q, h6⟩ : ∃ q, p + p / 256 + (p + p / 256) / 65536 + (p + p / 256 + (p + p / 256) / 65536) / 4294967296 = q := ⟨_, rfl⟩
  rw [h6] at hend
  have k1 : bits .and .u64 ((x : Int) / 2) 6148914691236517205 = (a1 : Int) := by
    rw [show ((x : Int) / 2) = ((x / 2 : Nat) : Int) from by omega, ← h1]; exact u64_and_nat _ 6148914691236517205 (by omega) (by decide)
  have k2 : bits .and .u64 (x : Int) 6148914691236517205 = (a2 : Int) := by rw [← h2]; exact u64_and_nat _ 6148914691236517205 (by omega) (by decide)
  have k3 : bits .and .u64 (((a1 : Int) + a2) / 4) 3689348814741910323 = (a3 : Int) := by
    rw [show (((a1 : Int) + a2) / 4) = (((a1 + a2) / 4 : Nat) : Int) from by omega, ← h3]; exact u64_and_nat _ 3689348814741910323 (by omega) (by decide)
  have k4 : bits .and .u64 ((a1 : Int) + a2) 3689348814741910323 = (a4 : Int) := by
    rw [show ((a1 : Int) + a2) = ((a1 + a2 : Nat) : Int) from by omega, ← h4]; exact u64_and_nat _ 3689348814741910323 (by omega) (by decide)
  have k5 : bits .and .u64 (((a3 : Int) + a4) / 16 + ((a3 : Int) + a4)) 1085102592571150095 = (p : Int) := by
    rw [show (((a3 : Int) + a4) / 16 + ((a3 : Int) + a4)) = (((a3 + a4) / 16 + (a3 + a4) : Nat) : Int) from by omega, ← h5]; exact u64_and_nat _ 1085102592571150095 (by omega) (by decide)
  have HE := Lib.hid hend
  have HW := Lib.hid hw
  have H6 := Lib.hid h6
  clear h1 h2 h3 h4 h5 e5 hp hend h6 hw
  go_enter Try.func53, Try.ntmps53
  go_wp2
  go_ret
  refine ⟨ret_eq (int_eq ?_), rfl⟩
  have e : ((p : Int) + (p : Int) / 256 + ((p : Int) + (p : Int) / 256) / 65536 + ((p : Int) + (p : Int) / 256 + ((p : Int) + (p : Int) / 256) / 65536) / 4294967296) = (q : Int) := by
    have := H6.out; omega
  rw [e]
  have h := i64_and q 127 (by have := H6.out; omega) (by decide)
  rw [HE.out, HW.out] at h
  exact h

theorem iweight (x : Nat) (w : World) (hx : x < 16777216) :
    Calls Try.prog 23 #[.int .i64 x] w fun e w' => e = .returned (.int .i64 (wt x)) ∧ w = w' := by
  go_enter Try.func23, Try.ntmps23
  go_wp2_with (first | (go_at_call 53; refine (ones64 x w hx).mono ?_; rintro e w' ⟨rfl, rfl⟩) | go_in)
  go_ret
  exact ⟨rfl, rfl⟩

theorem sweight (x : Nat) (w : World) (hx : x < 16777216) :
    Calls Try.prog 28 #[.int .i64 x] w fun e w' => e = .returned (.int .i64 (wt x)) ∧ w = w' := by
  go_enter Try.func28, Try.ntmps28
  go_wp2
  go_loop [3, 4] (fun u i => ∃ k : Nat, k ≤ 24 ∧ i = .int .i64 k ∧ u = .int .i64 (sm k (bt x))) (fun _ i => 24 - (intOf i).toNat)
  case atStart => exact ⟨0, Nat.zero_le _, rfl, rfl⟩
  case round =>
    obtain ⟨k, hk, rfl, rfl⟩ := hrel
    have hle : sm k (bt x) ≤ k := by
      have := sm_le (n := k) (f := bt x) (g := fun _ => 1) (fun i _ => bt_le x i); rw [sm_const] at this; omega
    have hb := bt_le x k
    by_cases hlt : k < 24
    · go_wp2_with (first | (go_at_call 29; refine (l1Bit_any x k w (by omega) hlt).mono ?_; rintro e w' ⟨rfl, rfl⟩) | go_in)
      go_round
      case rel => exact ⟨k + 1, by omega, by go_num, int_eq (by simp only [sm]; omega)⟩
      case measure => simp [intOf]; omega
    · obtain rfl : k = 24 := by omega
      go_wp2
      go_ret
      exact ⟨rfl, rfl⟩
theorem i64_col (x c : Nat) (hx : x < 16777216) : bits .and .i64 ((x : Int) / 2 ^ (4 * c)) 15 = (col x c : Int) := by
  have e : ((x : Int) / 2 ^ (4 * c)) = ((x >>> (4 * c) : Nat) : Int) := by rw [Nat.shiftRight_eq_div_pow]; simp
  rw [e]
  exact i64_and _ 15 (by have := Nat.shiftRight_le x (4 * c); omega) (by omega)

theorem icol (x c : Nat) (w : World) (hx : x < 16777216) (hc : c < 6) :
    Calls Try.prog 36 #[.int .i64 x, .int .i64 c] w fun e w' => e = .returned (.int .i64 (col x c)) ∧ w = w' := by
  go_enter Try.func36, Try.ntmps36
  go_wp2
  go_ret
  exact ⟨ret_eq (int_eq (i64_col x c hx)), rfl⟩

theorem scol (x c : Nat) (w : World) (hx : x < 16777216) (hc : c < 6) :
    Calls Try.prog 57 #[.int .i64 x, .int .i64 c] w fun e w' => e = .returned (.int .i64 (col x c)) ∧ w = w' := by
  go_enter Try.func57, Try.ntmps57
  go_wp2
  go_ret
  exact ⟨ret_eq (int_eq (i64_col x c hx)), rfl⟩
end Go.Proofs.Ytmboaaopmjmdnaa
