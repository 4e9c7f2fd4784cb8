import Derived.Test.YtmboaaopmjmdnaaE5
import Derived.StillTailTactics
namespace Go.Proofs.Ytmboaaopmjmdnaa
open Go.RowKit

set_option maxHeartbeats 400000 in
theorem sl1Places (x : Nat) (w : World) (hx : x < 16777216) :
    Calls Try.prog 15 #[.int .i64 x] w (Makes (nl (pl x)) w) := by
  go_enter Try.func15, Try.ntmps15
  go_wp2
  go_loopw [3, 4] (fun v i wr => ∃ k A cap, k ≤ 24 ∧ i = .int .i64 (k : Nat) ∧ v = .slice A (plTo x k).length cap ∧ Own wr w.heap.size A (plTo x k).length cap (nl (plTo x k)) ∧ Below w.heap.size w wr) (fun _ i _ => 24 - (intOf i).toNat)
  case atStart => exact ⟨0, _, _, Nat.zero_le _, rfl, rfl, Own.lit w [] (by decide), (Below.refl _ _).alloc (Nat.le_refl _) _⟩
  case round =>
    obtain ⟨k, A, cap, hk, rfl, rfl, hown, hb⟩ := hrel
    have HO := Lib.hid hown
    have HB := Lib.hid hb
    have hlen : (plTo x k).length ≤ 24 := by rw [plTo_len]; have := sm_le (n := k) (f := bt x) (g := fun _ => 1) (fun i _ => bt_le x i); rw [sm_const] at this; omega
    have hsz := hb.size
    clear hown hb
    by_cases hlt : k < 24
    · have hbit : bits .and .i64 ((x : Int) / 2 ^ k) 1 = (bt x k : Int) := i64_bit x k (by omega)
      cases hv : x.testBit k with
      | true =>
        have e1 : ((bt x k : Int) == 1) = true := by rw [bt_one.2 hv]; rfl
        have hy := plTo_yes hv
        have HY := Lib.hid hy
        clear hv hy
        go_wp2_with (first | (go_at_call 29; refine (l1Bit_any x k _ (by omega) hlt).mono ?_; rintro e w' ⟨rfl, rfl⟩) | (at_builtin; refine wl_app _ rfl (.tmp 14) (.tmp 16) rfl w.heap.size A _ cap (nl (plTo x k)) k rfl HO.out rfl (by omega) hsz ?_))
        intro A' cap' w1 hown1 hb1
        have HO1 := Lib.hid hown1
        clear hown1
        go_wp2
        go_roundw
        case rel =>
          refine ⟨k + 1, A', cap', by omega, by go_num, ?_, ?_, HB.out.trans hb1⟩
          · rw [HY.out]; simp
          · have := HO1.out
            rw [HY.out]
            simpa [nl_append, nl] using this
        case measure => simp [intOf]; omega
      | false =>
        have e1 : ((bt x k : Int) == 1) = false := by rw [bt_zero.2 hv]; rfl
        have hy := plTo_no hv
        have HY := Lib.hid hy
        clear hv hy
        go_wp2_with (first | (go_at_call 29; refine (l1Bit_any x k _ (by omega) hlt).mono ?_; rintro e w' ⟨rfl, rfl⟩))
        go_roundw
        case rel => exact ⟨k + 1, A, cap, by omega, by go_num, by rw [HY.out], by rw [HY.out]; exact HO.out, HB.out⟩
        case measure => simp [intOf]; omega
    · obtain rfl : k = 24 := by omega
      go_wp2
      go_ret
      exact ⟨A, _, cap, rfl, HO.out, HB.out⟩

/-- What is left of a drawn number under the mask of all places. -/
def maskR (x : Int) : Nat := if x = -1 then 16777215 else if x = 16777216 then 0 else x.toNat
theorem mask_eq {x : Int} (h : Near x) : bits .and .i64 x 16777215 = (maskR x : Int) ∧ maskR x < 16777216 := by
  obtain ⟨h1, h2⟩ := h
  by_cases e1 : x = -1
  · subst e1; exact ⟨rfl, by decide⟩
  · by_cases e2 : x = 16777216
    · subst e2; exact ⟨rfl, by decide⟩
    · obtain ⟨n, rfl⟩ := Int.eq_ofNat_of_zero_le (show 0 ≤ x from by omega)
      have hn : n < 16777216 := by omega
      have hm : maskR (n : Int) = n := by unfold maskR; rw [if_neg (by omega), if_neg (by omega)]; rfl
      rw [hm]
      refine ⟨?_, hn⟩
      have h := i64_and n 16777215 (by omega) (by decide)
      rw [show (n &&& 16777215 : Nat) = n from by
        rw [show (16777215 : Nat) = 2 ^ 24 - 1 from rfl, Nat.and_two_pow_sub_one_eq_mod]; exact Nat.mod_eq_of_lt hn] at h
      exact h
/-- Four different places. -/
theorem four_sum {a b c d : Nat} (h1 : a < b) (h2 : b < c) (h3 : c < d) (h4 : d < 24) : 1 <<< a + 1 <<< b + 1 <<< c + 1 <<< d < 16777216 := by
  have hb : ∀ {x y : Nat}, x < y → (1 <<< x).testBit y = false := fun h => by rw [bit_one]; simp; omega
  have e1 := or_add (one_shl_lt (show a < 24 by omega)) (show b < 24 by omega) (hb h1)
  have l1 := or_lt (one_shl_lt (show a < 24 by omega)) (one_shl_lt (show b < 24 by omega))
  have e2 := or_add l1 (show c < 24 by omega) (by rw [Nat.testBit_or, hb (show a < c by omega), hb h2]; rfl)
  have l2 := or_lt l1 (one_shl_lt (show c < 24 by omega))
  have e3 := or_add l2 h4 (by rw [Nat.testBit_or, Nat.testBit_or, hb (show a < d by omega), hb (show b < d by omega), hb h3]; rfl)
  have l3 := or_lt l2 (one_shl_lt h4)
  rw [← e1, ← e2, ← e3]
  exact l3
theorem wrap_nat {n : Nat} (h : n < 9223372036854775808) : IntKind.i64.wrap (n : Int) = (n : Int) := by rw [IntKind.wrap_i64]; omega
theorem four_wrap {a b c d : Nat} (h : 1 <<< a + 1 <<< b + 1 <<< c + 1 <<< d < 16777216) :
    IntKind.i64.wrap (IntKind.i64.wrap (IntKind.i64.wrap (IntKind.i64.wrap (2 ^ a) + IntKind.i64.wrap (2 ^ b)) + IntKind.i64.wrap (2 ^ c)) + IntKind.i64.wrap (2 ^ d)) = ((1 <<< a + 1 <<< b + 1 <<< c + 1 <<< d : Nat) : Int) := by
  rw [two_pow a, two_pow b, two_pow c, two_pow d]
  generalize 1 <<< a = x at *
  generalize 1 <<< b = y at *
  generalize 1 <<< c = z at *
  generalize 1 <<< d = u at *
  rw [wrap_nat (n := x) (by omega), wrap_nat (n := y) (by omega), wrap_nat (n := z) (by omega), wrap_nat (n := u) (by omega)]
  rw [show (x : Int) + (y : Int) = ((x + y : Nat) : Int) from by omega, wrap_nat (n := x + y) (by omega)]
  rw [show ((x + y : Nat) : Int) + (z : Int) = ((x + y + z : Nat) : Int) from by omega, wrap_nat (n := x + y + z) (by omega)]
  rw [show ((x + y + z : Nat) : Int) + (u : Int) = ((x + y + z + u : Nat) : Int) from by omega, wrap_nat (n := x + y + z + u) (by omega)]
theorem pl_four {m : Nat} (h : 4 ≤ (pl m).length) : ∃ a b c d, (pl m).getD 0 0 = a ∧ (pl m).getD 1 0 = b ∧ (pl m).getD 2 0 = c ∧ (pl m).getD 3 0 = d ∧ a < b ∧ b < c ∧ c < d ∧ d < 24 := by
  have hs := pl_sorted m
  have hm : ∀ i ∈ pl m, i < 24 := fun i hi => (mem_pl.1 hi).1
  match hp : pl m, h with
  | a :: b :: c :: d :: r, _ =>
    rw [hp] at hs hm
    simp only [List.pairwise_cons, List.mem_cons] at hs
    exact ⟨a, b, c, d, rfl, rfl, rfl, rfl, hs.1 b (.inl rfl), hs.2.1 c (.inl rfl), hs.2.2.1 d (.inl rfl), hm d (by simp)⟩

end Go.Proofs.Ytmboaaopmjmdnaa
