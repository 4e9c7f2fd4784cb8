import Derived.Test.YtmboaaopmjmdnaaA5
import Derived.Test.YtmboaaopmjmdnaaM2
namespace Go.Proofs.Ytmboaaopmjmdnaa
open Go.RowKit

theorem l1Bit_any (n i : Nat) (w : World) (hn : n < 9223372036854775808) (hi : i < 24) :
    Calls Try.prog 29 #[.int .i64 n, .int .i64 i] w fun e w' => e = .returned (.int .i64 (bt n i)) ∧ w = w' := by
  have hb := i64_bit n i hn
  go_enter Try.func29, Try.ntmps29
  go_wp2
  go_ret
  exact ⟨rfl, rfl⟩

theorem within_yes (n lo hi : Int) (w : World) (h1 : lo ≤ n) (h2 : n ≤ hi) : Calls Try.prog 42 #[.int .i64 n, .int .i64 lo, .int .i64 hi] w fun e w' => e = .returned (.bool true) ∧ w = w' := by
  go_enter Try.func42, Try.ntmps42
  go_wp2
  go_ret
  exact ⟨by simp, rfl⟩
theorem within_no (n lo hi : Int) (w : World) (h : n < lo ∨ hi < n) : Calls Try.prog 42 #[.int .i64 n, .int .i64 lo, .int .i64 hi] w fun e w' => e = .returned (.bool false) ∧ w = w' := by
  by_cases h1 : n < lo
  · go_enter Try.func42, Try.ntmps42
    go_wp2
    go_ret
    exact ⟨rfl, rfl⟩
  · have h2 : hi < n := by omega
    go_enter Try.func42, Try.ntmps42
    go_wp2
    go_ret
    exact ⟨by simp; omega, rfl⟩

theorem l6In_yes (n lo hi : Int) (w : World) (h1 : lo ≤ n) (h2 : n ≤ hi) : Calls Try.prog 47 #[.int .i64 n, .int .i64 lo, .int .i64 hi] w fun e w' => e = .returned (.bool true) ∧ w = w' := by
  go_enter Try.func47, Try.ntmps47
  go_wp2
  go_ret
  exact ⟨by simp, rfl⟩
theorem l6In_no (n lo hi : Int) (w : World) (h : n < lo ∨ hi < n) : Calls Try.prog 47 #[.int .i64 n, .int .i64 lo, .int .i64 hi] w fun e w' => e = .returned (.bool false) ∧ w = w' := by
  by_cases h1 : n < lo
  · go_enter Try.func47, Try.ntmps47
    go_wp2
    go_ret
    exact ⟨rfl, rfl⟩
  · have h2 : hi < n := by omega
    go_enter Try.func47, Try.ntmps47
    go_wp2
    go_ret
    exact ⟨by simp; omega, rfl⟩

theorem iWordValid_yes (x : Nat) (w : World) (hx : x < 16777216) : Calls Try.prog 35 #[.int .i64 x] w fun e w' => e = .returned (.bool true) ∧ w = w' := by
  go_enter Try.func35, Try.ntmps35
  go_wp2
  go_ret
  exact ⟨by simp; omega, rfl⟩
theorem iWordValid_no (x : Int) (w : World) (hx : x < 0 ∨ 16777215 < x) : Calls Try.prog 35 #[.int .i64 x] w fun e w' => e = .returned (.bool false) ∧ w = w' := by
  by_cases h : x < 0
  · go_enter Try.func35, Try.ntmps35
    go_wp2
    go_ret
    exact ⟨rfl, rfl⟩
  · have h' : 16777215 < x := by omega
    go_enter Try.func35, Try.ntmps35
    go_wp2
    go_ret
    exact ⟨by simp; omega, rfl⟩

theorem sWordValid_yes (x : Nat) (w : World) (hx : x < 16777216) : Calls Try.prog 43 #[.int .i64 x] w fun e w' => e = .returned (.bool true) ∧ w = w' := by
  go_enter Try.func43, Try.ntmps43
  go_wp2
  go_ret
  exact ⟨by simp; omega, rfl⟩
theorem sWordValid_no (x : Int) (w : World) (hx : x < 0 ∨ 16777215 < x) : Calls Try.prog 43 #[.int .i64 x] w fun e w' => e = .returned (.bool false) ∧ w = w' := by
  by_cases h : x < 0
  · go_enter Try.func43, Try.ntmps43
    go_wp2
    go_ret
    exact ⟨rfl, rfl⟩
  · have h' : 16777215 < x := by omega
    go_enter Try.func43, Try.ntmps43
    go_wp2
    go_ret
    exact ⟨by simp; omega, rfl⟩

set_option maxHeartbeats 400000 in
theorem placesOf_any (x : Nat) (w : World) (hx : x < 16777216) :
    Calls Try.prog 12 #[.int .i64 x] w (Makes (nl (pl x)) w) := by
  go_enter Try.func12, Try.ntmps12
  go_wp2
  go_loopw [3, 6] (fun v i wr => ∃ k A cap, k ≤ 24 ∧ i = .int .i64 (k : Nat) ∧ v = .slice A (plTo x k).length cap ∧ Own wr w.heap.size A (plTo x k).length cap (nl (plTo x k)) ∧ Below w.heap.size w wr) (fun _ i _ => 24 - (intOf i).toNat)
  case atStart => exact ⟨0, _, _, Nat.zero_le _, rfl, rfl, Own.lit w [] (by decide), (Below.refl _ _).alloc (Nat.le_refl _) _⟩
  case round =>
    obtain ⟨k, A, cap, hk, rfl, rfl, hown, hb⟩ := hrel
    have HO := Lib.hid hown
    have HB := Lib.hid hb
    have hlen : (plTo x k).length ≤ 24 := by rw [plTo_len]; have := sm_le (n := k) (f := bt x) (g := fun _ => 1) (fun i _ => bt_le x i); rw [sm_const] at this; omega
    have hsz := hb.size
    clear hown hb
    by_cases hlt : k < 24
    · have hbit : bits .and .i64 ((x : Int) / 2 ^ k) 1 = (bt x k : Int) := i64_bit x k (by omega)
      cases hv : x.testBit k with
      | true =>
        have e1 : ((bt x k : Int) == 1) = true := by rw [bt_one.2 hv]; rfl
        have hy := plTo_yes hv
        have HY := Lib.hid hy
        clear hv hy
        go_wp2_with (at_builtin; refine wl_app _ rfl (.tmp 14) (.tmp 16) rfl w.heap.size A _ cap (nl (plTo x k)) k rfl HO.out rfl (by omega) hsz ?_)
        intro A' cap' w1 hown1 hb1
        have HO1 := Lib.hid hown1
        clear hown1
        go_wp2
        go_roundw
        case rel =>
          refine ⟨k + 1, A', cap', by omega, by go_num, ?_, ?_, HB.out.trans hb1⟩
          · rw [HY.out]; simp
          · have := HO1.out
            rw [HY.out]
            simpa [nl_append, nl] using this
        case measure => simp [intOf]; omega
      | false =>
        have e1 : ((bt x k : Int) == 1) = false := by rw [bt_zero.2 hv]; rfl
        have hy := plTo_no hv
        have HY := Lib.hid hy
        clear hv hy
        go_wp2
        go_roundw
        case rel => exact ⟨k + 1, A, cap, by omega, by go_num, by rw [HY.out], by rw [HY.out]; exact HO.out, HB.out⟩
        case measure => simp [intOf]; omega
    · obtain rfl : k = 24 := by omega
      go_wp2
      go_ret
      exact ⟨A, _, cap, rfl, HO.out, HB.out⟩

end Go.Proofs.Ytmboaaopmjmdnaa
