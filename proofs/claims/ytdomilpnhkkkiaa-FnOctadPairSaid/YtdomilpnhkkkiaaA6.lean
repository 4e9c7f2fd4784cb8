import Derived.Test.YtdomilpnhkkkiaaA5
import Derived.Test.YtdomilpnhkkkiaaM2
namespace Go.Proofs.Ytdomilpnhkkkiaa
open Go.RowKit

theorem l1Bit_any (n i : Nat) (w : World) (hn : n < 9223372036854775808) (hi : i < 24) :
    Calls Try.prog 46 #[.int .i64 n, .int .i64 i] w fun e w' => e = .returned (.int .i64 (bt n i)) ∧ w = w' := by
  have hb := i64_bit n i hn
  go_enter Try.func46, Try.ntmps46
  go_wp2
  go_ret
  exact ⟨rfl, rfl⟩

theorem within_yes (n lo hi : Int) (w : World) (h1 : lo ≤ n) (h2 : n ≤ hi) : Calls Try.prog 49 #[.int .i64 n, .int .i64 lo, .int .i64 hi] w fun e w' => e = .returned (.bool true) ∧ w = w' := by
  go_enter Try.func49, Try.ntmps49
  go_wp2
  go_ret
  exact ⟨by simp, rfl⟩
theorem within_no (n lo hi : Int) (w : World) (h : n < lo ∨ hi < n) : Calls Try.prog 49 #[.int .i64 n, .int .i64 lo, .int .i64 hi] w fun e w' => e = .returned (.bool false) ∧ w = w' := by
  by_cases h1 : n < lo
  · go_enter Try.func49, Try.ntmps49
    go_wp2
    go_ret
    exact ⟨rfl, rfl⟩
  · have h2 : hi < n := by omega
    go_enter Try.func49, Try.ntmps49
    go_wp2
    go_ret
    exact ⟨by simp; omega, rfl⟩

theorem l6In_yes (n lo hi : Int) (w : World) (h1 : lo ≤ n) (h2 : n ≤ hi) : Calls Try.prog 45 #[.int .i64 n, .int .i64 lo, .int .i64 hi] w fun e w' => e = .returned (.bool true) ∧ w = w' := by
  go_enter Try.func45, Try.ntmps45
  go_wp2
  go_ret
  exact ⟨by simp, rfl⟩
theorem l6In_no (n lo hi : Int) (w : World) (h : n < lo ∨ hi < n) : Calls Try.prog 45 #[.int .i64 n, .int .i64 lo, .int .i64 hi] w fun e w' => e = .returned (.bool false) ∧ w = w' := by
  by_cases h1 : n < lo
  · go_enter Try.func45, Try.ntmps45
    go_wp2
    go_ret
    exact ⟨rfl, rfl⟩
  · have h2 : hi < n := by omega
    go_enter Try.func45, Try.ntmps45
    go_wp2
    go_ret
    exact ⟨by simp; omega, rfl⟩

theorem iWordValid_yes (x : Nat) (w : World) (hx : x < 16777216) : Calls Try.prog 55 #[.int .i64 x] w fun e w' => e = .returned (.bool true) ∧ w = w' := by
  go_enter Try.func55, Try.ntmps55
  go_wp2
  go_ret
  exact ⟨by simp; omega, rfl⟩
theorem iWordValid_no (x : Int) (w : World) (hx : x < 0 ∨ 16777215 < x) : Calls Try.prog 55 #[.int .i64 x] w fun e w' => e = .returned (.bool false) ∧ w = w' := by
  by_cases h : x < 0
  · go_enter Try.func55, Try.ntmps55
    go_wp2
    go_ret
    exact ⟨rfl, rfl⟩
  · have h' : 16777215 < x := by omega
    go_enter Try.func55, Try.ntmps55
    go_wp2
    go_ret
    exact ⟨by simp; omega, rfl⟩

theorem sWordValid_yes (x : Nat) (w : World) (hx : x < 16777216) : Calls Try.prog 53 #[.int .i64 x] w fun e w' => e = .returned (.bool true) ∧ w = w' := by
  go_enter Try.func53, Try.ntmps53
  go_wp2
  go_ret
  exact ⟨by simp; omega, rfl⟩
theorem sWordValid_no (x : Int) (w : World) (hx : x < 0 ∨ 16777215 < x) : Calls Try.prog 53 #[.int .i64 x] w fun e w' => e = .returned (.bool false) ∧ w = w' := by
  by_cases h : x < 0
  · go_enter Try.func53, Try.ntmps53
    go_wp2
    go_ret
    exact ⟨rfl, rfl⟩
  · have h' : 16777215 < x := by omega
    go_enter Try.func53, Try.ntmps53
    go_wp2
    go_ret
    exact ⟨by simp; omega, rfl⟩

set_option maxHeartbeats 400000 in
theorem placesOf_any (x : Nat) (w : World) (hx : x < 16777216) :
    Calls Try.prog 78 #[.int .i64 x] w (Makes (nl (pl x)) w) := by
  go_enter Try.func78, Try.ntmps78
  go_wp2
  go_loopw [3, 6] (fun v i wr => ∃ k A cap, k ≤ 24 ∧ i = .int .i64 (k : Nat) ∧ v = .slice A (plTo x k).length cap ∧ Own wr w.heap.size A (plTo x k).length cap (nl (plTo x k)) ∧ Below w.heap.size w wr) (fun _ i _ => 24 - (intOf i).toNat)
  case atStart => exact ⟨0, _, _, Nat.zero_le _, rfl, rfl, Own.lit w [] (by decide), (Below.refl _ _).alloc (Nat.le_refl _) _⟩
  case round =>
    obtain ⟨k, A, cap, hk, rfl, rfl, hown, hb⟩ := hrel
    have HO := Lib.hid hown
    have HB := Lib.hid hb
    have hlen : (plTo x k).length ≤ 24 := by rw [plTo_len]; have := sm_le (n := k) (f := bt x) (g := fun _ => 1) (fun i _ => bt_le x i); rw [sm_const] at this; omega
    have hsz := hb.size
    clear hown hb
    by_cases hlt : k < 24
    · have hbit : bits .and .i64 ((x : Int) / 2 ^ k) 1 = (bt x k : Int) := i64_bit x k (by omega)
      cases hv : x.testBit k with
      | true =>
        have e1 : ((bt x k : Int) == 1) = true := by rw [bt_one.2 hv]; rfl
        have hy := plTo_yes hv
        have HY := Lib.hid hy
        clear hv hy
        go_wp2_with (at_builtin; refine wl_app _ rfl (.tmp 14) (.tmp 16) rfl w.heap.size A _ cap (nl (plTo x k)) k rfl HO.out rfl (by omega) hsz ?_)
        intro A' cap' w1 hown1 hb1
        have HO1 := Lib.hid hown1
        clear hown1
        go_wp2
        go_roundw
        case rel =>
          refine ⟨k + 1, A', cap', by omega, by go_num, ?_, ?_, HB.out.trans hb1⟩
          · rw [HY.out]; simp
          · have := HO1.out
            rw [HY.out]
            simpa [nl_append, nl] using this
        case measure => simp [intOf]; omega
      | false =>
        have e1 : ((bt x k : Int) == 1) = false := by rw [bt_zero.2 hv]; rfl
        have hy := plTo_no hv
        have HY := Lib.hid hy
        clear hv hy
        go_wp2
        go_roundw
        case rel => exact ⟨k + 1, A, cap, by omega, by go_num, by rw [HY.out], by rw [HY.out]; exact HO.out, HB.out⟩
        case measure => simp [intOf]; omega
    · obtain rfl : k = 24 := by omega
      go_wp2
      go_ret
      exact ⟨A, _, cap, rfl, HO.out, HB.out⟩

set_option maxHeartbeats 400000 in
theorem iPermFixed (B : Nat) (A : Option Addr) (n cap : Nat) (l : List Int) (w : World) (h : Sl w B A n cap l) (hn : n ≤ 1048576) :
    Calls Try.prog 24 #[.slice A n cap] w fun e w' => e = .returned (.tuple #[.int .i64 (fixRes l), .bool (isPerm l)]) ∧ w = w' := by
  have HS := Lib.hid h
  have hl := h.len
  clear h
  cases hp : isPerm l with
  | false =>
    have HP := Lib.hid hp
    have HL := Lib.hid hl
    clear hp hl
    go_enter Try.func24, Try.ntmps24
    go_wp2_with fail
    refine (iPermValid B A n cap l w HS.out hn).mono ?_
    rw [HP.out]
    rintro e w' ⟨rfl, rfl⟩
    go_wp2
    go_ret2
    rw [fixRes_no HP.out]
    exact ⟨rfl, rfl⟩
  | true =>
    obtain rfl : n = 24 := by have := isPerm_len hp; omega
    have HP := Lib.hid hp
    clear hp hl
    go_enter Try.func24, Try.ntmps24
    go_wp2_with fail
    refine (iPermValid B A 24 cap l w HS.out hn).mono ?_
    rw [HP.out]
    rintro e w' ⟨rfl, rfl⟩
    go_wp2
    go_loop [4, 12] (fun u i => ∃ k : Nat, k ≤ 24 ∧ i = .int .i64 k ∧ u = .int .i64 (fixTo l k)) (fun _ i => 24 - (intOf i).toNat)
    case atStart => exact ⟨0, Nat.zero_le _, rfl, rfl⟩
    case round =>
      obtain ⟨k, hk, rfl, rfl⟩ := hrel
      by_cases hlt : k < 24
      · obtain ⟨b, o, x, rfl, hb, hx, hc⟩ := HS.out.get hlt
        obtain ⟨p, hp, hx'⟩ := isPerm_get HP.out hlt
        obtain rfl : x = (p : Int) := by rw [hx] at hx'; injection hx'
        have hlt2 := (fixTo_facts l k (by omega)).1
        by_cases hkp : k = p
        · subst hkp
          have hf : fixTo l (k + 1) = fixTo l k ||| 1 <<< k := by simp [fixTo, hx]
          have HF := Lib.hid hf
          clear hf hx hx'
          go_wp2
          go_round
          case rel => exact ⟨k + 1, by omega, by go_num, int_eq (by rw [HF.out]; exact i64_put _ k hlt2 hlt)⟩
          case measure => simp [intOf]; omega
        · have hf : fixTo l (k + 1) = fixTo l k := by simp [fixTo, hx]; omega
          have e1 : ((k : Int) == (p : Int)) = false := by simp; omega
          have HF := Lib.hid hf
          clear hf hx hx' hkp
          go_wp2
          go_round
          case rel => exact ⟨k + 1, by omega, by go_num, by rw [HF.out]⟩
          case measure => simp [intOf]; omega
      · obtain rfl : k = 24 := by omega
        go_wp2
        go_ret2
        rw [fixRes_yes HP.out]
        exact ⟨rfl, rfl⟩

set_option maxHeartbeats 400000 in
theorem sPermFixed (B : Nat) (A : Option Addr) (n cap : Nat) (l : List Int) (w : World) (h : Sl w B A n cap l) (hn : n ≤ 1048576) :
    Calls Try.prog 23 #[.slice A n cap] w fun e w' => e = .returned (.tuple #[.int .i64 (fixRes l), .bool (isPerm l)]) ∧ w = w' := by
  have HS := Lib.hid h
  have hl := h.len
  clear h
  cases hp : isPerm l with
  | false =>
    have HP := Lib.hid hp
    have HL := Lib.hid hl
    clear hp hl
    go_enter Try.func23, Try.ntmps23
    go_wp2_with fail
    refine (sPermValid B A n cap l w HS.out hn).mono ?_
    rw [HP.out]
    rintro e w' ⟨rfl, rfl⟩
    go_wp2
    go_ret2
    rw [fixRes_no HP.out]
    exact ⟨rfl, rfl⟩
  | true =>
    obtain rfl : n = 24 := by have := isPerm_len hp; omega
    have HP := Lib.hid hp
    clear hp hl
    go_enter Try.func23, Try.ntmps23
    go_wp2_with fail
    refine (sPermValid B A 24 cap l w HS.out hn).mono ?_
    rw [HP.out]
    rintro e w' ⟨rfl, rfl⟩
    go_wp2
    go_loop [4, 5] (fun u i => ∃ k : Nat, k ≤ 24 ∧ i = .int .i64 k ∧ u = .int .i64 (fixTo l k)) (fun _ i => 24 - (intOf i).toNat)
    case atStart => exact ⟨0, Nat.zero_le _, rfl, rfl⟩
    case round =>
      obtain ⟨k, hk, rfl, rfl⟩ := hrel
      by_cases hlt : k < 24
      · obtain ⟨b, o, x, rfl, hb, hx, hc⟩ := HS.out.get hlt
        obtain ⟨p, hp, hx'⟩ := isPerm_get HP.out hlt
        obtain rfl : x = (p : Int) := by rw [hx] at hx'; injection hx'
        have hff := fixTo_facts l k (by omega)
        have hlt2 := hff.1
        have HFF := Lib.hid hff
        clear hff
        by_cases hkp : k = p
        · subst hkp
          have hf : fixTo l (k + 1) = fixTo l k ||| 1 <<< k := by simp [fixTo, hx]
          have HF := Lib.hid hf
          clear hf hx hx'
          go_wp2
          go_round
          case rel => exact ⟨k + 1, by omega, by go_num, int_eq (by rw [HF.out, or_add hlt2 hlt (HFF.out.2 k (Nat.le_refl _))]; exact i64_plus2 _ k hlt2 hlt)⟩
          case measure => simp [intOf]; omega
        · have hf : fixTo l (k + 1) = fixTo l k := by simp [fixTo, hx]; omega
          have e1 : ((p : Int) == (k : Int)) = false := by simp; omega
          have HF := Lib.hid hf
          clear hf hx hx' hkp
          go_wp2
          go_round
          case rel => exact ⟨k + 1, by omega, by go_num, by rw [HF.out]⟩
          case measure => simp [intOf]; omega
      · obtain rfl : k = 24 := by omega
        go_wp2
        go_ret2
        rw [fixRes_yes HP.out]
        exact ⟨rfl, rfl⟩
end Go.Proofs.Ytdomilpnhkkkiaa
