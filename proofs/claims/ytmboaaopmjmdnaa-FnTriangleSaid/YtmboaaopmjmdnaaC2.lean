import Derived.Test.YtmboaaopmjmdnaaC1
import Derived.Test.YtmboaaopmjmdnaaShelf
import Derived.Deep.RegionHeld3
namespace Go.Proofs.Ytmboaaopmjmdnaa
open Go.RowKit

theorem iTimesI (a b : Int) (w : World) (h1 : 0 ≤ a) (h2 : a < 4) (h3 : 0 ≤ b) (h4 : b < 4) : Calls Try.prog 62 #[.int .i64 a, .int .i64 b] w fun e w' => e = .returned (.int .i64 (tm a.toNat b.toNat)) ∧ w = w' := by
  obtain ⟨x, rfl⟩ := Int.eq_ofNat_of_zero_le h1
  obtain ⟨y, rfl⟩ := Int.eq_ofNat_of_zero_le h3
  exact iTimes x y w (by omega) (by omega)

theorem iscore (x : Nat) (w : World) (hx : x < 16) :
    Calls Try.prog 51 #[.int .i64 x] w fun e w' => e = .returned (.int .i64 (scr x)) ∧ w = w' := by
  go_enter Try.func51, Try.ntmps51
  go_wp2
  go_loop [3, 5] (fun u i => ∃ k : Nat, k ≤ 4 ∧ i = .int .i64 k ∧ u = .int .i64 (scrTo x k)) (fun _ i => 4 - (intOf i).toNat)
  case atStart => exact ⟨0, Nat.zero_le _, rfl, rfl⟩
  case round =>
    obtain ⟨k, hk, rfl, rfl⟩ := hrel
    have hlt4 := scrTo_lt x hx k hk
    by_cases hlt : k < 4
    · have hbit : bits .and .i64 ((x : Int) / 2 ^ k) 1 = (bt x k : Int) := i64_bit x k (by omega)
      cases hv : x.testBit k with
      | true =>
        have e1 : ((bt x k : Int) == 1) = true := by rw [bt_one.2 hv]; rfl
        have HY := Lib.hid (show scrTo x (k + 1) = scrTo x k ^^^ k from by simp [scrTo, hv])
        clear hv
        go_wp2
        go_round
        case rel => exact ⟨k + 1, by omega, by go_num, int_eq (by rw [HY.out]; exact i64_xor _ k (by omega) (by omega))⟩
        case measure => simp [intOf]; omega
      | false =>
        have e1 : ((bt x k : Int) == 1) = false := by rw [bt_zero.2 hv]; rfl
        have HY := Lib.hid (show scrTo x (k + 1) = scrTo x k from by simp [scrTo, hv])
        clear hv
        go_wp2
        go_round
        case rel => exact ⟨k + 1, by omega, by go_num, by rw [HY.out]⟩
        case measure => simp [intOf]; omega
    · obtain rfl : k = 4 := by omega
      go_wp2
      go_ret
      exact ⟨rfl, rfl⟩

theorem sscore (x c : Nat) (w : World) (hx : x < 16777216) (hc : c < 6) :
    Calls Try.prog 68 #[.int .i64 x, .int .i64 c] w fun e w' => e = .returned (.int .i64 (scr (col x c))) ∧ w = w' := by
  go_enter Try.func68, Try.ntmps68
  go_wp2
  go_loop [5, 6] (fun u i => ∃ k : Nat, k ≤ 4 ∧ i = .int .i64 k ∧ u = .int .i64 (scrTo (col x c) k)) (fun _ i => 4 - (intOf i).toNat)
  case atStart => exact ⟨0, Nat.zero_le _, rfl, rfl⟩
  case round =>
    obtain ⟨k, hk, rfl, rfl⟩ := hrel
    have hlt4 := scrTo_lt (col x c) (col_lt x c) k hk
    by_cases hlt : k < 4
    · have hcb := col_bit x c k hlt
      cases hv : (col x c).testBit k with
      | true =>
        have e1 : ((bt x (4 * c + k) : Int) == 1) = true := by rw [bt_one.2 (by rw [← hcb]; exact hv)]; rfl
        have HY := Lib.hid (show scrTo (col x c) (k + 1) = scrTo (col x c) k ^^^ k from by simp [scrTo, hv])
        clear hv hcb
        go_wp2_with (first | (go_at_call 29; refine (l1Bit_any x (4 * c + k) w (by omega) (by omega)).mono ?_; rintro e w' ⟨rfl, rfl⟩))
        go_round
        case rel => exact ⟨k + 1, by omega, by go_num, int_eq (by rw [HY.out]; exact i64_xor _ k (by omega) (by omega))⟩
        case measure => simp [intOf]; omega
      | false =>
        have e1 : ((bt x (4 * c + k) : Int) == 1) = false := by rw [bt_zero.2 (by rw [← hcb]; exact hv)]; rfl
        have HY := Lib.hid (show scrTo (col x c) (k + 1) = scrTo (col x c) k from by simp [scrTo, hv])
        clear hv hcb
        go_wp2_with (first | (go_at_call 29; refine (l1Bit_any x (4 * c + k) w (by omega) (by omega)).mono ?_; rintro e w' ⟨rfl, rfl⟩))
        go_round
        case rel => exact ⟨k + 1, by omega, by go_num, by rw [HY.out]⟩
        case measure => simp [intOf]; omega
    · obtain rfl : k = 4 := by omega
      go_wp2
      go_ret
      exact ⟨rfl, rfl⟩

set_option maxHeartbeats 400000 in
theorem iscores (x : Nat) (w : World) (hx : x < 16777216) :
    Calls Try.prog 38 #[.int .i64 x] w (Makes (nl (scores x)) w) := by
  go_enter Try.func38, Try.ntmps38
  go_wp2
  go_loopw [3, 6] (fun v i wr => ∃ k A cap, k ≤ 6 ∧ i = .int .i64 (k : Nat) ∧ v = .slice A k cap ∧ Own wr w.heap.size A k cap (nl (scoTo x k)) ∧ Below w.heap.size w wr) (fun _ i _ => 6 - (intOf i).toNat)
  case atStart => exact ⟨0, _, _, Nat.zero_le _, rfl, rfl, Own.lit w [] (by decide), (Below.refl _ _).alloc (Nat.le_refl _) _⟩
  case round =>
    obtain ⟨k, A, cap, hk, rfl, rfl, hown, hb⟩ := hrel
    have HO := Lib.hid hown
    have HB := Lib.hid hb
    have hsz := hb.size
    have hc16 := col_lt x k
    clear hown hb
    by_cases hlt : k < 6
    · have HS := Lib.hid (scoTo_succ x k)
      go_wp2_with (first | (go_at_call 36; refine (icol x k _ hx hlt).mono ?_; rintro e w' ⟨rfl, rfl⟩) | (go_at_call 51; refine (iscore (col x k) _ hc16).mono ?_; rintro e w' ⟨rfl, rfl⟩) | (at_builtin; refine wl_app _ rfl (.tmp 9) (.tmp 14) rfl w.heap.size A _ cap (nl (scoTo x k)) _ rfl HO.out rfl (by omega) hsz ?_))
      intro A2 cap2 w1 hown1 hb1
      have HO1 := Lib.hid hown1
      clear hown1
      go_wp2
      go_roundw
      case rel =>
        refine ⟨k + 1, A2, cap2, by omega, by go_num, by simp, ?_, HB.out.trans hb1⟩
        have := HO1.out
        rw [HS.out, nl_append]
        simpa [nl] using this
      case measure => simp [intOf]; omega
    · obtain rfl : k = 6 := by omega
      go_wp2
      go_ret
      exact ⟨A, _, cap, rfl, HO.out, HB.out⟩

set_option maxHeartbeats 400000 in
theorem sscores (x : Nat) (w : World) (hx : x < 16777216) :
    Calls Try.prog 59 #[.int .i64 x] w (Makes (nl (scores x)) w) := by
  go_enter Try.func59, Try.ntmps59
  go_wp2
  go_loopw [3, 4] (fun v i wr => ∃ k A cap, k ≤ 6 ∧ i = .int .i64 (k : Nat) ∧ v = .slice A k cap ∧ Own wr w.heap.size A k cap (nl (scoTo x k)) ∧ Below w.heap.size w wr) (fun _ i _ => 6 - (intOf i).toNat)
  case atStart => exact ⟨0, _, _, Nat.zero_le _, rfl, rfl, Own.lit w [] (by decide), (Below.refl _ _).alloc (Nat.le_refl _) _⟩
  case round =>
    obtain ⟨k, A, cap, hk, rfl, rfl, hown, hb⟩ := hrel
    have HO := Lib.hid hown
    have HB := Lib.hid hb
    have hsz := hb.size
    have hc16 := col_lt x k
    clear hown hb
    by_cases hlt : k < 6
    · have HS := Lib.hid (scoTo_succ x k)
      go_wp2_with (first | (go_at_call 68; refine (sscore x k _ hx hlt).mono ?_; rintro e w' ⟨rfl, rfl⟩) | (at_builtin; refine wl_app _ rfl (.tmp 10) (.tmp 14) rfl w.heap.size A _ cap (nl (scoTo x k)) _ rfl HO.out rfl (by omega) hsz ?_))
      intro A2 cap2 w1 hown1 hb1
      have HO1 := Lib.hid hown1
      clear hown1
      go_wp2
      go_roundw
      case rel =>
        refine ⟨k + 1, A2, cap2, by omega, by go_num, by simp, ?_, HB.out.trans hb1⟩
        have := HO1.out
        rw [HS.out, nl_append]
        simpa [nl] using this
      case measure => simp [intOf]; omega
    · obtain rfl : k = 6 := by omega
      go_wp2
      go_ret
      exact ⟨A, _, cap, rfl, HO.out, HB.out⟩

set_option maxHeartbeats 1000000 in
theorem ihexOf (a b c : Nat) (w : World) (ha : a < 4) (hb : b < 4) (hc : c < 4) :
    Calls Try.prog 50 #[.int .i64 a, .int .i64 b, .int .i64 c] w (Makes (nl (hexL a b c)) w) := by
  go_enter Try.func50, Try.ntmps50
  go_wp2
  go_loopw [7, 8] (fun v i wr => ∃ k A cap, k ≤ 3 ∧ i = .int .i64 ((k + 1 : Nat) : Int) ∧ v = .slice A (k + 3) cap ∧ Own wr w.heap.size A (k + 3) cap (nl (hexTo a b c k)) ∧ Below w.heap.size w wr) (fun _ i _ => 4 - (intOf i).toNat)
  case atStart => exact ⟨0, _, _, Nat.zero_le _, rfl, rfl, Own.lit w [(a : Int), b, c] (by simp), (Below.refl _ _).alloc (Nat.le_refl _) _⟩
  case round =>
    obtain ⟨k, A, cap, hk, rfl, rfl, hown, hb'⟩ := hrel
    have HO := Lib.hid hown
    have HB := Lib.hid hb'
    have hsz := hb'.size
    clear hown hb'
    by_cases hlt : k < 3
    · have HS := Lib.hid (hexTo_succ a b c k)
      have l1 := tm_lt (k + 1) (k + 1)
      have l2 := tm_lt a (tm (k + 1) (k + 1))
      have l3 := tm_lt b (k + 1)
      have l4 : tm a (tm (k + 1) (k + 1)) ^^^ tm b (k + 1) < 4 := Nat.xor_lt_two_pow (n := 2) l2 l3
      have x1 : bits .xor .i64 (tm a (tm (k + 1) (k + 1)) : Int) (tm b (k + 1) : Int) = ((tm a (tm (k + 1) (k + 1)) ^^^ tm b (k + 1) : Nat) : Int) := i64_xor _ _ (by omega) (by omega)
      have x2 : bits .xor .i64 ((tm a (tm (k + 1) (k + 1)) ^^^ tm b (k + 1) : Nat) : Int) (c : Int) = (hx (k + 1) a b c : Int) := i64_xor _ _ (by omega) (by omega)
      have t1 : ∀ W, Calls Try.prog 62 #[.int .i64 ((k : Int) + 1), .int .i64 ((k : Int) + 1)] W fun e w' => e = .returned (.int .i64 (tm (k + 1) (k + 1))) ∧ W = w' := fun W => iTimes (k + 1) (k + 1) W (by omega) (by omega)
      have t2 : ∀ W, Calls Try.prog 62 #[.int .i64 a, .int .i64 (tm (k + 1) (k + 1))] W fun e w' => e = .returned (.int .i64 (tm a (tm (k + 1) (k + 1)))) ∧ W = w' := fun W => iTimes a _ W ha l1
      have t3 : ∀ W, Calls Try.prog 62 #[.int .i64 b, .int .i64 ((k : Int) + 1)] W fun e w' => e = .returned (.int .i64 (tm b (k + 1))) ∧ W = w' := fun W => iTimes b (k + 1) W hb (by omega)
      have T1 := Lib.hid t1
      have T2 := Lib.hid t2
      have T3 := Lib.hid t3
      clear t1 t2 t3
      go_wp2_with fail
      refine (T1.out _).mono ?_
      rintro e w' ⟨rfl, rfl⟩
      go_wp2_with fail
      refine (T2.out _).mono ?_
      rintro e w' ⟨rfl, rfl⟩
      go_wp2_with fail
      refine (T3.out _).mono ?_
      rintro e w' ⟨rfl, rfl⟩
      go_wp2_with (at_builtin; refine wl_app _ rfl (.tmp 17) (.tmp 29) rfl w.heap.size A _ cap (nl (hexTo a b c k)) _ rfl HO.out rfl (by omega) hsz ?_)
      intro A2 cap2 w1 hown1 hb1
      have HO1 := Lib.hid hown1
      clear hown1
      go_wp2
      go_roundw
      case rel =>
        refine ⟨k + 1, A2, cap2, by omega, by go_num, by simp, ?_, HB.out.trans hb1⟩
        have := HO1.out
        rw [HS.out, nl_append, show k + 1 + 3 = k + 3 + 1 from by omega]
        simpa [nl] using this
      case measure => simp [intOf]; omega
    · obtain rfl : k = 3 := by omega
      go_wp2
      go_ret
      exact ⟨A, _, cap, rfl, HO.out, HB.out⟩

set_option maxHeartbeats 1000000 in
theorem shexOf (a b c : Nat) (w : World) (ha : a < 4) (hb : b < 4) (hc : c < 4) :
    Calls Try.prog 45 #[.int .i64 a, .int .i64 b, .int .i64 c] w (Makes (nl (hexL a b c)) w) := by
  go_enter Try.func45, Try.ntmps45
  go_wp2
  go_loopw [7, 8] (fun v i wr => ∃ k A cap, k ≤ 3 ∧ i = .int .i64 ((k + 1 : Nat) : Int) ∧ v = .slice A (k + 3) cap ∧ Own wr w.heap.size A (k + 3) cap (nl (hexTo a b c k)) ∧ Below w.heap.size w wr) (fun _ i _ => 4 - (intOf i).toNat)
  case atStart => exact ⟨0, _, _, Nat.zero_le _, rfl, rfl, Own.lit w [(a : Int), b, c] (by simp), (Below.refl _ _).alloc (Nat.le_refl _) _⟩
  case round =>
    obtain ⟨k, A, cap, hk, rfl, rfl, hown, hb'⟩ := hrel
    have HO := Lib.hid hown
    have HB := Lib.hid hb'
    have hsz := hb'.size
    clear hown hb'
    by_cases hlt : k < 3
    · have HS := Lib.hid (hexTo_succ a b c k)
      have l1 := tm_lt (k + 1) (k + 1)
      have l2 := tm_lt a (tm (k + 1) (k + 1))
      have l3 := tm_lt b (k + 1)
      have l4 : tm a (tm (k + 1) (k + 1)) ^^^ tm b (k + 1) < 4 := Nat.xor_lt_two_pow (n := 2) l2 l3
      have x1 : bits .xor .i64 (tm a (tm (k + 1) (k + 1)) : Int) (tm b (k + 1) : Int) = ((tm a (tm (k + 1) (k + 1)) ^^^ tm b (k + 1) : Nat) : Int) := i64_xor _ _ (by omega) (by omega)
      have x2 : bits .xor .i64 ((tm a (tm (k + 1) (k + 1)) ^^^ tm b (k + 1) : Nat) : Int) (c : Int) = (hx (k + 1) a b c : Int) := i64_xor _ _ (by omega) (by omega)
      have t1 : ∀ W, Calls Try.prog 60 #[.int .i64 ((k : Int) + 1), .int .i64 ((k : Int) + 1)] W fun e w' => e = .returned (.int .i64 (tm (k + 1) (k + 1))) ∧ W = w' := fun W => sTimes (k + 1) (k + 1) W (by omega) (by omega)
      have t2 : ∀ W, Calls Try.prog 60 #[.int .i64 a, .int .i64 (tm (k + 1) (k + 1))] W fun e w' => e = .returned (.int .i64 (tm a (tm (k + 1) (k + 1)))) ∧ W = w' := fun W => sTimes a _ W ha l1
      have t3 : ∀ W, Calls Try.prog 60 #[.int .i64 b, .int .i64 ((k : Int) + 1)] W fun e w' => e = .returned (.int .i64 (tm b (k + 1))) ∧ W = w' := fun W => sTimes b (k + 1) W hb (by omega)
      have T1 := Lib.hid t1
      have T2 := Lib.hid t2
      have T3 := Lib.hid t3
      clear t1 t2 t3
      go_wp2_with fail
      refine (T1.out _).mono ?_
      rintro e w' ⟨rfl, rfl⟩
      go_wp2_with fail
      refine (T2.out _).mono ?_
      rintro e w' ⟨rfl, rfl⟩
      go_wp2_with fail
      refine (T3.out _).mono ?_
      rintro e w' ⟨rfl, rfl⟩
      go_wp2_with (at_builtin; refine wl_app _ rfl (.tmp 17) (.tmp 29) rfl w.heap.size A _ cap (nl (hexTo a b c k)) _ rfl HO.out rfl (by omega) hsz ?_)
      intro A2 cap2 w1 hown1 hb1
      have HO1 := Lib.hid hown1
      clear hown1
      go_wp2
      go_roundw
      case rel =>
        refine ⟨k + 1, A2, cap2, by omega, by go_num, by simp, ?_, HB.out.trans hb1⟩
        have := HO1.out
        rw [HS.out, nl_append, show k + 1 + 3 = k + 3 + 1 from by omega]
        simpa [nl] using this
      case measure => simp [intOf]; omega
    · obtain rfl : k = 3 := by omega
      go_wp2
      go_ret
      exact ⟨A, _, cap, rfl, HO.out, HB.out⟩
end Go.Proofs.Ytmboaaopmjmdnaa
