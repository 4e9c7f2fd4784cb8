import Derived.Test.YtdomilpnhkkkiaaA6
namespace Go.Proofs.Ytdomilpnhkkkiaa
open Go.RowKit

theorem tm_eq (a b : Nat) (ha : a ≠ 0) (hb : b ≠ 0) : (tm a b : Int) = 1 + ((a : Int) + b - 2) % 3 := by
  unfold tm; rw [if_neg (by omega)]; omega

theorem iTimes (a b : Nat) (w : World) (ha : a < 4) (hb : b < 4) : Calls Try.prog 52 #[.int .i64 a, .int .i64 b] w fun e w' => e = .returned (.int .i64 (tm a b)) ∧ w = w' := by
  by_cases h1 : a = 0
  · subst h1
    go_enter Try.func52, Try.ntmps52
    go_wp2
    go_ret
    exact ⟨by simp [tm], rfl⟩
  · have e1 : ((a : Int) == 0) = false := by simp; omega
    by_cases h2 : b = 0
    · subst h2
      clear h1
      go_enter Try.func52, Try.ntmps52
      go_wp2
      go_ret
      exact ⟨by simp [tm], rfl⟩
    · have e2 : ((b : Int) == 0) = false := by simp; omega
      have HT := Lib.hid (tm_eq a b h1 h2)
      have h3 : 1 ≤ a := by omega
      have h4 : 1 ≤ b := by omega
      clear h1 h2
      go_enter Try.func52, Try.ntmps52
      go_wp2
      go_ret
      exact ⟨ret_eq (int_eq (by rw [HT.out])), rfl⟩

theorem sTimes (a b : Nat) (w : World) (ha : a < 4) (hb : b < 4) : Calls Try.prog 48 #[.int .i64 a, .int .i64 b] w fun e w' => e = .returned (.int .i64 (tm a b)) ∧ w = w' := by
  by_cases h1 : a = 0
  · subst h1
    go_enter Try.func48, Try.ntmps48
    go_wp2
    go_ret
    exact ⟨by simp [tm], rfl⟩
  · have e1 : ((a : Int) == 0) = false := by simp; omega
    by_cases h2 : b = 0
    · subst h2
      clear h1
      go_enter Try.func48, Try.ntmps48
      go_wp2
      go_ret
      exact ⟨by simp [tm], rfl⟩
    · have e2 : ((b : Int) == 0) = false := by simp; omega
      have HT := Lib.hid (tm_eq a b h1 h2)
      have h3 : 1 ≤ a := by omega
      have h4 : 1 ≤ b := by omega
      clear h1 h2
      go_enter Try.func48, Try.ntmps48
      go_wp2
      go_ret
      exact ⟨ret_eq (int_eq (by rw [HT.out])), rfl⟩

theorem sTimesI (a b : Int) (w : World) (h1 : 0 ≤ a) (h2 : a < 4) (h3 : 0 ≤ b) (h4 : b < 4) : Calls Try.prog 48 #[.int .i64 a, .int .i64 b] w fun e w' => e = .returned (.int .i64 (tm a.toNat b.toNat)) ∧ w = w' := by
  obtain ⟨x, rfl⟩ := Int.eq_ofNat_of_zero_le h1
  obtain ⟨y, rfl⟩ := Int.eq_ofNat_of_zero_le h3
  exact sTimes x y w (by omega) (by omega)
theorem scale_clo (Bn r m : Nat) (c : Int) (w : World) (hr : r < 4) (hm : m < 4) (hc : w.cell? ⟨Bn, 0, none⟩ = some (.int .i64 m)) :
    Calls Try.prog 51 #[.int .i64 c, .int .i64 r, .pointer (some ⟨Bn, 0, none⟩)] w fun e w' => e = .returned (.int .i64 (tm r m)) ∧ w = w' := by
  go_enter Try.func51, Try.ntmps51
  go_wp2_with fail
  refine (iTimes r m w hr hm).mono ?_
  rintro e w' ⟨rfl, rfl⟩
  go_wp2
  go_ret
  exact ⟨rfl, rfl⟩

set_option maxHeartbeats 400000 in
theorem permOf_scale (Bn m : Nat) (w : World) (hm : m < 4) (hB : Bn < w.heap.size) (hc : w.cell? ⟨Bn, 0, none⟩ = some (.int .i64 m)) :
    Calls Try.prog 50 #[.func (.func 51) #[] #[.pointer (some ⟨Bn, 0, none⟩)]] w (Makes (nl (sclTo m 24)) w) := by
  have HC := Lib.hid hc
  clear hc
  go_enter Try.func50, Try.ntmps50
  go_wp2
  go_loopw [3, 7] (fun v i wr => ∃ k A cap, k ≤ 6 ∧ i = .int .i64 (k : Nat) ∧ v = .slice A (4 * k) cap ∧ Own wr w.heap.size A (4 * k) cap (nl (sclTo m (4 * k))) ∧ Below w.heap.size w wr) (fun _ i _ => 6 - (intOf i).toNat)
  case atStart => exact ⟨0, _, _, Nat.zero_le _, rfl, rfl, Own.lit w [] (by decide), (Below.refl _ _).alloc (Nat.le_refl _) _⟩
  case round =>
    obtain ⟨k, A, cap, hk, rfl, rfl, hown, hb⟩ := hrel
    have HO := Lib.hid hown
    have HB := Lib.hid hb
    clear hown hb
    by_cases hlt : k < 6
    · have e1 : decide ((k : Int) < 6) = true := by simp; omega
      go_wp2
      go_loopw [3, 10] (fun v i wr => ∃ j A cap, j ≤ 4 ∧ i = .int .i64 (j : Nat) ∧ v = .slice A (4 * k + j) cap ∧ Own wr w.heap.size A (4 * k + j) cap (nl (sclTo m (4 * k + j))) ∧ Below w.heap.size w wr) (fun _ i _ => 4 - (intOf i).toNat)
      case atStart => exact ⟨0, _, _, Nat.zero_le _, rfl, rfl, HO.out, HB.out⟩
      case round =>
        obtain ⟨j, A', cap', hj, rfl, rfl, hown, hb⟩ := hrel
        have hcell := (hb.cell (p := ⟨Bn, 0, none⟩) hB).trans HC.out
        have hsz := hb.size
        have HO' := Lib.hid hown
        have HB' := Lib.hid hb
        clear hown hb HO HB
        by_cases hlt' : j < 4
        · have hs := sclTo_succ m (4 * k + j)
          rw [show (4 * k + j) / 4 * 4 = 4 * k from by omega, show (4 * k + j) % 4 = j from by omega] at hs
          have HS := Lib.hid hs
          have htl := tm_lt j m
          clear hs
          go_wp2_with (first | (go_at_call 51; refine (scale_clo Bn j m _ _ hlt' hm hcell).mono ?_; rintro e w' ⟨rfl, rfl⟩) | (at_builtin; refine wl_app _ rfl (.tmp 13) (.tmp 21) rfl w.heap.size A' _ cap' (nl (sclTo m (4 * k + j))) _ rfl HO'.out rfl (by omega) hsz ?_))
          intro A2 cap2 w1 hown1 hb1
          have HO1 := Lib.hid hown1
          clear hown1
          go_wp2
          go_roundw
          case rel =>
            refine ⟨j + 1, A2, cap2, by omega, by go_num, by simp; omega, ?_, HB'.out.trans hb1⟩
            have := HO1.out
            rw [show 4 * k + (j + 1) = 4 * k + j + 1 from by omega, HS.out, nl_append]
            simpa [nl] using this
          case measure => simp [intOf]; omega
        · obtain rfl : j = 4 := by omega
          go_wp2
          go_roundw
          case rel => exact ⟨k + 1, A', cap', by omega, by go_num, by simp; omega, HO'.out, HB'.out⟩
          case measure => simp [intOf]; omega
    · obtain rfl : k = 6 := by omega
      go_wp2
      go_ret
      exact ⟨A, _, cap, rfl, HO.out, HB.out⟩

set_option maxHeartbeats 400000 in
theorem iPermScale_any (n : Int) (w : World) : Calls Try.prog 20 #[.int .i64 n] w (MakesB (sclRes n) (sclOk n) w) := by
  have b0 : Below w.heap.size w (w.alloc (.cells #[.int .i64 n] 3)) := (Below.refl _ _).alloc (Nat.le_refl _) _
  have HB := Lib.hid b0
  clear b0
  by_cases h : 1 ≤ n ∧ n ≤ 3
  · obtain ⟨h1, h2⟩ := h
    obtain ⟨m, rfl⟩ := Int.eq_ofNat_of_zero_le (show 0 ≤ n from by omega)
    have HR := Lib.hid (sclRes_yes (m := m) (by omega) (by omega))
    go_enter Try.func20, Try.ntmps20
    go_wp2_with (first | (go_at_call 50; refine (permOf_scale w.heap.size m _ (by omega) (by simp) (by rw [World.cell?_alloc_at _ _ _ _ rfl]; rfl)).mono ?_; rintro e w1 ⟨A, k, c, rfl, o, b⟩) | go_in)
    go_ret2
    rw [HR.out.1, HR.out.2]
    exact ⟨_, _, _, rfl, Own.base_le (by assumption) (by simp), below_to HB.out (by assumption) (Nat.le_refl _)⟩
  · have HR := Lib.hid (sclRes_no (n := n) (by omega))
    by_cases h1 : n < 1
    · clear h
      go_enter Try.func20, Try.ntmps20
      go_wp2
      go_ret2
      rw [HR.out.1, HR.out.2]
      refine ⟨_, _, _, rfl, ?_, HB.out.trans ((Below.refl _ _).alloc (by simp) _)⟩
      exact Own.empty _ _ _ (by simp) (by omega)
    · have h2 : 3 < n := by omega
      have e1 : decide (n ≤ 3) = false := by simp; omega
      clear h
      go_enter Try.func20, Try.ntmps20
      go_wp2
      go_ret2
      rw [HR.out.1, HR.out.2]
      refine ⟨_, _, _, rfl, ?_, HB.out.trans ((Below.refl _ _).alloc (by simp) _)⟩
      exact Own.empty _ _ _ (by simp) (by omega)

set_option maxHeartbeats 400000 in
theorem sPermScale_any (n : Int) (w : World) : Calls Try.prog 19 #[.int .i64 n] w (MakesB (sclRes n) (sclOk n) w) := by
  have b0 : Below w.heap.size w (w.alloc (.cells #[] 3)) := (Below.refl _ _).alloc (Nat.le_refl _) _
  have HB := Lib.hid b0
  clear b0
  by_cases h : 1 ≤ n ∧ n ≤ 3
  · obtain ⟨h1, h2⟩ := h
    obtain ⟨m, rfl⟩ := Int.eq_ofNat_of_zero_le (show 0 ≤ n from by omega)
    have HR := Lib.hid (sclRes_yes (m := m) (by omega) (by omega))
    go_enter Try.func19, Try.ntmps19
    go_wp2_with fail
    refine (l6In_yes _ _ _ _ h1 h2).mono ?_
    rintro e w' ⟨rfl, rfl⟩
    go_wp2
    go_loopw [4, 5] (fun v i wr => ∃ k A cap, k ≤ 24 ∧ i = .int .i64 (k : Nat) ∧ v = .slice A k cap ∧ Own wr w.heap.size A k cap (nl (sclTo m k)) ∧ Below w.heap.size w wr) (fun _ i _ => 24 - (intOf i).toNat)
    case atStart => exact ⟨0, _, _, Nat.zero_le _, rfl, rfl, Own.lit w [] (by decide), HB.out⟩
    case round =>
      obtain ⟨k, A, cap, hk, rfl, rfl, hown, hb⟩ := hrel
      have HO := Lib.hid hown
      have HBr := Lib.hid hb
      have hsz := hb.size
      clear hown hb
      by_cases hlt : k < 24
      · have HS := Lib.hid (sclTo_succ m k)
        have htl := tm_lt (k % 4) m
        have hm4 : k % 4 < 4 := by omega
        go_wp2_with (first | (go_at_call 48; refine (sTimesI _ _ _ (by omega) (by omega) (by omega) (by omega)).mono ?_; rw [show ((k : Int) % 4).toNat = k % 4 from by omega, Int.toNat_natCast]; rintro e w' ⟨rfl, rfl⟩) | (at_builtin; refine wl_app _ rfl (.tmp 15) (.tmp 24) rfl w.heap.size A _ cap (nl (sclTo m k)) _ rfl HO.out rfl (by omega) hsz ?_))
        intro A2 cap2 w1 hown1 hb1
        have HO1 := Lib.hid hown1
        clear hown1
        go_wp2
        go_roundw
        case rel =>
          refine ⟨k + 1, A2, cap2, by omega, by go_num, by simp, ?_, HBr.out.trans hb1⟩
          have := HO1.out
          rw [HS.out, nl_append]
          simpa [nl] using this
        case measure => simp [intOf]; omega
      · obtain rfl : k = 24 := by omega
        go_wp2
        go_ret2
        rw [HR.out.1, HR.out.2]
        exact ⟨A, _, cap, rfl, HO.out, HBr.out⟩
  · have HR := Lib.hid (sclRes_no (n := n) (by omega))
    by_cases h1 : n < 1
    · clear h
      go_enter Try.func19, Try.ntmps19
      go_wp2
      go_ret2
      rw [HR.out.1, HR.out.2]
      exact ⟨_, _, _, rfl, Own.lit _ [] (by decide), HB.out⟩
    · have h2 : 3 < n := by omega
      have e1 : decide (n ≤ 3) = false := by simp; omega
      clear h
      go_enter Try.func19, Try.ntmps19
      go_wp2
      go_ret2
      rw [HR.out.1, HR.out.2]
      exact ⟨_, _, _, rfl, Own.lit _ [] (by decide), HB.out⟩
end Go.Proofs.Ytdomilpnhkkkiaa
