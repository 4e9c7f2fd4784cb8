import Derived.Test.YtinfpggpfpmpbaaD2
namespace Go.Proofs.Ytinfpggpfpmpbaa
open Go.RowKit

theorem lns_at {b s k y : Nat} (hb : b < 16777216) (h : (lns b s)[k]? = some y) : y < 16777216 := line_lt hb ((mem_lns hb).1 (List.mem_of_getElem? h)).1
theorem thinL_all {w : Nat} {l : List Nat} {n : Nat} (h : thinL w (l.take n) = true) (hn : l.length ≤ n) : thinL w l = true := by rwa [List.take_of_length_le hn] at h

theorem sthin (B : Nat) (A : Option Addr) (n cap : Nat) (l : List Nat) (x : Nat) (w : World) (h : Sl w B A n cap (nl l)) (hl : ∀ k y : Nat, l[k]? = some y → y < 16777216) (hx : x < 16777216) (hn : n ≤ 1048576) :
    Calls Try.prog 64 #[.slice A n cap, .int .i64 x] w fun e w' => e = .returned (.bool (thinL x l)) ∧ w = w' := by
  have HS := Lib.hid h
  have HL := Lib.hid hl
  clear h hl
  go_enter Try.func64, Try.ntmps64
  go_wp2
  go_loop [5] (fun i => ∃ k : Nat, k ≤ n ∧ i = .int .i64 k ∧ thinL x (l.take k) = true) (fun i => n - (intOf i).toNat)
  case atStart => exact ⟨0, Nat.zero_le _, rfl, by simp [thinL]⟩
  case round =>
    obtain ⟨k, hk, rfl, ht⟩ := hrel
    have HT := Lib.hid ht
    clear ht
    by_cases hlt : k < n
    · obtain ⟨b, o, y, rfl, hb, hy, hc⟩ := HS.out.nat hlt
      have hyl := HL.out k y hy
      have hyx := Nat.lt_of_le_of_lt (Nat.and_le_left (n := y) (m := x)) hyl
      have ha := i64_and y x (by omega) (by omega)
      have hwl := wt_le (y &&& x)
      by_cases h2 : 2 < wt (y &&& x)
      · have e1 : decide ((2 : Int) < (wt (y &&& x) : Int)) = true := by simp; omega
        have HF := Lib.hid (thinL_no hy h2)
        clear hy h2
        go_wp2_with (first | (go_at_call 63; refine (sweight _ _ hyx).mono ?_; rintro e w' ⟨rfl, rfl⟩))
        go_ret
        rw [HF.out]
        exact ⟨rfl, rfl⟩
      · have e1 : decide ((2 : Int) < (wt (y &&& x) : Int)) = false := by simp; omega
        have HF := Lib.hid (show thinL x (l.take (k + 1)) = true from by rw [thinL_take hy, HT.out, Bool.true_and, decide_eq_true_eq]; omega)
        clear hy h2
        go_wp2_with (first | (go_at_call 63; refine (sweight _ _ hyx).mono ?_; rintro e w' ⟨rfl, rfl⟩))
        go_round
        case rel => exact ⟨k + 1, by omega, by go_num, HF.out⟩
        case measure => simp [intOf]; omega
    · obtain rfl : k = n := by omega
      have HF := Lib.hid (thinL_all HT.out (by have := HS.out.len; rw [nl_length] at this; omega))
      go_wp2
      go_ret
      rw [HF.out]
      exact ⟨rfl, rfl⟩

/-- Whether w has points alone, no three of them on a line. -/
def spreadZ (b x : Int) : Bool := baseZ b && (valid x && (decide (x.toNat &&& b.toNat = 0) && thinL x.toNat (lns b.toNat 0)))
theorem spread_no1 {b x : Int} (h : baseZ b = false) : spreadZ b x = false := by unfold spreadZ; rw [h, Bool.false_and]
theorem spread_no2 {b x : Int} (h : valid x = false) : spreadZ b x = false := by unfold spreadZ; rw [h, Bool.false_and, Bool.and_false]
theorem spread_no3 {b x : Nat} (h : x &&& b ≠ 0) : spreadZ b x = false := by
  unfold spreadZ
  rw [show decide ((x : Int).toNat &&& (b : Int).toNat = 0) = false from decide_eq_false h, Bool.false_and, Bool.and_false, Bool.and_false]
theorem spread_eq {b x : Nat} (hb : b < 16777216) (h3 : wt b = 3) (hx : x < 16777216) (h : x &&& b = 0) : spreadZ b x = thinL x (lns b 0) := by
  unfold spreadZ
  rw [baseZ_yes hb h3, valid_yes hx, show decide ((x : Int).toNat &&& (b : Int).toNat = 0) = true from decide_eq_true h, Int.toNat_natCast, Int.toNat_natCast, Bool.true_and, Bool.true_and, Bool.true_and]

set_option maxHeartbeats 1000000 in
theorem ispread (b x : Int) (w : World) :
    Calls Try.prog 66 #[.int .i64 b, .int .i64 x] w fun e w' => e = .returned (.bool (spreadZ b x)) ∧ Below w.heap.size w w' := by
  cases hbz : baseZ b with
  | false =>
    have HR := Lib.hid (spread_no1 (x := x) hbz)
    have HB := Lib.hid (ibase_is b false hbz)
    clear hbz
    go_enter Try.func66, Try.ntmps66
    go_wp2_with (first | (go_at_call 51; refine (HB.out _).mono ?_; rintro e w' ⟨rfl, rfl⟩))
    go_ret
    rw [HR.out]
    exact ⟨rfl, Below.refl _ _⟩
  | true =>
    have HB := Lib.hid (ibase_is b true hbz)
    obtain ⟨y, rfl, hy, h3⟩ := baseZ_nat hbz
    rcases word_cases x with ⟨n, rfl, hn⟩ | hx
    · have ha := i64_and n y (by omega) (by omega)
      by_cases h0 : n &&& y = 0
      · have e1 : (((n &&& y : Nat) : Int) != 0) = false := by simp [h0]
        have HR := Lib.hid (spread_eq hy h3 hn h0)
        have H3 := Lib.hid h3
        clear h0 hbz h3
        go_enter Try.func66, Try.ntmps66
        go_wp2_with (first | (go_at_call 51; refine (HB.out _).mono ?_; rintro e w' ⟨rfl, rfl⟩) | (go_at_call 71; refine (iWordValid_yes n _ hn).mono ?_; rintro e w' ⟨rfl, rfl⟩))
        refine (ilines y 0 w hy (by decide) (by simp)).mono ?_
        rintro e w1 ⟨A1, n1, c1, rfl, o1, b1⟩
        have hn1 : n1 = 21 := by have := o1.length; rw [nl_length, lines_21 hy H3.out] at this; omega
        subst hn1
        have HS := Lib.hid o1.sl
        have HB1 := Lib.hid b1
        clear o1 b1
        go_wp2
        go_loop [24] (fun i => ∃ k : Nat, k ≤ 21 ∧ i = .int .i64 k ∧ thinL n ((lns y 0).take k) = true) (fun i => 21 - (intOf i).toNat)
        case atStart => exact ⟨0, Nat.zero_le _, rfl, by simp [thinL]⟩
        case round =>
          obtain ⟨k, hk, rfl, ht⟩ := hrel
          have HT := Lib.hid ht
          clear ht
          by_cases hlt : k < 21
          · obtain ⟨b', o, z, rfl, hb', hz, hc⟩ := HS.out.nat hlt
            have hzl := lns_at hy hz
            have hzx := Nat.lt_of_le_of_lt (Nat.and_le_left (n := z) (m := n)) hzl
            have hzn := i64_and z n (by omega) (by omega)
            have hwl := wt_le (z &&& n)
            by_cases h2 : 2 < wt (z &&& n)
            · have e2 : decide ((2 : Int) < (wt (z &&& n) : Int)) = true := by simp; omega
              have HF := Lib.hid (thinL_no hz h2)
              clear hz h2
              go_wp2_with (first | (go_at_call 67; refine (iweight _ _ hzx).mono ?_; rintro e w' ⟨rfl, rfl⟩))
              go_ret
              rw [HR.out, HF.out]
              exact ⟨rfl, HB1.out⟩
            · have e2 : decide ((2 : Int) < (wt (z &&& n) : Int)) = false := by simp; omega
              have HF := Lib.hid (show thinL n ((lns y 0).take (k + 1)) = true from by rw [thinL_take hz, HT.out, Bool.true_and, decide_eq_true_eq]; omega)
              clear hz h2
              go_wp2_with (first | (go_at_call 67; refine (iweight _ _ hzx).mono ?_; rintro e w' ⟨rfl, rfl⟩))
              go_round
              case rel => exact ⟨k + 1, by omega, by go_num, HF.out⟩
              case measure => simp [intOf]; omega
          · obtain rfl : k = 21 := by omega
            have HF := Lib.hid (thinL_all HT.out (by have := HS.out.len; rw [nl_length] at this; omega))
            go_wp2
            go_ret
            rw [HR.out, HF.out]
            exact ⟨rfl, HB1.out⟩
      · have e1 : (((n &&& y : Nat) : Int) != 0) = true := by simp; omega
        have HR := Lib.hid (spread_no3 h0)
        clear h0 hbz h3
        go_enter Try.func66, Try.ntmps66
        go_wp2_with (first | (go_at_call 51; refine (HB.out _).mono ?_; rintro e w' ⟨rfl, rfl⟩) | (go_at_call 71; refine (iWordValid_yes n _ hn).mono ?_; rintro e w' ⟨rfl, rfl⟩))
        go_ret
        rw [HR.out]
        exact ⟨rfl, Below.refl _ _⟩
    · have HR := Lib.hid (spread_no2 (b := (y : Int)) (valid_no hx))
      clear hbz h3
      go_enter Try.func66, Try.ntmps66
      go_wp2_with (first | (go_at_call 51; refine (HB.out _).mono ?_; rintro e w' ⟨rfl, rfl⟩) | (go_at_call 71; refine (iWordValid_no x _ hx).mono ?_; rintro e w' ⟨rfl, rfl⟩))
      go_ret
      rw [HR.out]
      exact ⟨rfl, Below.refl _ _⟩
end Go.Proofs.Ytinfpggpfpmpbaa
