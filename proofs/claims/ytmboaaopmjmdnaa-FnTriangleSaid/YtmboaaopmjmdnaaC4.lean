import Derived.Test.YtmboaaopmjmdnaaC3
import Derived.Test.YtmboaaopmjmdnaaM5
namespace Go.Proofs.Ytmboaaopmjmdnaa
open Go.RowKit

theorem scores_row (x : Nat) : RowD (scores x) := by
  refine ⟨by simp [scores], fun d hd => ?_⟩
  unfold scores at hd
  obtain ⟨c, _, rfl⟩ := List.mem_map.1 hd
  exact scr_lt x c
theorem scores_hex (x : Nat) : decide (scores x = hexL ((scores x).getD 0 0) ((scores x).getD 1 0) ((scores x).getD 2 0)) = decide (scores x = hexL (scr (col x 0)) (scr (col x 1)) (scr (col x 2))) := rfl
theorem inCode_no (x c : Nat) (hc : c < 6) (h : wt (col x c) % 2 ≠ top x % 2) : inCode x = false := by
  rw [← Bool.not_eq_true, inCode_iff]
  exact fun hh => h (hh.1 c hc)
theorem inCode_par (x : Nat) (h : ∀ c, c < 6 → wt (col x c) % 2 = top x % 2) : inCode x = decide (scores x = hexL (scr (col x 0)) (scr (col x 1)) (scr (col x 2))) := by
  rw [Bool.eq_iff_iff, inCode_iff, decide_eq_true_eq]
  exact ⟨fun hh => hh.2, fun hh => ⟨h, hh⟩⟩
theorem top_le (x : Nat) (k : Nat) : sm k (fun c => bt x (4 * c)) ≤ k := by
  have := sm_le (n := k) (f := fun c => bt x (4 * c)) (g := fun _ => 1) (fun i _ => bt_le x _)
  rw [sm_const] at this; omega

set_option maxHeartbeats 1000000 in
theorem iCodeIn (x : Nat) (w : World) (hx : x < 16777216) :
    Calls Try.prog 22 #[.int .i64 x] w fun e w' => e = .returned (.bool (inCode x)) ∧ Below w.heap.size w w' := by
  have HX := Lib.hid hx
  go_enter Try.func22, Try.ntmps22
  go_wp2_with (first | (go_at_call 35; refine (iWordValid_yes x _ hx).mono ?_; rintro e w' ⟨rfl, rfl⟩))
  go_loop [3, 9] (fun u i => ∃ k : Nat, k ≤ 6 ∧ i = .int .i64 k ∧ u = .int .i64 (sm k (fun c => bt x (4 * c)) : Nat)) (fun _ i => 6 - (intOf i).toNat)
  case atStart => exact ⟨0, Nat.zero_le _, rfl, rfl⟩
  case round =>
    obtain ⟨k, hk, rfl, rfl⟩ := hrel
    have hle := top_le x k
    have hb := bt_le x (4 * k)
    have hs : sm (k + 1) (fun c => bt x (4 * c)) = sm k (fun c => bt x (4 * c)) + bt x (4 * k) := rfl
    have HS := Lib.hid hs
    clear hs
    by_cases hlt : k < 6
    · have hbit : bits .and .i64 ((x : Int) / 2 ^ (4 * k)) 1 = (bt x (4 * k) : Int) := i64_bit x (4 * k) (by omega)
      go_wp2
      go_round
      case rel => exact ⟨k + 1, by omega, by go_num, int_eq (by rw [HS.out]; omega)⟩
      case measure => simp [intOf]; omega
    · obtain rfl : k = 6 := by omega
      have ht : sm 6 (fun c => bt x (4 * c)) = top x := rfl
      rw [ht] at hle ⊢
      clear HS ht hb hlt hk
      have HT := Lib.hid (show top x = top x from rfl)
      clear HT
      go_wp2
      go_loop [20] (fun i => ∃ k : Nat, k ≤ 6 ∧ i = .int .i64 k ∧ ∀ c, c < k → wt (col x c) % 2 = top x % 2) (fun i => 6 - (intOf i).toNat)
      case atStart => exact ⟨0, Nat.zero_le _, rfl, by omega⟩
      case round =>
        obtain ⟨k, hk, rfl, hp⟩ := hrel
        have HP := Lib.hid hp
        clear hp
        by_cases hlt : k < 6
        · have hl := col_lt x k
          by_cases he : wt (col x k) % 2 = top x % 2
          · have e1 : ((wt (col x k) : Int) % 2 != (top x : Int) % 2) = false := by simp; omega
            have HE := Lib.hid he
            clear he
            go_wp2_with (first | (go_at_call 36; refine (icol x k _ hx hlt).mono ?_; rintro e w' ⟨rfl, rfl⟩) | (go_at_call 23; refine (iweight _ _ (by omega)).mono ?_; rintro e w' ⟨rfl, rfl⟩))
            go_round
            case rel =>
              refine ⟨k + 1, by omega, by go_num, fun c hc => ?_⟩
              by_cases h : c = k
              · subst h; exact HE.out
              · exact HP.out c (by omega)
            case measure => simp [intOf]; omega
          · have e1 : ((wt (col x k) : Int) % 2 != (top x : Int) % 2) = true := by simp; omega
            have HF := Lib.hid (inCode_no x k hlt he)
            clear he
            go_wp2_with (first | (go_at_call 36; refine (icol x k _ hx hlt).mono ?_; rintro e w' ⟨rfl, rfl⟩) | (go_at_call 23; refine (iweight _ _ (by omega)).mono ?_; rintro e w' ⟨rfl, rfl⟩))
            go_ret
            rw [HF.out]
            exact ⟨rfl, Below.refl _ _⟩
        · obtain rfl : k = 6 := by omega
          have HF := Lib.hid (inCode_par x HP.out)
          clear HP
          go_wp2_with fail
          refine (iscores x _ hx).mono ?_
          rintro e w1 ⟨A1, n1, c1, rfl, o1, b1⟩
          have hn6 : n1 = 6 := o1.length.symm.trans (nl_length _)
          subst hn6
          go_wp2_with fail
          refine (iHexIn w1.heap.size A1 c1 _ w1 o1.sl (scores_row x) (Nat.le_refl _)).mono ?_
          rintro e w2 ⟨rfl, b2⟩
          have b3 := below_to b1 b2 (Nat.le_refl _)
          have HB := Lib.hid b3
          clear b1 b2 b3 o1
          go_wp2
          go_ret
          rw [HF.out]
          exact ⟨rfl, HB.out⟩

theorem stop (x : Nat) (w : World) (hx : x < 16777216) :
    Calls Try.prog 56 #[.int .i64 x] w fun e w' => e = .returned (.int .i64 (top x % 2 : Nat)) ∧ w = w' := by
  go_enter Try.func56, Try.ntmps56
  go_wp2
  go_loop [3, 4] (fun u i => ∃ k : Nat, k ≤ 6 ∧ i = .int .i64 k ∧ u = .int .i64 (topX x k : Nat)) (fun _ i => 6 - (intOf i).toNat)
  case atStart => exact ⟨0, Nat.zero_le _, rfl, rfl⟩
  case round =>
    obtain ⟨k, hk, rfl, rfl⟩ := hrel
    have hs : topX x (k + 1) = topX x k ^^^ bt x (4 * k) := rfl
    have hb := bt_le x (4 * k)
    have hle : topX x k < 2 := by rw [topX_eq]; omega
    have HS := Lib.hid hs
    clear hs
    by_cases hlt : k < 6
    · go_wp2_with (first | (go_at_call 29; refine (l1Bit_any x (4 * k) w (by omega) (by omega)).mono ?_; rintro e w' ⟨rfl, rfl⟩))
      go_round
      case rel => exact ⟨k + 1, by omega, by go_num, int_eq (by rw [HS.out]; exact i64_xor _ _ (by omega) (by omega))⟩
      case measure => simp [intOf]; omega
    · obtain rfl : k = 6 := by omega
      have HT := Lib.hid (show topX x 6 = top x % 2 from topX_eq x 6)
      go_wp2
      go_ret
      rw [HT.out]
      exact ⟨rfl, rfl⟩

set_option maxHeartbeats 1000000 in
theorem sl3In (x : Nat) (w : World) (hx : x < 16777216) :
    Calls Try.prog 44 #[.int .i64 x] w fun e w' => e = .returned (.bool (inCode x)) ∧ Below w.heap.size w w' := by
  have ST := Lib.hid (stop x w hx)
  obtain ⟨T, hT⟩ : ∃ T, T = top x % 2 := ⟨_, rfl⟩
  rw [← hT] at ST
  have hT2 : T < 2 := by omega
  have HT := Lib.hid hT
  clear hT
  go_enter Try.func44, Try.ntmps44
  go_wp2_with fail
  refine ST.out.mono ?_
  rintro e w' ⟨rfl, rfl⟩
  go_wp2
  go_loop [4] (fun i => ∃ k : Nat, k ≤ 6 ∧ i = .int .i64 k ∧ ∀ c, c < k → wt (col x c) % 2 = T) (fun i => 6 - (intOf i).toNat)
  case atStart => exact ⟨0, Nat.zero_le _, rfl, by omega⟩
  case round =>
    obtain ⟨k, hk, rfl, hp⟩ := hrel
    have HP := Lib.hid hp
    clear hp
    by_cases hlt : k < 6
    · have hl := col_lt x k
      by_cases he : wt (col x k) % 2 = T
      · have e1 : ((wt (col x k) : Int) % 2 != (T : Int)) = false := by simp; omega
        have HE := Lib.hid he
        clear he
        go_wp2_with (first | (go_at_call 57; refine (scol x k _ hx hlt).mono ?_; rintro e w' ⟨rfl, rfl⟩) | (go_at_call 28; refine (sweight _ _ (by omega)).mono ?_; rintro e w' ⟨rfl, rfl⟩))
        go_round
        case rel =>
          refine ⟨k + 1, by omega, by go_num, fun c hc => ?_⟩
          by_cases h : c = k
          · subst h; exact HE.out
          · exact HP.out c (by omega)
        case measure => simp [intOf]; omega
      · have e1 : ((wt (col x k) : Int) % 2 != (T : Int)) = true := by simp; omega
        have HF := Lib.hid (inCode_no x k hlt (by rw [← HT.out]; exact he))
        clear he
        go_wp2_with (first | (go_at_call 57; refine (scol x k _ hx hlt).mono ?_; rintro e w' ⟨rfl, rfl⟩) | (go_at_call 28; refine (sweight _ _ (by omega)).mono ?_; rintro e w' ⟨rfl, rfl⟩))
        go_ret
        rw [HF.out]
        exact ⟨rfl, Below.refl _ _⟩
    · obtain rfl : k = 6 := by omega
      have HF := Lib.hid (inCode_par x (by rw [← HT.out]; exact HP.out))
      clear HP
      go_wp2_with fail
      refine (sscores x _ hx).mono ?_
      rintro e w1 ⟨A1, n1, c1, rfl, o1, b1⟩
      have hn6 : n1 = 6 := o1.length.symm.trans (nl_length _)
      subst hn6
      go_wp2_with fail
      refine (sHexIn w1.heap.size A1 c1 _ w1 o1.sl (scores_row x) (Nat.le_refl _)).mono ?_
      rintro e w2 ⟨rfl, b2⟩
      have b3 := below_to b1 b2 (Nat.le_refl _)
      have HB := Lib.hid b3
      clear b1 b2 b3 o1
      go_wp2
      go_ret
      rw [HF.out]
      exact ⟨rfl, HB.out⟩

theorem int_beq (a b : Nat) : ((a : Int) == (b : Int)) = decide (a = b) := by
  rw [Bool.eq_iff_iff, beq_iff_eq, decide_eq_true_eq]; omega
/-- In the code: of any int. -/
def codZ (x : Int) : Bool := decide (0 ≤ x ∧ x < 16777216) && inCode x.toNat
theorem codZ_nat (x : Nat) (hx : x < 16777216) : codZ x = inCode x := by
  have h : ((0 : Int) ≤ (x : Int) ∧ (x : Int) < 16777216) := by omega
  simp [codZ, h]
theorem codZ_no (x : Int) (hx : x < 0 ∨ 16777215 < x) : codZ x = false := by
  have h : ¬ ((0 : Int) ≤ x ∧ x < 16777216) := by omega
  simp [codZ, h]
def octZ (x : Int) : Bool := decide (0 ≤ x ∧ x < 16777216) && isOct x.toNat
theorem octZ_nat (x : Nat) (hx : x < 16777216) : octZ x = isOct x := by
  have h : ((0 : Int) ≤ (x : Int) ∧ (x : Int) < 16777216) := by omega
  simp [octZ, h]
theorem octZ_no (x : Int) (hx : x < 0 ∨ 16777215 < x) : octZ x = false := by
  have h : ¬ ((0 : Int) ≤ x ∧ x < 16777216) := by omega
  simp [octZ, h]
theorem word_cases (x : Int) : (∃ n : Nat, x = n ∧ n < 16777216) ∨ (x < 0 ∨ 16777215 < x) := by
  by_cases h : 0 ≤ x ∧ x < 16777216
  · exact .inl ⟨x.toNat, by omega, by omega⟩
  · exact .inr (by omega)

theorem iCodeInZ (x : Int) (w : World) :
    Calls Try.prog 22 #[.int .i64 x] w fun e w' => e = .returned (.bool (codZ x)) ∧ Below w.heap.size w w' := by
  rcases word_cases x with ⟨n, rfl, hn⟩ | hx
  · rw [codZ_nat n hn]; exact iCodeIn n w hn
  · rw [codZ_no x hx]
    go_enter Try.func22, Try.ntmps22
    go_wp2_with (first | (go_at_call 35; refine (iWordValid_no x _ hx).mono ?_; rintro e w' ⟨rfl, rfl⟩))
    go_ret
    exact ⟨rfl, Below.refl _ _⟩
theorem sCodeInZ (x : Int) (w : World) :
    Calls Try.prog 27 #[.int .i64 x] w fun e w' => e = .returned (.bool (codZ x)) ∧ Below w.heap.size w w' := by
  rcases word_cases x with ⟨n, rfl, hn⟩ | hx
  · rw [codZ_nat n hn]
    go_enter Try.func27, Try.ntmps27
    go_wp2_with (first | (go_at_call 43; refine (sWordValid_yes n _ hn).mono ?_; rintro e w' ⟨rfl, rfl⟩) | (go_at_call 44; refine (sl3In n _ hn).mono ?_; rintro e w1 ⟨rfl, b1⟩))
    go_ret
    exact ⟨rfl, b1⟩
  · rw [codZ_no x hx]
    go_enter Try.func27, Try.ntmps27
    go_wp2_with (first | (go_at_call 43; refine (sWordValid_no x _ hx).mono ?_; rintro e w' ⟨rfl, rfl⟩))
    go_ret
    exact ⟨rfl, Below.refl _ _⟩

theorem isOct_split (x : Nat) : isOct x = (inCode x && decide (wt x = 8)) := rfl
theorem isOct_code (x : Nat) (h : inCode x = false) : isOct x = false := by unfold isOct; rw [h]; rfl

theorem iOctadInZ (x : Int) (w : World) :
    Calls Try.prog 10 #[.int .i64 x] w fun e w' => e = .returned (.bool (octZ x)) ∧ Below w.heap.size w w' := by
  have HC := Lib.hid (iCodeInZ x w)
  rcases word_cases x with ⟨n, rfl, hn⟩ | hx
  · rw [octZ_nat n hn]
    rw [codZ_nat n hn] at HC
    cases hc : inCode n with
    | true =>
      rw [hc] at HC
      have HF := Lib.hid (show isOct n = decide (wt n = 8) from by rw [isOct_split, hc]; rfl)
      clear hc
      go_enter Try.func10, Try.ntmps10
      go_wp2_with (first | (go_at_call 22; refine HC.out.mono ?_; rintro e w1 ⟨rfl, b1⟩) | (go_at_call 23; refine (iweight n _ hn).mono ?_; rintro e w' ⟨rfl, rfl⟩))
      go_ret
      refine ⟨ret_eq (bool_eq ?_), b1⟩
      rw [HF.out]
      exact int_beq (wt n) 8
    | false =>
      rw [hc] at HC
      have HF := Lib.hid (isOct_code n hc)
      clear hc
      go_enter Try.func10, Try.ntmps10
      go_wp2_with (first | (go_at_call 22; refine HC.out.mono ?_; rintro e w1 ⟨rfl, b1⟩))
      go_ret
      rw [HF.out]
      exact ⟨rfl, b1⟩
  · rw [octZ_no x hx]
    rw [codZ_no x hx] at HC
    go_enter Try.func10, Try.ntmps10
    go_wp2_with (first | (go_at_call 22; refine HC.out.mono ?_; rintro e w1 ⟨rfl, b1⟩))
    go_ret
    exact ⟨rfl, b1⟩

theorem sOctadInZ (x : Int) (w : World) :
    Calls Try.prog 14 #[.int .i64 x] w fun e w' => e = .returned (.bool (octZ x)) ∧ Below w.heap.size w w' := by
  have HC := Lib.hid (sCodeInZ x w)
  rcases word_cases x with ⟨n, rfl, hn⟩ | hx
  · rw [octZ_nat n hn]
    rw [codZ_nat n hn] at HC
    cases hc : inCode n with
    | true =>
      rw [hc] at HC
      have HF := Lib.hid (show isOct n = decide (wt n = 8) from by rw [isOct_split, hc]; rfl)
      clear hc
      go_enter Try.func14, Try.ntmps14
      go_wp2_with (first | (go_at_call 27; refine HC.out.mono ?_; rintro e w1 ⟨rfl, b1⟩) | (go_at_call 28; refine (sweight n _ hn).mono ?_; rintro e w' ⟨rfl, rfl⟩))
      go_ret
      refine ⟨ret_eq (bool_eq ?_), b1⟩
      rw [HF.out]
      exact int_beq (wt n) 8
    | false =>
      rw [hc] at HC
      have HF := Lib.hid (isOct_code n hc)
      clear hc
      go_enter Try.func14, Try.ntmps14
      go_wp2_with (first | (go_at_call 27; refine HC.out.mono ?_; rintro e w1 ⟨rfl, b1⟩))
      go_ret
      rw [HF.out]
      exact ⟨rfl, b1⟩
  · rw [octZ_no x hx]
    rw [codZ_no x hx] at HC
    go_enter Try.func14, Try.ntmps14
    go_wp2_with (first | (go_at_call 27; refine HC.out.mono ?_; rintro e w1 ⟨rfl, b1⟩))
    go_ret
    exact ⟨rfl, b1⟩
end Go.Proofs.Ytmboaaopmjmdnaa
