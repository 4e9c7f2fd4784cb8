import Derived.Test.YtbpgaphcpgfafaaD2
namespace Go.Proofs.Ytbpgaphcpgfafaa
open Go.RowKit

/-- Whether an int is a tetrad. -/
def tetZ (x : Int) : Bool := valid x && decide (wt x.toNat = 4)
theorem tetZ_yes {n : Nat} (hn : n < 16777216) (h : wt n = 4) : tetZ n = true := by unfold tetZ; rw [valid_yes hn]; simp [h]
theorem tetZ_no {x : Int} (h : valid x = false ∨ wt x.toNat ≠ 4) : tetZ x = false := by
  unfold tetZ; rcases h with h | h <;> simp [h]
theorem tetZ_nat {x : Int} (h : tetZ x = true) : ∃ n : Nat, x = n ∧ n < 16777216 ∧ wt n = 4 := by
  rcases word_cases x with ⟨n, rfl, hn⟩ | hx
  · refine ⟨n, rfl, hn, ?_⟩
    unfold tetZ at h
    rw [Bool.and_eq_true, decide_eq_true_eq] at h
    exact h.2
  · rw [tetZ_no (.inl (valid_no hx))] at h; cases h

theorem itetradOk (x : Int) (w : World) :
    Calls Try.prog 54 #[.int .i64 x] w fun e w' => e = .returned (.bool (tetZ x)) ∧ w = w' := by
  rcases word_cases x with ⟨n, rfl, hn⟩ | hx
  · have HB := Lib.hid (show tetZ (n : Int) = ((wt n : Int) == 4) from by
      unfold tetZ; rw [valid_yes hn, Bool.true_and, show ((4 : Int)) = ((4 : Nat) : Int) from rfl, int_beq]; rfl)
    go_enter Try.func54, Try.ntmps54
    go_wp2_with (first | (go_at_call 62; refine (iWordValid_yes n _ hn).mono ?_; rintro e w' ⟨rfl, rfl⟩) | (go_at_call 49; refine (iweight n _ hn).mono ?_; rintro e w' ⟨rfl, rfl⟩))
    go_ret
    rw [HB.out]
    exact ⟨rfl, rfl⟩
  · have HB := Lib.hid (tetZ_no (.inl (valid_no hx)))
    go_enter Try.func54, Try.ntmps54
    go_wp2_with (first | (go_at_call 62; refine (iWordValid_no x _ hx).mono ?_; rintro e w' ⟨rfl, rfl⟩))
    go_ret
    rw [HB.out]
    exact ⟨rfl, rfl⟩
theorem itet_is (x : Int) (v : Bool) (h : tetZ x = v) (w : World) :
    Calls Try.prog 54 #[.int .i64 x] w fun e w' => e = .returned (.bool v) ∧ w = w' := by subst h; exact itetradOk x w

set_option maxHeartbeats 1000000 in
theorem isextet (t : Nat) (w : World) (ht : t < 16777216) (h4 : wt t = 4) :
    Calls Try.prog 56 #[.int .i64 t] w (Makes (nl (sext t)) w) := by
  have HOR := Lib.hid (ioctadsWith t)
  have HE := Lib.hid (sext_srt ht)
  have HL1 : ∀ k x, (octs (hasf t 0))[k]? = some x → x < 16777216 ∧ Sub t x := fun k x h => by
    obtain ⟨h1, h2⟩ := oct_has (List.mem_of_getElem? h)
    exact ⟨oct_lt h1, h2⟩
  have hll := sext_count ht h4
  have HL := Lib.hid HL1
  clear HL1
  generalize octs (hasf t 0) = L at HOR HE hll HL
  go_enter Try.func56, Try.ntmps56
  go_wp2_with fail
  refine (HOR.out _ ht).mono ?_
  rintro e w1 ⟨A1, n1, c1, rfl, o1, b1⟩
  obtain rfl : n1 = 5 := by have := o1.length; rw [nl_length] at this; omega
  have HN := Lib.hid hll
  have R0 := Lib.hid (Run.start (Own.lit w [(t : Int)] (by simp)) ((Below.refl _ _).alloc (Nat.le_refl _) _) (by simp) o1 b1)
  have hs1 : w.heap.size ≤ w1.heap.size := by have := b1.size; simp at this; omega
  clear o1 b1 hll
  go_wp2
  go_loopw [3, 11] (fun v i wr => ∃ k A cap, k ≤ 5 ∧ i = .int .i64 (k : Nat) ∧ v = .slice A (k + 1) cap ∧ w.heap.size ≤ wr.heap.size ∧ Run w.heap.size w wr A (k + 1) cap (nl (t :: adTo t L k)) A1 5 c1 (nl L)) (fun _ i _ => 5 - (intOf i).toNat)
  case atStart => exact ⟨0, _, _, Nat.zero_le _, rfl, rfl, hs1, R0.out⟩
  case round =>
    obtain ⟨k, A, cap, hk, rfl, rfl, hsz, hrun⟩ := hrel
    have R := Lib.hid hrun
    clear hrun R0
    by_cases hlt : k < 5
    · obtain ⟨b', o, x, rfl, hb', hx, hc⟩ := R.out.sl.nat hlt
      obtain ⟨hxl, hsub⟩ := HL.out k x hx
      have hless := i64_less x t (by omega) (by omega)
      rw [less_xor hsub] at hless
      have HS := Lib.hid (adTo_succ (c := t) hx)
      clear hx hsub
      go_wp2_with (at_builtin; refine wl_run _ rfl (.tmp 15) (.tmp 19) rfl w.heap.size w A _ cap (nl (t :: adTo t L k)) _ _ _ _ _ rfl R.out rfl (by omega) hsz ?_)
      intro A2 cap2 w2 hrun2 hsz2
      have R2 := Lib.hid hrun2
      clear hrun2
      go_wp2
      go_roundw
      case rel =>
        refine ⟨k + 1, A2, cap2, by omega, by go_num, by simp, hsz2, ?_⟩
        have h := R2.out
        rw [HS.out]
        simpa [nl] using h
      case measure => simp [intOf]; omega
    · obtain rfl : k = 5 := by omega
      go_wp2_with (first | (go_at_call 51; refine (isorted w.heap.size A 6 cap _ wr R.out.own (by decide)).mono ?_; rintro e w2 ⟨rfl, o2, b2⟩))
      go_ret
      rw [adTo_all t L 5 (by rw [HN.out]; exact Nat.le_refl _), HE.out] at o2
      exact ⟨A, 6, cap, rfl, o2, R.out.below.trans (b2.below hsz R.out.own.at_base)⟩

/-- What 'SextetOf' answers. -/
def sxR (x : Int) : List Nat := if tetZ x then sext x.toNat else []
theorem sx_yes {t : Nat} (ht : t < 16777216) (h4 : wt t = 4) : tetZ t = true ∧ sxR t = sext t := by
  have h := tetZ_yes ht h4
  exact ⟨h, by unfold sxR; rw [h]; rfl⟩
theorem sx_no {x : Int} (h : tetZ x = false) : sxR x = [] := by unfold sxR; rw [h]; rfl
theorem sx_len (x : Int) : (nl (sxR x)).length ≤ 6 := by
  rw [nl_length]
  cases h : tetZ x with
  | true =>
    obtain ⟨t, rfl, ht, h4⟩ := tetZ_nat h
    rw [(sx_yes ht h4).2, sext_len ht h4]
    exact Nat.le_refl _
  | false => rw [sx_no h]; simp

set_option maxHeartbeats 1000000 in
theorem sSextetOf (x : Int) (w : World) :
    Calls Try.prog 38 #[.int .i64 x] w (MakesB (nl (sxR x)) (tetZ x) w) := by
  rcases word_cases x with ⟨t, rfl, ht⟩ | hx
  · have HV := Lib.hid (fun W => sWordValid_yes t W ht)
    have HW := Lib.hid (fun W => sweight t W ht)
    by_cases h4 : wt t = 4
    · have e1 : ((wt t : Int) != 4) = false := by simp [h4]
      have HR := Lib.hid (sx_yes ht h4)
      have HOR := Lib.hid (sl4With t)
      have HE := Lib.hid (sext_srt ht)
      have HL1 : ∀ k x, (octs (hasf t 0))[k]? = some x → x < 16777216 := fun k x h => oct_lt (oct_has (List.mem_of_getElem? h)).1
      have hll := sext_count ht h4
      have HL := Lib.hid HL1
      clear HL1 h4
      generalize octs (hasf t 0) = L at HOR HE hll HL
      go_enter Try.func38, Try.ntmps38
      go_wp2_with (first | (go_at_call 60; refine (HV.out _).mono ?_; rintro e w' ⟨rfl, rfl⟩) | (go_at_call 61; refine (HW.out _).mono ?_; rintro e w' ⟨rfl, rfl⟩))
      refine (HOR.out _ ht).mono ?_
      rintro e w1 ⟨A1, n1, c1, rfl, o1, b1⟩
      obtain rfl : n1 = 5 := by have := o1.length; rw [nl_length] at this; omega
      have HN := Lib.hid hll
      have R0 := Lib.hid (Run.start (Own.lit w [(t : Int)] (by simp)) ((Below.refl _ _).alloc (Nat.le_refl _) _) (by simp) o1 b1)
      have hs1 : w.heap.size ≤ w1.heap.size := by have := b1.size; simp at this; omega
      clear o1 b1 hll
      go_wp2
      go_loopw [4, 6] (fun v i wr => ∃ k A cap, k ≤ 5 ∧ i = .int .i64 (k : Nat) ∧ v = .slice A (k + 1) cap ∧ w.heap.size ≤ wr.heap.size ∧ Run w.heap.size w wr A (k + 1) cap (nl (t :: adTo t L k)) A1 5 c1 (nl L)) (fun _ i _ => 5 - (intOf i).toNat)
      case atStart => exact ⟨0, _, _, Nat.zero_le _, rfl, rfl, hs1, R0.out⟩
      case round =>
        obtain ⟨k, A, cap, hk, rfl, rfl, hsz, hrun⟩ := hrel
        have R := Lib.hid hrun
        clear hrun R0
        by_cases hlt : k < 5
        · obtain ⟨b', o, y, rfl, hb', hy, hc⟩ := R.out.sl.nat hlt
          have hyl := HL.out k y hy
          have hxor := i64_xor y t (by omega) (by omega)
          have HS := Lib.hid (adTo_succ (c := t) hy)
          clear hy
          go_wp2_with (at_builtin; refine wl_run _ rfl (.tmp 26) (.tmp 33) rfl w.heap.size w A _ cap (nl (t :: adTo t L k)) _ _ _ _ _ rfl R.out rfl (by omega) hsz ?_)
          intro A2 cap2 w2 hrun2 hsz2
          have R2 := Lib.hid hrun2
          clear hrun2
          go_wp2
          go_roundw
          case rel =>
            refine ⟨k + 1, A2, cap2, by omega, by go_num, by simp, hsz2, ?_⟩
            have h := R2.out
            rw [HS.out]
            simpa [nl] using h
          case measure => simp [intOf]; omega
        · obtain rfl : k = 5 := by omega
          go_wp2_with fail
          refine (sl4Sort 6 wr.heap.size A cap _ wr R.out.own.sl (Nat.le_refl _) (by decide)).mono ?_
          rintro e w2 ⟨A2, c2, rfl, -, b2, -, o2⟩
          have HO2 := Lib.hid (o2 (by decide))
          have HB2 := Lib.hid b2
          clear o2 b2
          go_wp2
          go_ret2
          have h := HO2.out
          rw [adTo_all t L 5 (by rw [HN.out]; exact Nat.le_refl _), HE.out] at h
          rw [HR.out.1, HR.out.2]
          exact ⟨A2, _, c2, rfl, h.base_le hsz, R.out.below.trans (HB2.out.mono hsz)⟩
    · have e1 : ((wt t : Int) != 4) = true := by simp; omega
      have hz := tetZ_no (x := (t : Int)) (.inr h4)
      have HR := Lib.hid (And.intro hz (sx_no hz))
      clear h4 hz
      go_enter Try.func38, Try.ntmps38
      go_wp2_with (first | (go_at_call 60; refine (HV.out _).mono ?_; rintro e w' ⟨rfl, rfl⟩) | (go_at_call 61; refine (HW.out _).mono ?_; rintro e w' ⟨rfl, rfl⟩))
      go_ret2
      rw [HR.out.1, HR.out.2]
      exact ⟨_, _, _, rfl, Own.lit w [] (by decide), (Below.refl _ _).alloc (Nat.le_refl _) _⟩
  · have HV := Lib.hid (fun W => sWordValid_no x W hx)
    have hz := tetZ_no (x := x) (.inl (valid_no hx))
    have HR := Lib.hid (And.intro hz (sx_no hz))
    clear hz
    go_enter Try.func38, Try.ntmps38
    go_wp2_with (first | (go_at_call 60; refine (HV.out _).mono ?_; rintro e w' ⟨rfl, rfl⟩))
    go_ret2
    rw [HR.out.1, HR.out.2]
    exact ⟨_, _, _, rfl, Own.lit w [] (by decide), (Below.refl _ _).alloc (Nat.le_refl _) _⟩
end Go.Proofs.Ytbpgaphcpgfafaa
