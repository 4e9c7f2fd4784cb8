import Derived.Test.YtmboaaopmjmdnaaC8
namespace Go.Proofs.Ytmboaaopmjmdnaa
open Go.RowKit

theorem oct_count : (octs yes).length = 759 := by
  have h := cnt0
  unfold cnt at h
  have e : hasf 0 0 = yes := by funext x; simp [hasf, yes]
  rw [e] at h; exact h

set_option maxRecDepth 100000 in
set_option maxHeartbeats 1000000 in
theorem sl4All (w : World) :
    Calls Try.prog 16 #[] w (Makes (nl (octs yes)) w) := by
  have HA := Lib.hid (octTo_all yes)
  have HN := Lib.hid oct_count
  go_enter Try.func16, Try.ntmps16
  go_wp2
  go_loopw [1, 2] (fun v i wr => ∃ k n A cap, k ≤ 4096 ∧ n ≤ k ∧ i = .int .i64 (k : Nat) ∧ v = .slice A n cap ∧ Own wr w.heap.size A n cap (nl (octTo yes k)) ∧ Below w.heap.size w wr) (fun _ i _ => 4096 - (intOf i).toNat)
  case atStart => exact ⟨0, 0, _, _, Nat.zero_le _, Nat.zero_le _, rfl, rfl, Own.lit w [] (by decide), (Below.refl _ _).alloc (Nat.le_refl _) _⟩
  case round =>
    obtain ⟨k, n, A, cap, hk, hnk, rfl, rfl, hown, hb⟩ := hrel
    have HO := Lib.hid hown
    have HB := Lib.hid hb
    have hsz := hb.size
    clear hown hb
    by_cases hlt : k < 4096
    · have hcl := cw_lt k
      have hwl := wt_le (cw k)
      by_cases h8 : wt (cw k) = 8
      · have e1 : ((wt (cw k) : Int) == 8) = true := by rw [show ((8 : Int)) = ((8 : Nat) : Int) from rfl, int_beq]; simp [h8]
        have HS := Lib.hid (octTo_yes yes k h8 rfl)
        clear h8
        go_wp2_with fail
        refine (sl3Of k _ hlt).mono ?_
        rintro e w1 ⟨rfl, b1⟩
        have HO1 := Lib.hid (HO.out.below b1 (Nat.le_refl _))
        have HB1 := Lib.hid (HB.out.trans (b1.mono hsz))
        have hsz1 := Nat.le_trans hsz b1.size
        clear b1 HO HB
        go_wp2_with (first | (go_at_call 28; refine (sweight _ _ hcl).mono ?_; rintro e w' ⟨rfl, rfl⟩) | (at_builtin; refine wl_app _ rfl (.tmp 14) (.tmp 16) rfl w.heap.size A _ cap (nl (octTo yes k)) _ rfl HO1.out rfl (by omega) hsz1 ?_))
        intro A2 cap2 w2 hown2 hb2
        have HO2 := Lib.hid hown2
        have HB2 := Lib.hid hb2
        clear hown2 hb2
        go_wp2
        go_roundw
        case rel =>
          refine ⟨k + 1, n + 1, A2, cap2, by omega, by omega, by go_num, by simp, ?_, HB1.out.trans HB2.out⟩
          have h := HO2.out
          rw [HS.out, nl_append]
          simpa [nl] using h
        case measure => simp [intOf]; omega
      · have e1 : ((wt (cw k) : Int) == 8) = false := by rw [show ((8 : Int)) = ((8 : Nat) : Int) from rfl, int_beq]; simp [h8]
        have HS := Lib.hid (octTo_no yes k (.inl h8))
        clear h8
        go_wp2_with fail
        refine (sl3Of k _ hlt).mono ?_
        rintro e w1 ⟨rfl, b1⟩
        have HO1 := Lib.hid (HO.out.below b1 (Nat.le_refl _))
        have HB1 := Lib.hid (HB.out.trans (b1.mono hsz))
        clear b1 HO HB
        go_wp2_with (first | (go_at_call 28; refine (sweight _ _ hcl).mono ?_; rintro e w' ⟨rfl, rfl⟩))
        go_roundw
        case rel => exact ⟨k + 1, n, A, cap, by omega, by omega, by go_num, by simp, by rw [HS.out]; exact HO1.out, HB1.out⟩
        case measure => simp [intOf]; omega
    · obtain rfl : k = 4096 := by omega
      have hn : n = 759 := by
        have h := HO.out.length
        have h2 := congrArg List.length HA.out
        rw [srt_length, nl_length, nl_length, HN.out] at h2
        rw [nl_length] at h
        omega
      subst hn
      go_wp2_with fail
      refine (sl4Sort 759 wr.heap.size A cap _ wr HO.out.sl (Nat.le_refl _) (by decide)).mono ?_
      rintro e w2 ⟨A2, c2, rfl, -, b2, -, o2⟩
      have HO2 := Lib.hid (o2 (by decide))
      have HB2 := Lib.hid b2
      clear o2 b2
      go_wp2
      go_ret
      have h := HO2.out
      rw [HA.out] at h
      exact ⟨A2, _, c2, rfl, h.base_le hsz, below_to HB.out HB2.out (Nat.le_refl _)⟩

/-- The first k octads that f says yes to. -/
def okTo (f : Nat → Bool) (k : Nat) : List Nat := ((octs yes).take k).filter f
theorem okTo_all (f : Nat → Bool) : okTo f 759 = octs f := by
  unfold okTo
  rw [List.take_of_length_le (by rw [oct_count]; exact Nat.le_refl _), ← octs_filter]
theorem okTo_yes {f : Nat → Bool} {k x : Nat} (h : (octs yes)[k]? = some x) (hf : f x = true) : okTo f (k + 1) = okTo f k ++ [x] := by
  unfold okTo; rw [List.take_add_one, h, List.filter_append]; simp [hf]
theorem okTo_no {f : Nat → Bool} {k x : Nat} (h : (octs yes)[k]? = some x) (hf : f x = false) : okTo f (k + 1) = okTo f k := by
  unfold okTo; rw [List.take_add_one, h, List.filter_append]; simp [hf]
theorem okTo_len (f : Nat → Bool) (k : Nat) : (okTo f k).length ≤ k := by
  unfold okTo
  refine Nat.le_trans (List.length_filter_le _ _) ?_
  rw [List.length_take]; omega
theorem oct_at {k x : Nat} (h : (octs yes)[k]? = some x) : Oct x := (mem_octs.1 (List.mem_of_getElem? h)).1

set_option maxRecDepth 100000 in
set_option maxHeartbeats 1000000 in
theorem sl4With (x : Nat) (w : World) (hx : x < 16777216) :
    Calls Try.prog 34 #[.int .i64 x] w (Makes (nl (octs (hasf x 0))) w) := by
  have HA := Lib.hid (okTo_all (hasf x 0))
  go_enter Try.func34, Try.ntmps34
  go_wp2_with fail
  refine (sl4All _).mono ?_
  rintro e w1 ⟨A1, n1, c1, rfl, o1, b1⟩
  have hn1 : n1 = 759 := o1.length.symm.trans ((nl_length _).trans oct_count)
  subst hn1
  have R0 := Lib.hid (Run.start (Own.lit w [] (by decide)) ((Below.refl _ _).alloc (Nat.le_refl _) _) (by simp) o1 b1)
  have hs1 : w.heap.size ≤ w1.heap.size := by have := b1.size; simp at this; omega
  clear o1 b1
  go_wp2
  go_loopw [3, 5] (fun v i wr => ∃ k A n cap, k ≤ 759 ∧ n ≤ k ∧ i = .int .i64 (k : Nat) ∧ v = .slice A n cap ∧ w.heap.size ≤ wr.heap.size ∧ Run w.heap.size w wr A n cap (nl (okTo (hasf x 0) k)) A1 759 c1 (nl (octs yes))) (fun _ i _ => 759 - (intOf i).toNat)
  case atStart => exact ⟨0, _, _, _, Nat.zero_le _, Nat.zero_le _, rfl, rfl, hs1, R0.out⟩
  case round =>
    obtain ⟨k, A, n, cap, hk, hnk, rfl, rfl, hsz, hrun⟩ := hrel
    have R := Lib.hid hrun
    clear hrun R0
    by_cases hlt : k < 759
    · obtain ⟨b, o, y, rfl, hb, hy, hc⟩ := R.out.sl.nat hlt
      have hcl := oct_lt (oct_at hy)
      have ha := i64_and y x (by omega) (by omega)
      have hr := int_beq' (y &&& x) x
      rw [← hasf_one] at hr
      cases hf : hasf x 0 y with
      | true =>
        rw [hf] at hr
        have HS := Lib.hid (okTo_yes hy hf)
        clear hf hy
        go_wp2_with (at_builtin; refine wl_run _ rfl (.tmp 22) (.tmp 27) rfl w.heap.size w A _ cap (nl (okTo (hasf x 0) k)) _ _ _ _ _ rfl R.out rfl (by omega) hsz ?_)
        intro A2 cap2 w2 hrun2 hsz2
        have R2 := Lib.hid hrun2
        clear hrun2
        go_wp2
        go_roundw
        case rel =>
          refine ⟨k + 1, A2, n + 1, cap2, by omega, by omega, by go_num, by simp, hsz2, ?_⟩
          have h := R2.out
          rw [HS.out, nl_append]
          simpa [nl] using h
        case measure => simp [intOf]; omega
      | false =>
        rw [hf] at hr
        have HS := Lib.hid (okTo_no hy hf)
        clear hf hy
        go_wp2
        go_roundw
        case rel => exact ⟨k + 1, A, n, cap, by omega, by omega, by go_num, by simp, hsz, by rw [HS.out]; exact R.out⟩
        case measure => simp [intOf]; omega
    · obtain rfl : k = 759 := by omega
      go_wp2
      go_ret
      have h := R.out
      rw [HA.out] at h
      exact ⟨A, n, cap, rfl, h.own, h.below⟩
end Go.Proofs.Ytmboaaopmjmdnaa
