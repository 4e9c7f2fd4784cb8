import Derived.Test.YtbpgaphcpgfafaaF9
namespace Go.Proofs.Ytbpgaphcpgfafaa
open Go.RowKit

set_option maxHeartbeats 1000000 in
theorem iSextetOctads (B : Nat) (A0 : Option Addr) (n0 c0 : Nat) (l : List Int) (w : World) (h : Sl w B A0 n0 c0 l) (hB : B ≤ w.heap.size) :
    Calls Try.prog 20 #[.slice A0 n0 c0] w (MakesB (soR l) (sxvZ l) w) := by
  have b0 : Below w.heap.size w (w.alloc (.cells #[] 3)) := (Below.refl _ _).alloc (Nat.le_refl _) _
  have HI := Lib.hid (iSextetValid B A0 n0 c0 l (w.alloc (.cells #[] 3)) (h.below (b0.mono hB)) (Nat.le_trans hB b0.size))
  have O0 := Lib.hid (Own.lit w [] (by decide))
  have hz0 := b0.size
  have B0 := Lib.hid b0
  cases hv : sxvZ l with
  | false =>
    rw [hv] at HI
    have HR := Lib.hid (so_no hv)
    clear hv h b0
    go_enter Try.func20, Try.ntmps20
    go_wp2_with fail
    refine HI.out.mono ?_
    rintro e w1 ⟨rfl, b1⟩
    have HO := Lib.hid (O0.out.below b1 (Nat.le_refl _))
    have HB1 := Lib.hid (below_to B0.out b1 (Nat.le_refl _))
    clear b1
    go_wp2
    go_ret2
    rw [HR.out]
    exact ⟨_, _, _, rfl, HO.out, HB1.out⟩
  | true =>
    rw [hv] at HI
    obtain ⟨t, ht, h4, rfl⟩ := sxv_nat hv
    obtain ⟨hl6, hM⟩ := so_facts ht h4
    have HR := Lib.hid ((so_yes hv).trans (pr_srt hl6).symm)
    obtain rfl : n0 = 6 := by have := h.len; rw [nl_length, hl6] at this; omega
    have HS := Lib.hid (h.more hB)
    have HL := Lib.hid hl6
    have HM := Lib.hid hM
    have hcap := h.le
    have hmax := h.max
    clear hv h hl6 hM b0
    generalize sext t = M at HI HR HS HL HM
    rcases (show c0 = 6 ∨ 6 < c0 from by omega) with hc6 | hc6
    · subst hc6
      go_enter Try.func20, Try.ntmps20
      go_wp2_with fail
      refine HI.out.mono ?_
      rintro e w1 ⟨rfl, b1⟩
      have HO1 := Lib.hid (O0.out.below b1 (Nat.le_refl _))
      have HB1 := Lib.hid (below_to B0.out b1 (Nat.le_refl _))
      clear b1 HI
      go_wp2
      go_loopw [4, 16] (fun v iv wr => ∃ i A cap, i ≤ 6 ∧ iv = .int .i64 (i : Nat) ∧ v = .slice A (prI M i).length cap ∧ Own wr w.heap.size A (prI M i).length cap (nl (prI M i)) ∧ Below w.heap.size w wr) (fun _ iv _ => 6 - (intOf iv).toNat)
      case atStart => exact ⟨0, _, _, Nat.zero_le _, rfl, rfl, HO1.out, HB1.out⟩
      case round =>
        obtain ⟨i, A, cap, hi, rfl, rfl, hown, hbel⟩ := hrel
        have HO := Lib.hid hown
        have HB := Lib.hid hbel
        have hsz := hbel.size
        clear hown hbel
        by_cases hlt : i < 6
        · obtain ⟨b, o, rfl, hb, hcells⟩ := (HS.out.below HB.out).nats (by decide)
          have HC := Lib.hid hcells
          have ci := hcells i hlt
          have hxi : ∃ x, M.getD i 0 = x := ⟨_, rfl⟩
          obtain ⟨x, hx⟩ := hxi
          rw [hx] at ci
          rcases Nat.lt_or_ge i 5 with h5 | h5
          · have hne : ¬ 6 = i + 1 := by omega
            have f1 : decide ((i : Int) < 6) = true := by simp; omega
            have ei : ((i : Int) + 1).toNat = i + 1 := by omega
            have hi1 : (i : Int) + 1 ≤ 6 := by omega
            clear hcells
            go_wp2
            go_loopw [4, 26] (fun v jv wr2 => ∃ j A cap, j ≤ 5 - i ∧ jv = .int .i64 (j : Nat) ∧ v = .slice A (prI2 M i j).length cap ∧ Own wr2 w.heap.size A (prI2 M i j).length cap (nl (prI2 M i j)) ∧ Below w.heap.size w wr2) (fun _ jv _ => (5 - i) - (intOf jv).toNat)
            case atStart => exact ⟨0, A, cap, Nat.zero_le _, rfl, by rw [prI2_zero], by rw [prI2_zero]; exact HO.out, HB.out⟩
            case round =>
              obtain ⟨j, A2, cap2, hj, rfl, rfl, hown2, hbel2⟩ := hrel
              have HO2 := Lib.hid hown2
              have HB2 := Lib.hid hbel2
              have hsz2 := hbel2.size
              have hn2 : (prI2 M i j).length ≤ 100 := by have h1 := prI_small M i; have h2 := prI2_len M i j; rw [HL.out] at h1 h2; omega
              clear hown2 hbel2
              by_cases hjl : j < 5 - i
              · obtain ⟨b', o', e', hb', hcells'⟩ := (HS.out.below HB2.out).nats (by decide)
                injection e' with e'
                injection e' with e1 e2
                subst e1
                subst e2
                have cj := hcells' (i + 1 + j) (by omega)
                rw [show o + (i + 1 + j) = o + (i + 1) + j from by omega] at cj
                have m1 := HM.out i hlt
                rw [hx] at m1
                have m2 := HM.out (i + 1 + j) (by omega)
                have HSS := Lib.hid (prI2_succ (l := M) (i := i) (j := j) (by rw [HL.out]; omega))
                rw [hx] at HSS
                have hxor := i64_xor x (M.getD (i + 1 + j) 0) (by omega) (by omega)
                have hj1 : decide ((j : Int) < 6 - ((i : Int) + 1)) = true := by simp; omega
                clear hcells'
                generalize M.getD (i + 1 + j) 0 = y at cj m2 hxor HSS
                go_wp2_with (at_builtin; refine wl_app _ rfl (.tmp 30) (.tmp 34) rfl w.heap.size A2 _ cap2 (nl (prI2 M i j)) _ rfl HO2.out rfl (by omega) hsz2 ?_)
                intro A3 cap3 w3 hown3 hbel3
                have HO3 := Lib.hid hown3
                have HB3 := Lib.hid (HB2.out.trans hbel3)
                clear hown3 hbel3
                go_wp2
                go_roundw
                case rel =>
                  refine ⟨j + 1, A3, cap3, by omega, by go_num, by rw [HSS.out]; simp, ?_, HB3.out⟩
                  have h := HO3.out
                  rw [HSS.out, nl_append, List.length_append]
                  simpa [nl] using h
                case measure => simp [intOf]; omega
              · obtain rfl : j = 5 - i := by omega
                have HE := Lib.hid (prI2_all (l := M) (i := i) (j := 5 - i) (by rw [HL.out]; omega))
                go_wp2
                go_roundw
                case rel => exact ⟨i + 1, A2, cap2, by omega, by go_num, by rw [← HE.out], by rw [← HE.out]; exact HO2.out, HB2.out⟩
                case measure => simp [intOf]; omega
          · obtain rfl : i = 5 := by omega
            have f1 : decide ((5 : Int) < 6) = true := by decide
            clear hcells
            go_wp2
            go_loopw [4, 26] (fun v jv wr2 => ∃ A cap, jv = .int .i64 0 ∧ v = .slice A (prI M 5).length cap ∧ Own wr2 w.heap.size A (prI M 5).length cap (nl (prI M 5)) ∧ Below w.heap.size w wr2) (fun _ jv _ => 0)
            case atStart => exact ⟨A, cap, rfl, rfl, HO.out, HB.out⟩
            case round =>
              obtain ⟨A2, cap2, rfl, rfl, hown2, hbel2⟩ := hrel
              have HO2 := Lib.hid hown2
              have HB2 := Lib.hid hbel2
              have HE := Lib.hid (show prI M 5 = prI M 6 from (prI2_zero M 5).symm.trans (prI2_all (l := M) (i := 5) (j := 0) (by rw [HL.out]; decide)))
              clear hown2 hbel2
              go_wp2
              go_roundw
              case rel => exact ⟨6, A2, cap2, by decide, by go_num, by rw [← HE.out], by rw [← HE.out]; exact HO2.out, HB2.out⟩
              case measure => simp [intOf]
        · obtain rfl : i = 6 := by omega
          have hn6 : (prI M 6).length ≤ 100 := by have h1 := prI_small M 6; rw [HL.out] at h1; omega
          go_wp2_with fail
          refine (isorted w.heap.size A _ cap _ wr HO.out (by omega)).mono ?_
          rintro e w2 ⟨rfl, o2, b2⟩
          have HO2 := Lib.hid o2
          have HB2 := Lib.hid (HB.out.trans (b2.below hsz HO.out.at_base))
          clear o2 b2
          go_wp2
          go_ret2
          rw [HR.out]
          exact ⟨A, _, cap, rfl, HO2.out, HB2.out⟩
    · have hne5 : ¬ c0 = 6 := by omega
      go_enter Try.func20, Try.ntmps20
      go_wp2_with fail
      refine HI.out.mono ?_
      rintro e w1 ⟨rfl, b1⟩
      have HO1 := Lib.hid (O0.out.below b1 (Nat.le_refl _))
      have HB1 := Lib.hid (below_to B0.out b1 (Nat.le_refl _))
      clear b1 HI
      go_wp2
      go_loopw [4, 16] (fun v iv wr => ∃ i A cap, i ≤ 6 ∧ iv = .int .i64 (i : Nat) ∧ v = .slice A (prI M i).length cap ∧ Own wr w.heap.size A (prI M i).length cap (nl (prI M i)) ∧ Below w.heap.size w wr) (fun _ iv _ => 6 - (intOf iv).toNat)
      case atStart => exact ⟨0, _, _, Nat.zero_le _, rfl, rfl, HO1.out, HB1.out⟩
      case round =>
        obtain ⟨i, A, cap, hi, rfl, rfl, hown, hbel⟩ := hrel
        have HO := Lib.hid hown
        have HB := Lib.hid hbel
        have hsz := hbel.size
        clear hown hbel
        by_cases hlt : i < 6
        · obtain ⟨b, o, rfl, hb, hcells⟩ := (HS.out.below HB.out).nats (by decide)
          have HC := Lib.hid hcells
          have ci := hcells i hlt
          have hxi : ∃ x, M.getD i 0 = x := ⟨_, rfl⟩
          obtain ⟨x, hx⟩ := hxi
          rw [hx] at ci
          rcases Nat.lt_or_ge i 5 with h5 | h5
          · have hne : ¬ c0 = i + 1 := by omega
            have f1 : decide ((i : Int) < 6) = true := by simp; omega
            have ei : ((i : Int) + 1).toNat = i + 1 := by omega
            have hi1 : (i : Int) + 1 ≤ 6 := by omega
            clear hcells
            go_wp2
            go_loopw [4, 26] (fun v jv wr2 => ∃ j A cap, j ≤ 5 - i ∧ jv = .int .i64 (j : Nat) ∧ v = .slice A (prI2 M i j).length cap ∧ Own wr2 w.heap.size A (prI2 M i j).length cap (nl (prI2 M i j)) ∧ Below w.heap.size w wr2) (fun _ jv _ => (5 - i) - (intOf jv).toNat)
            case atStart => exact ⟨0, A, cap, Nat.zero_le _, rfl, by rw [prI2_zero], by rw [prI2_zero]; exact HO.out, HB.out⟩
            case round =>
              obtain ⟨j, A2, cap2, hj, rfl, rfl, hown2, hbel2⟩ := hrel
              have HO2 := Lib.hid hown2
              have HB2 := Lib.hid hbel2
              have hsz2 := hbel2.size
              have hn2 : (prI2 M i j).length ≤ 100 := by have h1 := prI_small M i; have h2 := prI2_len M i j; rw [HL.out] at h1 h2; omega
              clear hown2 hbel2
              by_cases hjl : j < 5 - i
              · obtain ⟨b', o', e', hb', hcells'⟩ := (HS.out.below HB2.out).nats (by decide)
                injection e' with e'
                injection e' with e1 e2
                subst e1
                subst e2
                have cj := hcells' (i + 1 + j) (by omega)
                rw [show o + (i + 1 + j) = o + (i + 1) + j from by omega] at cj
                have m1 := HM.out i hlt
                rw [hx] at m1
                have m2 := HM.out (i + 1 + j) (by omega)
                have HSS := Lib.hid (prI2_succ (l := M) (i := i) (j := j) (by rw [HL.out]; omega))
                rw [hx] at HSS
                have hxor := i64_xor x (M.getD (i + 1 + j) 0) (by omega) (by omega)
                have hj1 : decide ((j : Int) < 6 - ((i : Int) + 1)) = true := by simp; omega
                clear hcells'
                generalize M.getD (i + 1 + j) 0 = y at cj m2 hxor HSS
                go_wp2_with (at_builtin; refine wl_app _ rfl (.tmp 30) (.tmp 34) rfl w.heap.size A2 _ cap2 (nl (prI2 M i j)) _ rfl HO2.out rfl (by omega) hsz2 ?_)
                intro A3 cap3 w3 hown3 hbel3
                have HO3 := Lib.hid hown3
                have HB3 := Lib.hid (HB2.out.trans hbel3)
                clear hown3 hbel3
                go_wp2
                go_roundw
                case rel =>
                  refine ⟨j + 1, A3, cap3, by omega, by go_num, by rw [HSS.out]; simp, ?_, HB3.out⟩
                  have h := HO3.out
                  rw [HSS.out, nl_append, List.length_append]
                  simpa [nl] using h
                case measure => simp [intOf]; omega
              · obtain rfl : j = 5 - i := by omega
                have HE := Lib.hid (prI2_all (l := M) (i := i) (j := 5 - i) (by rw [HL.out]; omega))
                go_wp2
                go_roundw
                case rel => exact ⟨i + 1, A2, cap2, by omega, by go_num, by rw [← HE.out], by rw [← HE.out]; exact HO2.out, HB2.out⟩
                case measure => simp [intOf]; omega
          · obtain rfl : i = 5 := by omega
            have f1 : decide ((5 : Int) < 6) = true := by decide
            clear hcells
            go_wp2
            go_loopw [4, 26] (fun v jv wr2 => ∃ A cap, jv = .int .i64 0 ∧ v = .slice A (prI M 5).length cap ∧ Own wr2 w.heap.size A (prI M 5).length cap (nl (prI M 5)) ∧ Below w.heap.size w wr2) (fun _ jv _ => 0)
            case atStart => exact ⟨A, cap, rfl, rfl, HO.out, HB.out⟩
            case round =>
              obtain ⟨A2, cap2, rfl, rfl, hown2, hbel2⟩ := hrel
              have HO2 := Lib.hid hown2
              have HB2 := Lib.hid hbel2
              have HE := Lib.hid (show prI M 5 = prI M 6 from (prI2_zero M 5).symm.trans (prI2_all (l := M) (i := 5) (j := 0) (by rw [HL.out]; decide)))
              clear hown2 hbel2
              go_wp2
              go_roundw
              case rel => exact ⟨6, A2, cap2, by decide, by go_num, by rw [← HE.out], by rw [← HE.out]; exact HO2.out, HB2.out⟩
              case measure => simp [intOf]
        · obtain rfl : i = 6 := by omega
          have hn6 : (prI M 6).length ≤ 100 := by have h1 := prI_small M 6; rw [HL.out] at h1; omega
          go_wp2_with fail
          refine (isorted w.heap.size A _ cap _ wr HO.out (by omega)).mono ?_
          rintro e w2 ⟨rfl, o2, b2⟩
          have HO2 := Lib.hid o2
          have HB2 := Lib.hid (HB.out.trans (b2.below hsz HO.out.at_base))
          clear o2 b2
          go_wp2
          go_ret2
          rw [HR.out]
          exact ⟨A, _, cap, rfl, HO2.out, HB2.out⟩
end Go.Proofs.Ytbpgaphcpgfafaa
