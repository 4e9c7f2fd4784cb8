import Derived.Test.YtbpgaphcpgfafaaF9
import Derived.Test.YtbpgaphcpgfafaaM15
import Derived.Test.YtbpgaphcpgfafaaB4
namespace Go.Proofs.Ytbpgaphcpgfafaa
open Go.RowKit

/-- What 'SextetTable' answers. -/
def tabOk (l m : List Int) : Bool := sxvZ l && sxvZ m
def tabR (l m : List Int) : List Int := if tabOk l m then nl (tabTo (l.map Int.toNat) (m.map Int.toNat) 36) else []
theorem tab_no {l m : List Int} (h : sxvZ l = false ∨ sxvZ m = false) : tabOk l m = false ∧ tabR l m = [] := by
  have h1 : tabOk l m = false := by unfold tabOk; rcases h with h | h <;> simp [h]
  exact ⟨h1, by unfold tabR; rw [h1]; rfl⟩
theorem tab_yes {t u : Nat} (h1 : sxvZ (nl (sext t)) = true) (h2 : sxvZ (nl (sext u)) = true) : tabOk (nl (sext t)) (nl (sext u)) = true ∧ tabR (nl (sext t)) (nl (sext u)) = nl (tabTo (sext t) (sext u) 36) := by
  have h : tabOk (nl (sext t)) (nl (sext u)) = true := by unfold tabOk; rw [h1, h2]; rfl
  exact ⟨h, by unfold tabR; rw [h, nl_back, nl_back]; rfl⟩
theorem tab_len (l m : List Int) : (tabR l m).length ≤ 36 := by
  unfold tabR
  split
  · rw [nl_length, tabTo_len]; exact Nat.le_refl _
  · simp

set_option maxHeartbeats 1000000 in
theorem sl5Table (B : Nat) (A1 A2 : Option Addr) (c1 c2 : Nat) (P Q : List Nat) (w : World) (h1 : Sl w B A1 6 c1 (nl P)) (h2 : Sl w B A2 6 c2 (nl Q)) (hB : B ≤ w.heap.size) (hP : ∀ j, j < 6 → P.getD j 0 < 16777216) (hQ : ∀ j, j < 6 → Q.getD j 0 < 16777216) :
    Calls Try.prog 52 #[.slice A1 6 c1, .slice A2 6 c2] w (Makes (nl (tabTo P Q 36)) w) := by
  have S1 := Lib.hid (h1.more hB)
  have S2 := Lib.hid (h2.more hB)
  have HP := Lib.hid hP
  have HQ := Lib.hid hQ
  clear h1 h2 hP hQ
  go_enter Try.func52, Try.ntmps52
  go_wp2
  go_loopw [5, 6] (fun v iv wr => ∃ i A cap, i ≤ 6 ∧ iv = .int .i64 (i : Nat) ∧ v = .slice A (6 * i) cap ∧ Own wr w.heap.size A (6 * i) cap (nl (tabTo P Q (6 * i))) ∧ Below w.heap.size w wr) (fun _ iv _ => 6 - (intOf iv).toNat)
  case atStart => exact ⟨0, _, _, Nat.zero_le _, rfl, rfl, Own.lit w [] (by decide), (Below.refl _ _).alloc (Nat.le_refl _) _⟩
  case round =>
    obtain ⟨i, A, cap, hi, rfl, rfl, hown, hbel⟩ := hrel
    have HO := Lib.hid hown
    have HB := Lib.hid hbel
    have hsz := hbel.size
    clear hown hbel
    by_cases hlt : i < 6
    · have f1 : decide ((i : Int) < 6) = true := by simp; omega
      go_wp2
      go_loopw [5, 7] (fun v kv wr2 => ∃ k A cap, k ≤ 6 ∧ kv = .int .i64 (k : Nat) ∧ v = .slice A (6 * i + k) cap ∧ Own wr2 w.heap.size A (6 * i + k) cap (nl (tabTo P Q (6 * i + k))) ∧ Below w.heap.size w wr2) (fun _ kv _ => 6 - (intOf kv).toNat)
      case atStart => exact ⟨0, A, cap, Nat.zero_le _, rfl, rfl, HO.out, HB.out⟩
      case round =>
        obtain ⟨k, A2', cap2, hk, rfl, rfl, hown2, hbel2⟩ := hrel
        have HO2 := Lib.hid hown2
        have HB2 := Lib.hid hbel2
        have hsz2 := hbel2.size
        clear hown2 hbel2
        by_cases hkl : k < 6
        · obtain ⟨b, o, rfl, hb, hcells⟩ := (S1.out.below HB2.out).nats (by decide)
          obtain ⟨b', o', rfl, hb', hcells'⟩ := (S2.out.below HB2.out).nats (by decide)
          have d1 := hcells i hlt
          have d2 := hcells' k hkl
          have m1 := HP.out i hlt
          have m2 := HQ.out k hkl
          have HSS := Lib.hid (tabTo_succ P Q i k hkl)
          have hand := i64_and (P.getD i 0) (Q.getD k 0) (by omega) (by omega)
          have HW := Lib.hid (fun W => sweight (P.getD i 0 &&& Q.getD k 0) W (and_lt m1))
          have i0 : (0 : Int) ≤ (i : Int) := by omega
          have i1 : (i : Int) < 6 := by omega
          have k0 : (0 : Int) ≤ (k : Int) := by omega
          have k1 : (k : Int) < 6 := by omega
          have HT := Lib.hid (show tabF P Q i k = wt (P.getD i 0 &&& Q.getD k 0) from rfl)
          have hn2 : 6 * i + k ≤ 1048576 := by omega
          clear hcells hcells'
          generalize P.getD i 0 = x at d1 m1 hand HW HT
          generalize Q.getD k 0 = y at d2 m2 hand HW HT
          go_wp2_with fail
          go_region_law (first | (go_simp; go_at_call 61; refine (HW.out _).mono ?_; rintro e w' ⟨rfl, rfl⟩) | (refine st_app _ rfl (.tmp 17) (.tmp 28) rfl w.heap.size A2' (6 * i + k) cap2 (nl (tabTo P Q (6 * i + k))) ((wt (x &&& y) : Nat) : Int) ?_ ?_ wr.heap.size ?_ ?_ ?_ ?_ ?_; (rfl); (exact app_own HO2.out _); (rfl); (exact app_cell _ _); (exact hn2); (exact app_size hsz2 _); (intro A3 cap3 w3 hown3 hbel3)))
          all_goals
            have HO3 := Lib.hid hown3
            have HB3 := Lib.hid (app_below HB2.out hsz2 hbel3)
            have HO4 := Lib.hid (show Own w3 w.heap.size A3 (6 * i + k + 1) cap3 (nl (tabTo P Q (6 * i + k + 1))) from by
              have h := HO3.out
              rw [HSS.out, HT.out, nl_append]
              simpa [nl] using h)
            clear hown3 hbel3
            first
              | (refine ⟨⟨k + 1, A3, cap3, by omega, by go_num, rfl, HO4.out, HB3.out⟩, ?_⟩
                 simp [intOf]; omega)
              | (go_wp2
                 go_roundw
                 case rel => exact ⟨k + 1, A3, cap3, by omega, by go_num, rfl, HO4.out, HB3.out⟩
                 case measure => simp [intOf]; omega)
        · obtain rfl : k = 6 := by omega
          go_wp2
          go_roundw
          case rel => exact ⟨i + 1, A2', cap2, by omega, by go_num, rfl, HO2.out, HB2.out⟩
          case measure => simp [intOf]; omega
    · obtain rfl : i = 6 := by omega
      go_wp2
      go_ret
      exact ⟨A, _, cap, rfl, HO.out, HB.out⟩

set_option maxHeartbeats 400000 in
theorem sSextetTable (B : Nat) (A1 A2 : Option Addr) (n1 n2 c1 c2 : Nat) (l1 l2 : List Int) (w : World) (h1 : Sl w B A1 n1 c1 l1) (h2 : Sl w B A2 n2 c2 l2) (hB : B ≤ w.heap.size) :
    Calls Try.prog 24 #[.slice A1 n1 c1, .slice A2 n2 c2] w (MakesB (tabR l1 l2) (tabOk l1 l2) w) := by
  have HI := Lib.hid (sSextetValid B A1 n1 c1 l1 w h1 hB)
  have HJ := Lib.hid (fun W (b : Below w.heap.size w W) => sSextetValid B A2 n2 c2 l2 W (h2.below (b.mono hB)) (Nat.le_trans hB b.size))
  cases hv : sxvZ l1 with
  | false =>
    rw [hv] at HI
    have HR := Lib.hid (tab_no (m := l2) (.inl hv))
    clear hv h1 h2
    go_enter Try.func24, Try.ntmps24
    go_wp2_with fail
    refine HI.out.mono ?_
    rintro e w1 ⟨rfl, b1⟩
    have HB1 := Lib.hid b1
    have hz := b1.size
    clear b1
    go_wp2
    go_ret2
    rw [HR.out.1, HR.out.2]
    exact ⟨_, _, _, rfl, (Own.lit w1 [] (by decide)).base_le hz, HB1.out.alloc hz _⟩
  | true =>
    rw [hv] at HI
    cases hv2 : sxvZ l2 with
    | false =>
      rw [hv2] at HJ
      have HR := Lib.hid (tab_no (l := l1) (.inr hv2))
      clear hv hv2 h1 h2
      go_enter Try.func24, Try.ntmps24
      go_wp2_with fail
      refine HI.out.mono ?_
      rintro e w1 ⟨rfl, b1⟩
      go_wp2_with fail
      refine (HJ.out w1 b1).mono ?_
      rintro e w2 ⟨rfl, b2⟩
      have HB2 := Lib.hid (below_to b1 b2 (Nat.le_refl _))
      have hz := HB2.out.size
      clear b1 b2
      go_wp2
      go_ret2
      rw [HR.out.1, HR.out.2]
      exact ⟨_, _, _, rfl, (Own.lit w2 [] (by decide)).base_le hz, HB2.out.alloc hz _⟩
    | true =>
      rw [hv2] at HJ
      obtain ⟨t, ht, h4, rfl⟩ := sxv_nat hv
      obtain ⟨u, hu, hu4, rfl⟩ := sxv_nat hv2
      obtain ⟨hl1, hM1⟩ := so_facts ht h4
      obtain ⟨hl2, hM2⟩ := so_facts hu hu4
      have HR := Lib.hid (tab_yes hv hv2)
      obtain rfl : n1 = 6 := by have := h1.len; rw [nl_length, hl1] at this; omega
      obtain rfl : n2 = 6 := by have := h2.len; rw [nl_length, hl2] at this; omega
      have HT := Lib.hid (fun W (b : Below w.heap.size w W) => sl5Table B A1 A2 c1 c2 _ _ W (h1.below (b.mono hB)) (h2.below (b.mono hB)) (Nat.le_trans hB b.size) hM1 hM2)
      clear hv hv2 h1 h2 hl1 hl2 hM1 hM2
      go_enter Try.func24, Try.ntmps24
      go_wp2_with fail
      refine HI.out.mono ?_
      rintro e w1 ⟨rfl, b1⟩
      go_wp2_with fail
      refine (HJ.out w1 b1).mono ?_
      rintro e w2 ⟨rfl, b2⟩
      have HB2 := Lib.hid (below_to b1 b2 (Nat.le_refl _))
      have hz := HB2.out.size
      clear b1 b2
      go_wp2_with fail
      refine (HT.out w2 HB2.out).mono ?_
      rintro e w3 ⟨A3, n3, c3, rfl, o3, b3⟩
      have HO := Lib.hid (o3.base_le hz)
      have HB3 := Lib.hid (below_to HB2.out b3 (Nat.le_refl _))
      clear o3 b3
      go_wp2
      go_ret2
      rw [HR.out.1, HR.out.2]
      exact ⟨A3, n3, c3, rfl, HO.out, HB3.out⟩

set_option maxHeartbeats 1000000 in
theorem iSextetTable (B : Nat) (A1 A2 : Option Addr) (n1 n2 c1 c2 : Nat) (l1 l2 : List Int) (w : World) (h1 : Sl w B A1 n1 c1 l1) (h2 : Sl w B A2 n2 c2 l2) (hB : B ≤ w.heap.size) :
    Calls Try.prog 25 #[.slice A1 n1 c1, .slice A2 n2 c2] w (MakesB (tabR l1 l2) (tabOk l1 l2) w) := by
  have b0 : Below w.heap.size w (w.alloc (.cells #[] 3)) := (Below.refl _ _).alloc (Nat.le_refl _) _
  have HI := Lib.hid (iSextetValid B A1 n1 c1 l1 (w.alloc (.cells #[] 3)) (h1.below (b0.mono hB)) (Nat.le_trans hB b0.size))
  have HJ := Lib.hid (fun W (b : Below w.heap.size w W) => iSextetValid B A2 n2 c2 l2 W (h2.below (b.mono hB)) (Nat.le_trans hB b.size))
  have O0 := Lib.hid (Own.lit w [] (by decide))
  have B0 := Lib.hid b0
  have hz0 := b0.size
  clear b0
  cases hv : sxvZ l1 with
  | false =>
    rw [hv] at HI
    have HR := Lib.hid (tab_no (m := l2) (.inl hv))
    clear hv h1 h2
    go_enter Try.func25, Try.ntmps25
    go_wp2_with fail
    refine HI.out.mono ?_
    rintro e w1 ⟨rfl, b1⟩
    have HO := Lib.hid (O0.out.below b1 (Nat.le_refl _))
    have HB1 := Lib.hid (below_to B0.out b1 (Nat.le_refl _))
    clear b1
    go_wp2
    go_ret2
    rw [HR.out.1, HR.out.2]
    exact ⟨_, _, _, rfl, HO.out, HB1.out⟩
  | true =>
    rw [hv] at HI
    cases hv2 : sxvZ l2 with
    | false =>
      rw [hv2] at HJ
      have HR := Lib.hid (tab_no (l := l1) (.inr hv2))
      clear hv hv2 h1 h2
      go_enter Try.func25, Try.ntmps25
      go_wp2_with fail
      refine HI.out.mono ?_
      rintro e w1 ⟨rfl, b1⟩
      have HO1 := Lib.hid (O0.out.below b1 (Nat.le_refl _))
      have HB1 := Lib.hid (below_to B0.out b1 (Nat.le_refl _))
      clear b1
      go_wp2_with fail
      refine (HJ.out w1 HB1.out).mono ?_
      rintro e w2 ⟨rfl, b2⟩
      have HO2 := Lib.hid (HO1.out.below b2 (Nat.le_refl _))
      have HB2 := Lib.hid (below_to HB1.out b2 (Nat.le_refl _))
      clear b2
      go_wp2
      go_ret2
      rw [HR.out.1, HR.out.2]
      exact ⟨_, _, _, rfl, HO2.out, HB2.out⟩
    | true =>
      rw [hv2] at HJ
      obtain ⟨t, ht, h4, rfl⟩ := sxv_nat hv
      obtain ⟨u, hu, hu4, rfl⟩ := sxv_nat hv2
      obtain ⟨hl1, hM1⟩ := so_facts ht h4
      obtain ⟨hl2, hM2⟩ := so_facts hu hu4
      have HR := Lib.hid (tab_yes hv hv2)
      obtain rfl : n1 = 6 := by have := h1.len; rw [nl_length, hl1] at this; omega
      obtain rfl : n2 = 6 := by have := h2.len; rw [nl_length, hl2] at this; omega
      have S1 := Lib.hid (h1.more hB)
      have S2 := Lib.hid (h2.more hB)
      have HP := Lib.hid hM1
      have HQ := Lib.hid hM2
      clear hv hv2 h1 h2 hl1 hl2 hM1 hM2
      generalize sext t = P at HI HR S1 HP
      generalize sext u = Q at HJ HR S2 HQ
      go_enter Try.func25, Try.ntmps25
      go_wp2_with fail
      refine HI.out.mono ?_
      rintro e w1 ⟨rfl, b1⟩
      have HO1 := Lib.hid (O0.out.below b1 (Nat.le_refl _))
      have HB1 := Lib.hid (below_to B0.out b1 (Nat.le_refl _))
      clear b1
      go_wp2_with fail
      refine (HJ.out w1 HB1.out).mono ?_
      rintro e w2 ⟨rfl, b2⟩
      have HO2 := Lib.hid (HO1.out.below b2 (Nat.le_refl _))
      have HB2 := Lib.hid (below_to HB1.out b2 (Nat.le_refl _))
      clear b2 HI HJ
      go_wp2
      go_loopw [6, 23] (fun v iv wr => ∃ i A cap, i ≤ 6 ∧ iv = .int .i64 (i : Nat) ∧ v = .slice A (6 * i) cap ∧ Own wr w.heap.size A (6 * i) cap (nl (tabTo P Q (6 * i))) ∧ Below w.heap.size w wr) (fun _ iv _ => 6 - (intOf iv).toNat)
      case atStart => exact ⟨0, _, _, Nat.zero_le _, rfl, rfl, HO2.out, HB2.out⟩
      case round =>
        obtain ⟨i, A, cap, hi, rfl, rfl, hown, hbel⟩ := hrel
        have HO := Lib.hid hown
        have HB := Lib.hid hbel
        have hsz := hbel.size
        clear hown hbel
        by_cases hlt : i < 6
        · obtain ⟨b, o, rfl, hb, hcells⟩ := (S1.out.below HB.out).nats (by decide)
          have d1 := hcells i hlt
          have m1 := HP.out i hlt
          obtain ⟨x, hx⟩ : ∃ x, P.getD i 0 = x := ⟨_, rfl⟩
          rw [hx] at d1 m1
          have f1 : decide ((i : Int) < 6) = true := by simp; omega
          clear hcells
          go_wp2
          go_loopw [6, 29] (fun v kv wr2 => ∃ k A cap, k ≤ 6 ∧ kv = .int .i64 (k : Nat) ∧ v = .slice A (6 * i + k) cap ∧ Own wr2 w.heap.size A (6 * i + k) cap (nl (tabTo P Q (6 * i + k))) ∧ Below w.heap.size w wr2) (fun _ kv _ => 6 - (intOf kv).toNat)
          case atStart => exact ⟨0, A, cap, Nat.zero_le _, rfl, rfl, HO.out, HB.out⟩
          case round =>
            obtain ⟨k, A2', cap2, hk, rfl, rfl, hown2, hbel2⟩ := hrel
            have HO3 := Lib.hid hown2
            have HB3 := Lib.hid hbel2
            have hsz2 := hbel2.size
            clear hown2 hbel2
            by_cases hkl : k < 6
            · obtain ⟨b', o', rfl, hb', hcells'⟩ := (S2.out.below HB3.out).nats (by decide)
              have d2 := hcells' k hkl
              have m2 := HQ.out k hkl
              have HSS := Lib.hid (tabTo_succ P Q i k hkl)
              have hand := i64_and x (Q.getD k 0) (by omega) (by omega)
              have HT := Lib.hid (show tabF P Q i k = wt (x &&& Q.getD k 0) from by rw [← hx]; rfl)
              clear hcells'
              generalize Q.getD k 0 = y at d2 m2 hand HT
              go_wp2_with (first | (go_at_call 49; refine (iweight (x &&& y) _ (and_lt m1)).mono ?_; rintro e w' ⟨rfl, rfl⟩) | (at_builtin; refine wl_app _ rfl (.tmp 33) (.tmp 38) rfl w.heap.size A2' _ cap2 (nl (tabTo P Q (6 * i + k))) _ rfl HO3.out rfl (by omega) (by exact hsz2) ?_))
              intro A3 cap3 w3 hown3 hbel3
              have HO4 := Lib.hid hown3
              have HB4 := Lib.hid (HB3.out.trans hbel3)
              clear hown3 hbel3
              go_wp2
              go_roundw
              case rel =>
                refine ⟨k + 1, A3, cap3, by omega, by go_num, rfl, ?_, HB4.out⟩
                have h := HO4.out
                rw [show 6 * i + (k + 1) = 6 * i + k + 1 from rfl, HSS.out, HT.out, nl_append]
                simpa [nl] using h
              case measure => simp [intOf]; omega
            · obtain rfl : k = 6 := by omega
              go_wp2
              go_roundw
              case rel => exact ⟨i + 1, A2', cap2, by omega, by go_num, rfl, HO3.out, HB3.out⟩
              case measure => simp [intOf]; omega
        · obtain rfl : i = 6 := by omega
          go_wp2
          go_ret2
          rw [HR.out.1, HR.out.2]
          exact ⟨A, _, cap, rfl, HO.out, HB.out⟩
end Go.Proofs.Ytbpgaphcpgfafaa
