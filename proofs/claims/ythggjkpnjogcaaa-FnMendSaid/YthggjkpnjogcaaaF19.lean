/- The words of the code nearest to a word: spec. -/
import Derived.Test.YthggjkpnjogcaaaF18
import Derived.Test.YthggjkpnjogcaaaC8
import Derived.Test.YthggjkpnjogcaaaB6
namespace Go.Proofs.Ythggjkpnjogcaaa
open Go.RowKit

/-- From place j on all numbers of the list are above y. -/
def Above (l : List Int) (j : Nat) (y : Int) : Prop := ∀ i, j ≤ i → i < l.length → y < l.getD i 0
theorem above_all (l : List Int) (y : Int) : Above l l.length y := fun i h1 h2 => by omega
theorem above_less {l : List Int} {j : Nat} {y z : Int} (h : Above l (j + 1) y) (hz : l.getD j 0 = z) (hy : y < z) : Above l j y := fun i h1 h2 => by
  rcases Nat.lt_or_ge j i with h3 | h3
  · exact h i (by omega) h2
  · obtain rfl : i = j := by omega
    rw [hz]; exact hy
theorem up_le {l : List Int} (h : Up l) {i j : Nat} (hij : i ≤ j) (hj : j < l.length) : l.getD i 0 ≤ l.getD j 0 := by
  rcases Nat.lt_or_ge i j with h1 | h1
  · have := List.pairwise_iff_getElem.1 h i j (by omega) hj h1
    simpa [List.getD_eq_getElem?_getD, List.getElem?_eq_getElem, hj, (show i < l.length from by omega)] using this
  · obtain rfl : i = j := by omega
    exact Int.le_refl _
theorem getD_mem_take {l : List Int} {j : Nat} {x : Int} (h : x ∈ l.take j) : ∃ i, i < j ∧ i < l.length ∧ l.getD i 0 = x := by
  obtain ⟨i, hi, e⟩ := List.mem_iff_getElem.1 h
  rw [List.length_take] at hi
  refine ⟨i, by omega, by omega, ?_⟩
  rw [List.getElem_take] at e
  rw [List.getD_eq_getElem?_getD, List.getElem?_eq_getElem (by omega)]
  exact e
theorem getD_mem_drop {l : List Int} {j : Nat} {x : Int} (h : x ∈ l.drop j) : ∃ i, j ≤ i ∧ i < l.length ∧ l.getD i 0 = x := by
  obtain ⟨i, hi, e⟩ := List.mem_iff_getElem.1 h
  rw [List.length_drop] at hi
  refine ⟨j + i, by omega, by omega, ?_⟩
  rw [List.getElem_drop] at e
  rw [List.getD_eq_getElem?_getD, List.getElem?_eq_getElem (by omega)]
  exact e
/-- A number is put in at its place. -/
theorem srt_put {L : List Int} {j : Nat} {y : Int} (hj : j ≤ (srt L).length) (h1 : Above (srt L) j y) (h2 : j = 0 ∨ (srt L).getD (j - 1) 0 ≤ y) :
    srt (L ++ [y]) = ((srt L).take j ++ [y]) ++ (srt L).drop j := by
  have hu := srt_up L
  have hp := srt_perm L
  generalize srt L = l at *
  refine srt_of ?_ ?_
  · unfold Up
    rw [List.append_assoc, List.pairwise_append]
    refine ⟨List.Pairwise.sublist (List.take_sublist _ _) hu, ?_, ?_⟩
    · rw [List.singleton_append, List.pairwise_cons]
      refine ⟨fun z hz => ?_, List.Pairwise.sublist (List.drop_sublist _ _) hu⟩
      obtain ⟨i, hi1, hi2, rfl⟩ := getD_mem_drop hz
      have := h1 i hi1 hi2
      omega
    · intro a ha b hb
      obtain ⟨i, hi1, hi2, rfl⟩ := getD_mem_take ha
      have h3 : l.getD i 0 ≤ l.getD (j - 1) 0 := up_le hu (by omega) (by omega)
      rcases h2 with rfl | h2
      · omega
      · rw [List.singleton_append] at hb
        rcases List.mem_cons.1 hb with rfl | hb
        · omega
        · obtain ⟨i', hi1', hi2', rfl⟩ := getD_mem_drop hb
          have := h1 i' hi1' hi2'
          omega
  · rw [List.append_assoc]
    show (l.take j ++ y :: l.drop j).Perm (L ++ [y])
    refine List.perm_middle.trans ?_
    rw [List.take_append_drop]
    exact (hp.cons y).trans (List.perm_append_comm (l₁ := [y]))

set_option maxRecDepth 100000 in
set_option maxHeartbeats 4000000 in
theorem sl3Near (x : Nat) (w : World) (hx : x < 16777216) :
    Calls Try.prog 80 #[.int .i64 x] w (MakesI (nl (nearN x)) (farN x) w) := by
  have HA := Lib.hid (near_srt x)
  have HF := Lib.hid (farN_eq x)
  go_enter Try.func80, Try.ntmps80
  go_wp2
  go_loopw [4, 5, 6] (fun v u i wr => ∃ k n g cap, k ≤ 4096 ∧ n ≤ k ∧ i = .int .i64 (k : Nat) ∧ u = .int .i64 (leastTo x k : Nat) ∧ v = .slice (some ⟨g, 0, none⟩) n cap ∧ Own wr w.heap.size (some ⟨g, 0, none⟩) n cap (srt (nl (nrTo x k))) ∧ Below w.heap.size w wr) (fun _ _ i _ => 4096 - (intOf i).toNat)
  case atStart => exact ⟨0, 0, w.heap.size, _, Nat.zero_le _, Nat.zero_le _, rfl, by rw [leastTo_zero]; rfl, rfl, by rw [nrTo_zero, show srt (nl []) = [] from srt_short _ (by decide)]; exact Own.lit w [] (by decide), (Below.refl _ _).alloc (Nat.le_refl _) _⟩
  case round =>
    obtain ⟨k, n, g, cap, hk, hnk, rfl, rfl, rfl, hown, hbel⟩ := hrel
    have HO := Lib.hid hown
    have HB := Lib.hid hbel
    have hsz := hbel.size
    clear hown hbel
    by_cases hlt : k < 4096
    · have hcl := cw_lt k
      have hxl : x ^^^ cw k < 16777216 := Nat.xor_lt_two_pow (n := 24) hx hcl
      have hxor : bits .xor .i64 (cw k : Int) (x : Int) = ((x ^^^ cw k : Nat) : Int) := by rw [Nat.xor_comm]; exact i64_xor _ _ (by omega) (by omega)
      have HW := Lib.hid (fun W => sweight (x ^^^ cw k) W hxl)
      have HCW := Lib.hid (fun W => sl3Of k W hlt)
      have hwl := wt_le (x ^^^ cw k)
      have htl := leastTo_25 x k
      rcases Nat.lt_trichotomy (wt (x ^^^ cw k)) (leastTo x k) with h | h | h
      · have HS := Lib.hid (nr_new h)
        generalize leastTo x k = t at h htl
        generalize hd : wt (x ^^^ cw k) = d at HW hwl h HS
        have h1 : decide ((d : Int) < (t : Int)) = true := by simp; omega
        clear hd
        go_wp2_with fail
        refine (HCW.out _).mono ?_
        rintro e w1 ⟨rfl, b1⟩
        have O1 := Lib.hid (Own.empty w1 w.heap.size w1.heap.size rfl (Nat.le_trans hsz b1.size))
        have B1 := Lib.hid ((HB.out.trans (b1.mono hsz)).alloc (Nat.le_trans hsz b1.size) (.cells #[] 3))
        clear b1 HO HB
        go_wp2_with (first | (go_at_call 64; refine (HW.out _).mono ?_; rintro e w' ⟨rfl, rfl⟩))
        go_loopw [9] (fun j wr2 => j = .int .i64 0 ∧ Own wr2 w.heap.size (some ⟨w1.heap.size, 0, none⟩) 0 0 [] ∧ Below w.heap.size w wr2) (fun _ _ => 0)
        case atStart => exact ⟨rfl, O1.out, B1.out⟩
        case round =>
          obtain ⟨rfl, hown2, hbel2⟩ := hrel
          have HO2 := Lib.hid hown2
          have HB2 := Lib.hid hbel2
          have hsz2 := hbel2.size
          have HS1 := Lib.hid hown2.sl
          have HS2 := Lib.hid hown2.sl
          clear hown2 hbel2
          go_wp2_with fail
          go_region_law (first | (refine cat_row wr _ rfl (.tmp 44) (.tmp 47) rfl (pre0 wr) rfl HS1.out _ rfl 0 (by omega) (by omega) ?_; intro A1 cap1 w2 hp1) | (refine cat_row' wr _ rfl (.tmp 44) (.tmp 47) rfl (mid1 wr _) rfl HS1.out _ rfl 0 (by omega) (by omega) ?_; intro A1 cap1 w2 hp1) | (refine cat_row' wr _ rfl (.tmp 44) (.tmp 47) rfl (mid2 wr _) rfl HS1.out _ rfl 0 (by omega) (by omega) ?_; intro A1 cap1 w2 hp1) | (refine cat_one wr _ rfl (.tmp 48) (.tmp 50) rfl hp1 rfl rfl (by omega) ?_; intro A2 cap2 w3 hp2) | (refine cat_one wr _ rfl (.tmp 48) (.tmp 50) rfl (hp1.mid _) rfl rfl (by omega) ?_; intro A2 cap2 w3 hp2) | (refine cat_row wr _ rfl (.tmp 51) (.tmp 54) rfl hp2 rfl HS2.out _ rfl (0 + 1) (by omega) (by omega) ?_; intro A3 cap3 w4 hp3))
          all_goals
            have HP := Lib.hid hp3
            obtain ⟨g3, rfl, -, -⟩ := hp3.own.form (by omega)
            clear hp1 hp2 hp3
            go_wp2
            go_roundw
            case rel => exact ⟨k + 1, 0 + 1, g3, cap3, by omega, by omega, by go_num, by rw [HS.out.1], by simp, by
              have h := HP.out.own.base_le hsz2
              rw [HS.out.2, srt_short _ (show (nl [cw k]).length < 2 by simp [nl])]
              exact h, HB2.out.trans (HP.out.below.mono hsz2)⟩
            case measure => simp [intOf]; omega
      · have HNE := Lib.hid (nr_some (w := x) (k := k) (by have := wt_le (x ^^^ cw k); omega))
        have HS := Lib.hid (nr_same h)
        generalize leastTo x k = t at h htl HS
        generalize hd : wt (x ^^^ cw k) = d at HW hwl h HS
        subst h
        have h1 : decide ((d : Int) < (d : Int)) = false := by simp
        have HN := Lib.hid HO.out.length
        have hn0 : 0 < n := by have h1 := HN.out; have h2 := HNE.out; rw [srt_length, nl_length] at h1; omega
        generalize cw k = y at HS HCW HW hxor hcl
        generalize hL : srt (nl (nrTo x k)) = L at HO HN
        have HLL := Lib.hid hL
        clear hd hL HNE
        go_wp2_with fail
        refine (HCW.out _).mono ?_
        rintro e w1 ⟨rfl, b1⟩
        have O1 := Lib.hid (HO.out.below b1 (Nat.le_refl _))
        have B1 := Lib.hid (HB.out.trans (b1.mono hsz))
        clear b1 HO HB
        go_wp2_with (first | (go_at_call 64; refine (HW.out _).mono ?_; rintro e w' ⟨rfl, rfl⟩))
        go_loopw [9] (fun jv wr2 => ∃ j, j ≤ n ∧ jv = .int .i64 (j : Nat) ∧ Above L j (y : Int) ∧ Own wr2 w.heap.size (some ⟨g, 0, none⟩) n cap L ∧ Below w.heap.size w wr2) (fun jv _ => (intOf jv).toNat)
        case atStart => exact ⟨n, Nat.le_refl _, rfl, by rw [← HN.out]; exact above_all _ _, O1.out, B1.out⟩
        case round =>
          obtain ⟨j, hj, rfl, hab, hown2, hbel2⟩ := hrel
          have HO2 := Lib.hid hown2
          have HB2 := Lib.hid hbel2
          have HAB := Lib.hid hab
          have hsz2 := hbel2.size
          have hcap := hown2.le
          clear hown2 hbel2 hab
          have hlen := HN.out
          have HSL := Lib.hid HO2.out.sl
          have hmax := HO2.out.sl.max
          have HNL := Lib.hid (show srt (nl (nrTo x k)) = L from HLL.out)
          have HPUTS := Lib.hid (fun h2 => srt_put (L := nl (nrTo x k)) (j := j) (y := (y : Int)) (by rw [HNL.out]; omega) (by rw [HNL.out]; exact HAB.out) h2)
          rcases Nat.eq_zero_or_pos j with rfl | hj0
          · have HPUT := Lib.hid (show srt (nl (nrTo x (k + 1))) = (L.take 0 ++ [(y : Int)]) ++ L.drop 0 from by
              have h := HPUTS.out (.inl rfl)
              rw [HNL.out] at h
              rw [HS.out.2, nl_append]
              exact h)
            have HS1 := Lib.hid (show Sl wr wr.heap.size (some ⟨g, 0, none⟩) 0 cap (L.take 0) from by
              have h := HSL.out.part 0 0 cap (by omega) (by omega) hmax
              rwa [List.drop_zero] at h)
            have HS2 := Lib.hid (show Sl wr wr.heap.size (some ⟨g, 0, none⟩) n cap (L.drop 0) from HO2.out.sl)
            have hc0 : ¬ cap = 0 := by omega
            go_wp2_with fail
            go_region_law (first | (refine cat_row wr _ rfl (.tmp 44) (.tmp 47) rfl (pre0 wr) rfl HS1.out _ rfl (0) (by omega) (by omega) ?_; intro A1 cap1 w2 hp1) | (refine cat_row' wr _ rfl (.tmp 44) (.tmp 47) rfl (mid1 wr _) rfl HS1.out _ rfl (0) (by omega) (by omega) ?_; intro A1 cap1 w2 hp1) | (refine cat_row' wr _ rfl (.tmp 44) (.tmp 47) rfl (mid2 wr _) rfl HS1.out _ rfl (0) (by omega) (by omega) ?_; intro A1 cap1 w2 hp1) | (refine cat_one wr _ rfl (.tmp 48) (.tmp 50) rfl hp1 rfl rfl (by omega) ?_; intro A2 cap2 w3 hp2) | (refine cat_one wr _ rfl (.tmp 48) (.tmp 50) rfl (hp1.mid _) rfl rfl (by omega) ?_; intro A2 cap2 w3 hp2) | (refine cat_row wr _ rfl (.tmp 51) (.tmp 54) rfl hp2 rfl HS2.out _ rfl (n + 1) (by omega) (by omega) ?_; intro A3 cap3 w4 hp3))
            all_goals
              have HP := Lib.hid hp3
              obtain ⟨g3, rfl, -, -⟩ := hp3.own.form (by omega)
              clear hp1 hp2 hp3
              go_wp2
              go_roundw
              case rel => exact ⟨k + 1, n + 1, g3, cap3, by omega, by omega, by go_num, by rw [HS.out.1], by simp, by
                have h := HP.out.own.base_le hsz2
                rw [List.nil_append, ← HPUT.out] at h
                exact h, HB2.out.trans (HP.out.below.mono hsz2)⟩
              case measure => simp [intOf]; omega
          · have e1 : ((j : Int) - 1).toNat = j - 1 := by omega
            have j1 : decide ((j : Int) > 0) = true := by simp; omega
            have j2 : 0 ≤ (j : Int) - 1 := by omega
            have j3 : (j : Int) - 1 < n := by omega
            have hz : ∃ z, L.getD (j - 1) 0 = z := ⟨_, rfl⟩
            obtain ⟨z, hz⟩ := hz
            have hcell : wr.cell? ⟨g, j - 1, none⟩ = some (.int .i64 z) := HO2.out.cell (by rw [← hz, List.getD_eq_getElem?_getD, List.getElem?_eq_getElem (by omega)]; rfl)
            have HZ := Lib.hid hz
            clear hz
            by_cases hyz : (y : Int) < z
            · have y1 : decide ((y : Int) < z) = true := by simp; exact hyz
              have HAB2 := Lib.hid (above_less (j := j - 1) (by rw [Nat.sub_add_cancel hj0]; exact HAB.out) HZ.out hyz)
              go_wp2
              go_roundw
              case rel => exact ⟨j - 1, by omega, by go_num, HAB2.out, HO2.out, HB2.out⟩
              case measure => simp [intOf]; omega
            · have y1 : decide ((y : Int) < z) = false := by simp; omega
              have HPUT := Lib.hid (show srt (nl (nrTo x (k + 1))) = (L.take j ++ [(y : Int)]) ++ L.drop j from by
                have h := HPUTS.out (.inr (by rw [HNL.out, HZ.out]; omega))
                rw [HNL.out] at h
                rw [HS.out.2, nl_append]
                exact h)
              have HS1 := Lib.hid (show Sl wr wr.heap.size (some ⟨g, 0, none⟩) j cap (L.take j) from by
                have h := HSL.out.part 0 j cap (by omega) (by omega) hmax
                rwa [List.drop_zero] at h)
              have hjn : (j : Int) ≤ n := by omega
              by_cases hcj : cap = j
              · obtain rfl : j = n := by omega
                subst hcj
                have HS2 := Lib.hid (show Sl wr wr.heap.size (some ⟨g, 0, none⟩) 0 cap (L.drop cap) from by
                  have h := HSL.out.part 0 0 cap (by omega) (by omega) hmax
                  rw [List.drop_of_length_le (by omega)]
                  exact h)
                go_wp2_with fail
                go_region_law (first | (refine cat_row wr _ rfl (.tmp 44) (.tmp 47) rfl (pre0 wr) rfl HS1.out _ rfl (cap) (by omega) (by omega) ?_; intro A1 cap1 w2 hp1) | (refine cat_row' wr _ rfl (.tmp 44) (.tmp 47) rfl (mid1 wr _) rfl HS1.out _ rfl (cap) (by omega) (by omega) ?_; intro A1 cap1 w2 hp1) | (refine cat_row' wr _ rfl (.tmp 44) (.tmp 47) rfl (mid2 wr _) rfl HS1.out _ rfl (cap) (by omega) (by omega) ?_; intro A1 cap1 w2 hp1) | (refine cat_one wr _ rfl (.tmp 48) (.tmp 50) rfl hp1 rfl rfl (by omega) ?_; intro A2 cap2 w3 hp2) | (refine cat_one wr _ rfl (.tmp 48) (.tmp 50) rfl (hp1.mid _) rfl rfl (by omega) ?_; intro A2 cap2 w3 hp2) | (refine cat_row wr _ rfl (.tmp 51) (.tmp 54) rfl hp2 rfl HS2.out _ rfl (cap + 1) (by omega) (by omega) ?_; intro A3 cap3 w4 hp3))
                all_goals
                  have HP := Lib.hid hp3
                  obtain ⟨g3, rfl, -, -⟩ := hp3.own.form (by omega)
                  clear hp1 hp2 hp3
                  go_wp2
                  go_roundw
                  case rel => exact ⟨k + 1, cap + 1, g3, cap3, by omega, by omega, by go_num, by rw [HS.out.1], by simp, by
                    have h := HP.out.own.base_le hsz2
                    rw [List.nil_append, ← HPUT.out] at h
                    exact h, HB2.out.trans (HP.out.below.mono hsz2)⟩
                  case measure => simp [intOf]; omega
              · have HS2 := Lib.hid (show Sl wr wr.heap.size (some ⟨g, j, none⟩) (n - j) (cap - j) (L.drop j) from by
                  have h := HSL.out.part j (n - j) (cap - j) (by omega) (by omega) (by omega)
                  rwa [List.take_of_length_le (by rw [List.length_drop]; omega), Nat.zero_add] at h)
                have hcj2 : ¬ j = cap := fun h => hcj h.symm
                have hjc : j ≤ cap := by omega
                go_wp2_with fail
                go_region_law (first | (refine cat_row wr _ rfl (.tmp 44) (.tmp 47) rfl (pre0 wr) rfl HS1.out _ rfl (j) (by omega) (by omega) ?_; intro A1 cap1 w2 hp1) | (refine cat_row' wr _ rfl (.tmp 44) (.tmp 47) rfl (mid1 wr _) rfl HS1.out _ rfl (j) (by omega) (by omega) ?_; intro A1 cap1 w2 hp1) | (refine cat_row' wr _ rfl (.tmp 44) (.tmp 47) rfl (mid2 wr _) rfl HS1.out _ rfl (j) (by omega) (by omega) ?_; intro A1 cap1 w2 hp1) | (refine cat_one wr _ rfl (.tmp 48) (.tmp 50) rfl hp1 rfl rfl (by omega) ?_; intro A2 cap2 w3 hp2) | (refine cat_one wr _ rfl (.tmp 48) (.tmp 50) rfl (hp1.mid _) rfl rfl (by omega) ?_; intro A2 cap2 w3 hp2) | (refine cat_row wr _ rfl (.tmp 51) (.tmp 54) rfl hp2 rfl HS2.out _ rfl (n + 1) (by omega) (by omega) ?_; intro A3 cap3 w4 hp3))
                all_goals
                  have HP := Lib.hid hp3
                  obtain ⟨g3, rfl, -, -⟩ := hp3.own.form (by omega)
                  clear hp1 hp2 hp3
                  go_wp2
                  go_roundw
                  case rel => exact ⟨k + 1, n + 1, g3, cap3, by omega, by omega, by go_num, by rw [HS.out.1], by simp, by
                    have h := HP.out.own.base_le hsz2
                    rw [List.nil_append, ← HPUT.out] at h
                    exact h, HB2.out.trans (HP.out.below.mono hsz2)⟩
                  case measure => simp [intOf]; omega
      · have HS := Lib.hid (nr_more h)
        generalize leastTo x k = t at h htl HS
        generalize hd : wt (x ^^^ cw k) = d at HW hwl h
        have h1 : decide ((d : Int) < (t : Int)) = false := by simp; omega
        have h2 : ((d : Int) == (t : Int)) = false := by rw [int_beq]; simp; omega
        clear hd
        go_wp2_with fail
        refine (HCW.out _).mono ?_
        rintro e w1 ⟨rfl, b1⟩
        have O1 := Lib.hid (HO.out.below b1 (Nat.le_refl _))
        have B1 := Lib.hid (HB.out.trans (b1.mono hsz))
        clear b1 HO HB
        go_wp2_with (first | (go_at_call 64; refine (HW.out _).mono ?_; rintro e w' ⟨rfl, rfl⟩))
        go_roundw
        case rel => exact ⟨k + 1, n, g, cap, by omega, by omega, by go_num, by rw [HS.out.1], by simp, by rw [HS.out.2]; exact O1.out, B1.out⟩
        case measure => simp [intOf]; omega
    · obtain rfl : k = 4096 := by omega
      have HO1 := Lib.hid (show Own wr w.heap.size (some ⟨g, 0, none⟩) n cap (nl (nearN x)) from by rw [← HA.out]; exact HO.out)
      go_wp2
      go_ret2
      exact ⟨_, n, cap, by rw [HF.out]; rfl, HO1.out, HB.out⟩
end Go.Proofs.Ythggjkpnjogcaaa
