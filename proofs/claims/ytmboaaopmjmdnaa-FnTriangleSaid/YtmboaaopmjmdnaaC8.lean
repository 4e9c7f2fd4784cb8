import Derived.Test.YtmboaaopmjmdnaaC7
namespace Go.Proofs.Ytmboaaopmjmdnaa
open Go.RowKit

theorem mrg_len (a b : List Int) : (mrg a b).length = a.length + b.length := by
  have := (mrg_perm _ a b rfl).length_eq
  rw [this, List.length_append]

/-- Part of a row of cells. -/
theorem Sl.part {w : World} {B : Nat} {b o n cap : Nat} {l : List Int} (h : Sl w B (some ⟨b, o, none⟩) n cap l) (i m c2 : Nat) (hm : i + m ≤ n) (hc1 : m ≤ c2) (hc2 : c2 ≤ maxLen) : Sl w B (some ⟨b, o + i, none⟩) m c2 ((l.drop i).take m) := by
  have hl := h.len
  refine ⟨by rw [List.length_take, List.length_drop]; omega, hc1, hc2, fun hm0 => ?_⟩
  obtain ⟨b', o', e, hb, hc⟩ := h.at_ (by omega)
  injection e with e
  injection e with e1 e2
  subst e1
  subst e2
  refine ⟨b, o + i, rfl, hb, fun j hj => ?_⟩
  rw [show o + i + j = o + (i + j) from by omega, hc (i + j) (by omega)]
  congr 2
  rw [List.getD_eq_getElem?_getD, List.getD_eq_getElem?_getD, List.getElem?_take, if_pos hj, List.getElem?_drop]

set_option maxRecDepth 100000 in
set_option maxHeartbeats 2000000 in
theorem sl4Sort (n : Nat) : ∀ (B : Nat) (A : Option Addr) (cap : Nat) (l : List Int) (w : World), Sl w B A n cap l → B ≤ w.heap.size → n ≤ 1000000 →
    Calls Try.prog 31 #[.slice A n cap] w fun e w' => ∃ A' cap', e = .returned (.slice A' n cap') ∧ Sl w' w'.heap.size A' n cap' (srt l) ∧ Below w.heap.size w w' ∧ (n < 2 → A' = A ∧ cap' = cap ∧ w' = w) ∧ (2 ≤ n → Own w' w.heap.size A' n cap' (srt l)) := by
  induction n using Nat.strongRecOn with
  | _ n ih =>
    intro B A cap l w h hB hn
    have hl := h.len
    by_cases h2 : n < 2
    · have HS := Lib.hid (h.more hB)
      have HL := Lib.hid (srt_short l (by omega))
      have e1 : decide ((n : Int) < 2) = true := by simp; omega
      clear ih h
      go_enter Try.func31, Try.ntmps31
      go_wp2
      go_ret
      exact ⟨A, cap, rfl, by rw [HL.out]; exact HS.out, Below.refl _ _, fun _ => ⟨rfl, rfl, rfl⟩, fun hh => absurd h2 (by omega)⟩
    · obtain ⟨b, o, rfl, hb, hc⟩ := h.at_ (by omega)
      have hcap := h.le
      have hmax := h.max
      have s1 := h.part 0 (n / 2) cap (by omega) (by omega) hmax
      have s2 := h.part (n / 2) (n - n / 2) (cap - n / 2) (by omega) (by omega) (by omega)
      rw [List.drop_zero, Nat.add_zero] at s1
      rw [List.take_of_length_le (by rw [List.length_drop]; omega)] at s2
      have IH := Lib.hid ih
      have S1 := Lib.hid s1
      have S2 := Lib.hid s2
      have HM := Lib.hid (mrg_srt l (n / 2))
      have e1 : decide ((n : Int) < 2) = false := by simp; omega
      have en : ((n : Int) / 2).toNat = n / 2 := by omega
      clear ih h s1 s2 hc
      go_enter Try.func31, Try.ntmps31
      go_wp2_with fail
      refine (IH.out (n / 2) (by omega) B _ cap _ w S1.out hB (by omega)).mono ?_
      rintro e w1 ⟨A1, c1, rfl, sl1, bl1, -, -⟩
      go_wp2_with fail
      refine (IH.out (n - n / 2) (by omega) B _ (cap - n / 2) _ w1 (S2.out.below (bl1.mono hB)) (Nat.le_trans hB bl1.size) (by omega)).mono ?_
      rintro e w2 ⟨A2, c2, rfl, sl2, bl2, -, -⟩
      have sl1' := (sl1.below bl2).more bl2.size
      have bl3 := below_to bl1 bl2 (Nat.le_refl _)
      have HN := Lib.hid (show n / 2 + (n - n / 2) = n from by omega)
      clear sl1 bl1 bl2 IH S1 S2
      generalize srt (l.take (n / 2)) = P at sl1' HM
      generalize srt (l.drop (n / 2)) = Q at sl2 HM
      generalize hna : n / 2 = na at sl1' sl2 HN
      generalize hnb : n - na = nb at sl2 HN
      clear hna hnb
      have HP := Lib.hid sl1'
      have HQ := Lib.hid sl2
      have HB2 := Lib.hid bl3
      have hsz0 := bl3.size
      have hnn := HN.out
      clear sl1' sl2 bl3
      go_wp2
      go_loopw [5, 6, 7] (fun v iv kv wr => ∃ i k A cp out, i ≤ na ∧ k ≤ nb ∧ iv = .int .i64 (i : Nat) ∧ kv = .int .i64 (k : Nat) ∧ v = .slice A (i + k) cp ∧ Own wr w2.heap.size A (i + k) cp out ∧ out ++ mrg (P.drop i) (Q.drop k) = srt l ∧ Below w2.heap.size w2 wr) (fun _ iv kv _ => (na + nb) - ((intOf iv).toNat + (intOf kv).toNat))
      case atStart => exact ⟨0, 0, _, _, [], Nat.zero_le _, Nat.zero_le _, rfl, rfl, rfl, Own.lit w2 [] (by decide), by rw [List.drop_zero, List.drop_zero, List.nil_append]; exact HM.out, (Below.refl _ _).alloc (Nat.le_refl _) _⟩
      case round =>
        obtain ⟨i, k, A, cp, out, hi', hk', rfl, rfl, rfl, hown, hres, hbel⟩ := hrel
        have HO := Lib.hid hown
        have HR := Lib.hid hres
        have HB := Lib.hid hbel
        have hsz := hbel.size
        clear hown hres hbel
        by_cases hi : i < na
        · have f1 : decide ((i : Int) < (na : Int)) = true := by simp; omega
          have i0 : (0 : Int) ≤ (i : Int) := by omega
          have i1 : (i : Int) < (na : Int) := by omega
          obtain ⟨b1, o1, x, rfl, hb1, hx, hc1⟩ := (HP.out.below HB.out).get hi
          by_cases hk : k < nb
          · have f2 : ((k : Int) == (nb : Int)) = false := by rw [int_beq]; simp; omega
            have k0 : (0 : Int) ≤ (k : Int) := by omega
            have k1 : (k : Int) < (nb : Int) := by omega
            obtain ⟨b2, o2, y, rfl, hb2, hy, hc2⟩ := (HQ.out.below HB.out).get hk
            by_cases hxy : x ≤ y
            · have f3 : decide (x ≤ y) = true := by simp; omega
              have HST := Lib.hid (mrg_a (i := i) (k := k) hx (fun z hz => by rw [hy] at hz; injection hz with hz; omega))
              clear hx hy hxy
              go_wp2_with fail
              go_quiet (fail)
              go_wp2_with (at_builtin; refine wl_app _ rfl (.tmp 56) (.tmp 61) rfl w2.heap.size A _ cp out _ rfl (by exact HO.out.drewN _) rfl (by omega) (by exact hsz) ?_)
              intro A3 cp3 w3 o3 b3
              have HO3 := Lib.hid o3
              have HB3 := Lib.hid b3
              clear o3 b3
              go_wp2
              go_roundw
              case rel =>
                refine ⟨i + 1, k, A3, cp3, out ++ [x], by omega, by omega, by go_num, by go_num, by simp; omega, by have h := HO3.out; rwa [show i + k + 1 = i + 1 + (k) from by omega] at h, ?_, (below_drewN HB.out _).trans HB3.out⟩
                rw [List.append_assoc, List.singleton_append, ← HST.out]
                exact HR.out
              case measure => simp [intOf]; omega
            · have f3 : decide (x ≤ y) = false := by simp; omega
              have HST := Lib.hid (mrg_b (i := i) (k := k) hy (fun z hz => by rw [hx] at hz; injection hz with hz; omega))
              clear hx hy hxy
              go_wp2_with fail
              go_quiet (fail)
              go_wp2_with (at_builtin; refine wl_app _ rfl (.tmp 65) (.tmp 70) rfl w2.heap.size A _ cp out _ rfl (by exact HO.out.drewN _) rfl (by omega) (by exact hsz) ?_)
              intro A3 cp3 w3 o3 b3
              have HO3 := Lib.hid o3
              have HB3 := Lib.hid b3
              clear o3 b3
              go_wp2
              go_roundw
              case rel =>
                refine ⟨i, k + 1, A3, cp3, out ++ [y], by omega, by omega, by go_num, by go_num, by simp; omega, by have h := HO3.out; rwa [show i + k + 1 = i + (k + 1) from by omega] at h, ?_, (below_drewN HB.out _).trans HB3.out⟩
                rw [List.append_assoc, List.singleton_append, ← HST.out]
                exact HR.out
              case measure => simp [intOf]; omega
          · obtain rfl : k = nb := by omega
            have f2 : ((k : Int) == (k : Int)) = true := by simp
            have hy : Q[k]? = none := List.getElem?_eq_none (by have := HQ.out.len; omega)
            have hxy : True := trivial
            have HST := Lib.hid (mrg_a (i := i) (k := k) hx (fun z hz => by rw [hy] at hz; cases hz))
            clear hx hy hxy
            go_wp2_with fail
            go_quiet (fail)
            go_wp2_with (at_builtin; refine wl_app _ rfl (.tmp 56) (.tmp 61) rfl w2.heap.size A _ cp out _ rfl (by exact HO.out.drewN _) rfl (by omega) (by exact hsz) ?_)
            intro A3 cp3 w3 o3 b3
            have HO3 := Lib.hid o3
            have HB3 := Lib.hid b3
            clear o3 b3
            go_wp2
            go_roundw
            case rel =>
              refine ⟨i + 1, k, A3, cp3, out ++ [x], by omega, by omega, by go_num, by go_num, by simp; omega, by have h := HO3.out; rwa [show i + k + 1 = i + 1 + (k) from by omega] at h, ?_, (below_drewN HB.out _).trans HB3.out⟩
              rw [List.append_assoc, List.singleton_append, ← HST.out]
              exact HR.out
            case measure => simp [intOf]; omega
        · obtain rfl : i = na := by omega
          have f1 : decide ((i : Int) < (i : Int)) = false := by simp
          by_cases hk : k < nb
          · have f2 : ((k : Int) == (nb : Int)) = false := by rw [int_beq]; simp; omega
            have f4 : decide ((k : Int) < (nb : Int)) = true := by simp; omega
            have k0 : (0 : Int) ≤ (k : Int) := by omega
            have k1 : (k : Int) < (nb : Int) := by omega
            obtain ⟨b2, o2, y, rfl, hb2, hy, hc2⟩ := (HQ.out.below HB.out).get hk
            have hx : P[i]? = none := List.getElem?_eq_none (by have := HP.out.len; omega)
            have hxy : True := trivial
            have HST := Lib.hid (mrg_b (i := i) (k := k) hy (fun z hz => by rw [hx] at hz; cases hz))
            clear hx hy hxy
            go_wp2_with fail
            go_quiet (fail)
            go_wp2_with (at_builtin; refine wl_app _ rfl (.tmp 65) (.tmp 70) rfl w2.heap.size A _ cp out _ rfl (by exact HO.out.drewN _) rfl (by omega) (by exact hsz) ?_)
            intro A3 cp3 w3 o3 b3
            have HO3 := Lib.hid o3
            have HB3 := Lib.hid b3
            clear o3 b3
            go_wp2
            go_roundw
            case rel =>
              refine ⟨i, k + 1, A3, cp3, out ++ [y], by omega, by omega, by go_num, by go_num, by simp; omega, by have h := HO3.out; rwa [show i + k + 1 = i + (k + 1) from by omega] at h, ?_, (below_drewN HB.out _).trans HB3.out⟩
              rw [List.append_assoc, List.singleton_append, ← HST.out]
              exact HR.out
            case measure => simp [intOf]; omega
          · obtain rfl : k = nb := by omega
            have f4 : decide ((k : Int) < (k : Int)) = false := by simp
            have HE := Lib.hid (mrg_end (a := P) (b := Q) (i := i) (k := k) (by have := HP.out.len; omega) (by have := HQ.out.len; omega))
            go_wp2
            go_ret
            have h := HR.out
            rw [HE.out, List.append_nil] at h
            subst h
            have ho := HO.out
            rw [hnn] at ho ⊢
            exact ⟨A, cp, rfl, ho.sl, below_to HB2.out HB.out (Nat.le_refl _), fun hh => absurd hh h2, fun _ => ho.base_le hsz0⟩
end Go.Proofs.Ytmboaaopmjmdnaa
