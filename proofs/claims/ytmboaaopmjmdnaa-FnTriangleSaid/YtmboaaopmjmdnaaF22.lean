/- The triangle of an octad: spec. -/
import Derived.Test.YtmboaaopmjmdnaaE6
import Derived.Test.YtmboaaopmjmdnaaF21
namespace Go.Proofs.Ytmboaaopmjmdnaa
open Go.RowKit

theorem TriI.swap {w w1 w2 w3 : World} {A : Option Addr} {cap : Nat} {rs : List Sh} {A1 : Option Addr} {c1 : Nat} {O : List Nat} {A2 : Option Addr} {c2 : Nat} {P : List Nat}
    (hR : Rows w1 w.heap.size A 0 cap rs triF) (hb : Below w.heap.size w w1) (h2 : Own w2 w1.heap.size A2 8 c2 (nl P)) (b2 : Below w1.heap.size w1 w2) (h1 : Own w3 w2.heap.size A1 759 c1 (nl O)) (b3 : Below w2.heap.size w2 w3) : TriI w w3 A 0 cap rs A1 c1 O A2 c2 P := by
  have hz1 := hb.size
  have hz2 := b2.size
  refine ⟨(hR.below b2).below b3, h1.sl, fun _ x y hx hy => ?_, (h2.below b3 (Nat.le_refl _)).sl, fun _ x y hx hy => ?_, below_to (below_to hb b2 (Nat.le_refl _)) b3 (Nat.le_refl _)⟩
  · have e1 := hR.at_lt x hx
    have e2 := h1.at_base y hy
    omega
  · have e1 := hR.at_lt x hx
    have e2 := h2.at_base y hy
    omega
/-- The word of the first k places, as long as k is no more than so many. -/
def IsHd (hd : Nat → Nat) (lim k f : Nat) : Prop := k ≤ lim → f = hd k

set_option maxRecDepth 100000 in
set_option maxHeartbeats 2000000 in
theorem sOctadTriangle (x : Int) (w : World) :
    Calls Try.prog 6 #[.int .i64 x] w (MakesT (octZ x) w) := by
  have RE := Lib.hid (Rows.empty w w.heap.size w.heap.size triF rfl (Nat.le_refl _))
  have BE := Lib.hid ((Below.refl w.heap.size w).alloc (Nat.le_refl _) (.cells #[] 28))
  cases hv : octZ x with
  | false =>
    have HI := Lib.hid (fun W => sOct_is x _ hv W)
    clear hv
    go_enter Try.func6, Try.ntmps6
    go_wp2_with fail
    refine (HI.out _).mono ?_
    rintro e w1 ⟨rfl, b1⟩
    have HB := Lib.hid (below_to BE.out b1 (Nat.le_refl _))
    have HR := Lib.hid (RE.out.below b1)
    clear b1
    go_wp2
    go_ret2
    exact ⟨_, _, [], rfl, HR.out, HB.out⟩
  | true =>
    have HI := Lib.hid (fun W => sOct_is x _ hv W)
    obtain ⟨n, rfl, ho⟩ := octZ_yes hv
    have hn := oct_lt ho
    have HAll := Lib.hid (fun W => sl4All W)
    have hoc := oct_count
    have HP := Lib.hid (fun W => sl1Places n W hn)
    have hp8 : (pl n).length = 8 := by rw [pl_len]; exact ho.2
    have HT1 := Lib.hid (fun (s t q y : Nat) (h : (octs yes)[q]? = some y) => trn_yes (s := s) (t := t) h)
    have HT0 := Lib.hid (fun (s t q y : Nat) (h : (octs yes)[q]? = some y) => trn_no (s := s) (t := t) h)
    have HAT := Lib.hid (fun (k a : Nat) (ha : (octs yes)[k]? = some a) => oct_lt (oct_at ha))
    have HEND := Lib.hid (fun (k i : Nat) (hi : i ≤ 8) (hk : k ≤ i) => (trn_all (hdW n k) (mdW n k i)).trans (tri_cnt ho hi hk))
    have HTEST := Lib.hid (fun (k i : Nat) (hk : k ≤ i) (y : Nat) => hd_test n y hk)
    have HSU := Lib.hid (fun (k : Nat) (hk : k < 8) => hd_succ n (k := k) (p := (pl n).getD k 0) (by rw [List.getD_eq_getElem?_getD, List.getElem?_eq_getElem (by omega)]; rfl))
    have HL1 := Lib.hid (hdW_lt n)
    have HZ := Lib.hid (hdW_zero n)
    clear hv ho
    generalize octs yes = O at HAll hoc HT1 HT0 HAT
    generalize pl n = P at HP hp8 HSU
    generalize hdW n = hd at HEND HTEST HL1 HSU HZ
    generalize mdW n = md at HEND HTEST
    go_enter Try.func6, Try.ntmps6
    go_wp2_with fail
    refine (HI.out _).mono ?_
    rintro e w1 ⟨rfl, b1⟩
    have HB1 := Lib.hid (below_to BE.out b1 (Nat.le_refl _))
    have HR1 := Lib.hid (RE.out.below b1)
    clear b1 RE BE
    go_wp2_with fail
    refine (HP.out w1).mono ?_
    rintro e w2 ⟨A2, n2, c2, rfl, o2, b2⟩
    obtain rfl : n2 = 8 := by have := o2.length; rw [nl_length, hp8] at this; omega
    have HO1 := Lib.hid o2
    have HB2 := Lib.hid b2
    clear o2 b2
    go_wp2_with fail
    refine (HAll.out w2).mono ?_
    rintro e w3 ⟨A1, n1, c1, rfl, o1, b3⟩
    obtain rfl : n1 = 759 := by have := o1.length; rw [nl_length, hoc] at this; omega
    have T0 := Lib.hid (TriI.swap HR1.out HB1.out HO1.out HB2.out o1 b3)
    clear o1 b3 HI HAll HP HR1 HB1 HO1 HB2
    go_wp2
    go_loopw [4, 7, 8] (fun v u i wr => ∃ k f A cap rs, k ≤ 9 ∧ i = .int .i64 (k : Nat) ∧ u = .int .i64 (f : Nat) ∧ IsHd hd 8 k f ∧ v = .slice A k cap ∧ TriI w wr A k cap rs A1 c1 O A2 c2 P) (fun _ _ i _ => 9 - (intOf i).toNat)
    case atStart => exact ⟨0, 0, _, _, [], Nat.zero_le _, rfl, rfl, fun _ => HZ.out.symm, rfl, T0.out⟩
    case round =>
      obtain ⟨k, f, A, cap, rs, hk, rfl, rfl, hf, rfl, ht⟩ := hrel
      have T := Lib.hid ht
      have hz := ht.below.size
      clear ht T0
      by_cases hlt : k < 9
      · have f0 : decide ((k : Int) ≤ 8) = true := by simp; omega
        have hfk := hf (by omega)
        have hfl := HL1.out k
        rw [← hfk] at hfl
        have RO := Lib.hid (Own.empty wr wr.heap.size wr.heap.size rfl (Nat.le_refl _))
        have RB := Lib.hid ((Below.refl wr.heap.size wr).alloc (Nat.le_refl _) (.cells #[] 3))
        have HFK := Lib.hid hfk
        clear hf hfk
        go_wp2
        go_loopw [9, 10, 11] (fun v u j wr2 => ∃ m s Ar cr, m ≤ k + 1 ∧ j = .int .i64 (m : Nat) ∧ u = .int .i64 (s : Nat) ∧ IsHd hd k m s ∧ v = .slice Ar m cr ∧ Own wr2 wr.heap.size Ar m cr (nl (trowTo k m)) ∧ Below wr.heap.size wr wr2) (fun _ _ j _ => (k + 1) - (intOf j).toNat)
        case atStart => exact ⟨0, 0, _, _, Nat.zero_le _, rfl, rfl, fun _ => HZ.out.symm, rfl, by rw [trowTo_zero]; exact RO.out, RB.out⟩
        case round =>
          obtain ⟨m, s, Ar, cr, hm, rfl, rfl, hs, rfl, hown, hbel⟩ := hrel
          have HO := Lib.hid hown
          have HB := Lib.hid hbel
          have hz2 := hbel.size
          clear hown hbel RO RB
          by_cases hml : m < k + 1
          · have g0 : decide ((m : Int) ≤ (k : Int)) = true := by simp; omega
            have hmk : m ≤ k := by omega
            have hsm := hs hmk
            have hsl := HL1.out m
            have S1 := Lib.hid ((T.out.s1.below HB.out).more hz2)
            have HE := Lib.hid (HEND.out m k (by omega) hmk)
            have HTE := Lib.hid (HTEST.out m k hmk)
            have HSU := Lib.hid (fun (h : m < 8) => HSU.out m h)
            rw [← HFK.out, ← hsm] at HTE
            rw [← hsm] at HE hsl
            rcases Nat.lt_or_ge m k with hmk2 | hmk2
            · have HSU2 := HSU.out (by omega)
              rw [← hsm] at HSU2
              have HSU := Lib.hid (fun (m' : Nat) (_ : m' = m) => HSU2)
              clear HSU2 hsm hs
              generalize md m k = t at HE HTE
              go_wp2
              go_loop [12, 13] (fun c q => ∃ j : Nat, j ≤ 759 ∧ q = .int .i64 j ∧ c = .int .i64 (trn s t j : Nat)) (fun _ q => 759 - (intOf q).toNat)
              case atStart => exact ⟨0, Nat.zero_le _, rfl, by rw [trn_zero]; rfl⟩
              case round =>
                obtain ⟨j, hj, rfl, rfl⟩ := hrel
                by_cases hjl : j < 759
                · have j0 : decide ((j : Int) < 759) = true := by simp; omega
                  obtain ⟨b1, o1, y, rfl, hb1, hy, hc⟩ := S1.out.nat hjl
                  have hyl := HAT.out j y hy
                  have a1 := i64_and y f (by omega) (by omega)
                  have q1 := (int_beq' (y &&& f) s).trans (HTE.out y)
                  have hle := trn_le s t j
                  cases hA : hasf s t y with
                  | false =>
                    have HS := Lib.hid (HT0.out s t j y hy hA)
                    rw [hA] at q1
                    clear hy hA
                    go_wp2
                    go_round
                    case rel => exact ⟨j + 1, by omega, by go_num, by rw [HS.out]⟩
                    case measure => simp [intOf]; omega
                  | true =>
                    have HS := Lib.hid (HT1.out s t j y hy hA)
                    rw [hA] at q1
                    clear hy hA
                    go_wp2
                    go_round
                    case rel => exact ⟨j + 1, by omega, by go_num, by rw [HS.out]; go_num⟩
                    case measure => simp [intOf]; omega
                · obtain rfl : j = 759 := by omega
                  have j0 : decide ((759 : Int) < 759) = false := by decide
                  rw [HE.out]
                  go_wp2_with (at_builtin; refine wl_app _ rfl (.tmp 48) (.tmp 50) rfl _ Ar _ cr (nl (trowTo k m)) _ rfl HO.out rfl (by omega) hz2 ?_)
                  intro Ar2 cr2 w5 hown5 hb5
                  have HO5 := Lib.hid hown5
                  have HB5 := Lib.hid (HB.out.trans hb5)
                  clear hown5 hb5
                  obtain ⟨b2, o2, e2, hb2, hc2⟩ := (T.out.s2.below HB5.out).nats (by decide)
                  obtain rfl := e2
                  have hcell := hc2 m (by omega)
                  obtain ⟨hp24, hps⟩ := HSU.out m rfl
                  generalize P.getD m 0 = p at hcell hp24 hps
                  have hplus := i64_plus2 s p hsl hp24
                  have HPS := Lib.hid hps
                  clear hc2 hps
                  have p0 : (0 : Int) ≤ (p : Int) := by omega
                  have pm : decide ((m : Int) < (k : Int)) = true := by simp; omega
                  go_wp2
                  go_roundw
                  case rel =>
                    refine ⟨m + 1, s + 1 <<< p, Ar2, cr2, by omega, by go_num, int_eq hplus, fun _ => HPS.out.symm, by simp, ?_, HB5.out⟩
                    have h := HO5.out
                    rw [trowTo_succ, nl_append]
                    exact h
                  case measure => simp [intOf]; omega
            · obtain rfl : m = k := by omega
              clear hsm hs HSU
              generalize md m m = t at HE HTE
              go_wp2
              go_loop [12, 13] (fun c q => ∃ j : Nat, j ≤ 759 ∧ q = .int .i64 j ∧ c = .int .i64 (trn s t j : Nat)) (fun _ q => 759 - (intOf q).toNat)
              case atStart => exact ⟨0, Nat.zero_le _, rfl, by rw [trn_zero]; rfl⟩
              case round =>
                obtain ⟨j, hj, rfl, rfl⟩ := hrel
                by_cases hjl : j < 759
                · have j0 : decide ((j : Int) < 759) = true := by simp; omega
                  obtain ⟨b1, o1, y, rfl, hb1, hy, hc⟩ := S1.out.nat hjl
                  have hyl := HAT.out j y hy
                  have a1 := i64_and y f (by omega) (by omega)
                  have q1 := (int_beq' (y &&& f) s).trans (HTE.out y)
                  have hle := trn_le s t j
                  cases hA : hasf s t y with
                  | false =>
                    have HS := Lib.hid (HT0.out s t j y hy hA)
                    rw [hA] at q1
                    clear hy hA
                    go_wp2
                    go_round
                    case rel => exact ⟨j + 1, by omega, by go_num, by rw [HS.out]⟩
                    case measure => simp [intOf]; omega
                  | true =>
                    have HS := Lib.hid (HT1.out s t j y hy hA)
                    rw [hA] at q1
                    clear hy hA
                    go_wp2
                    go_round
                    case rel => exact ⟨j + 1, by omega, by go_num, by rw [HS.out]; go_num⟩
                    case measure => simp [intOf]; omega
                · obtain rfl : j = 759 := by omega
                  have j0 : decide ((759 : Int) < 759) = false := by decide
                  rw [HE.out]
                  go_wp2_with (at_builtin; refine wl_app _ rfl (.tmp 48) (.tmp 50) rfl _ Ar _ cr (nl (trowTo m m)) _ rfl HO.out rfl (by omega) hz2 ?_)
                  intro Ar2 cr2 w5 hown5 hb5
                  have HO5 := Lib.hid hown5
                  have HB5 := Lib.hid (HB.out.trans hb5)
                  clear hown5 hb5
                  have pm : decide ((m : Int) < (m : Int)) = false := by simp
                  go_wp2
                  go_roundw
                  case rel =>
                    refine ⟨m + 1, s, Ar2, cr2, by omega, by go_num, by simp, fun h => absurd h (by omega), by simp, ?_, HB5.out⟩
                    have h := HO5.out
                    rw [trowTo_succ, nl_append, Nat.sub_self]
                    exact h
                  case measure => simp [intOf]
          · obtain rfl : m = k + 1 := by omega
            have g0 : decide ((k : Int) + 1 ≤ (k : Int)) = false := by simp; omega
            have HO2 := Lib.hid (show Own wr _ Ar (k + 1) cr (triF k) from by rw [triF, ← trowTo_all]; exact HO.out)
            clear hs
            go_wp2_with (at_builtin; refine wl_rows _ wr rfl (.tmp 62) (.tmp 64) rfl w.heap.size A k cap rs triF T.out.rows HB.out Ar (k + 1) cr HO2.out rfl rfl (by omega) hz ?_)
            intro A5 cap5 w5 hr5 hk5 hb5
            have T5 := Lib.hid (T.out.next hr5 hk5 hb5)
            clear hr5 hk5 hb5
            rcases Nat.lt_or_ge k 8 with hk8 | hk8
            · obtain ⟨b2, o2, rfl, hb2, hc2⟩ := T5.out.s2.nats (by decide)
              have hcell := hc2 k hk8
              obtain ⟨hp24, hps⟩ := HSU.out k hk8
              rw [← HFK.out] at hps
              generalize P.getD k 0 = p at hcell hp24 hps
              have hplus := i64_plus2 f p hfl hp24
              have HPS := Lib.hid hps
              have p0 : (0 : Int) ≤ (p : Int) := by omega
              have pm : decide ((k : Int) < 8) = true := by simp; omega
              clear hc2 hps
              go_wp2
              go_roundw
              case rel => exact ⟨k + 1, f + 1 <<< p, A5, cap5, _, by omega, by go_num, int_eq hplus, fun _ => HPS.out.symm, by simp, T5.out⟩
              case measure => simp [intOf]; omega
            · obtain rfl : k = 8 := by omega
              have pm : decide ((8 : Int) < 8) = false := by decide
              go_wp2
              go_roundw
              case rel => exact ⟨9, f, A5, cap5, _, by omega, by go_num, by simp, fun h => absurd h (by decide), by simp, T5.out⟩
              case measure => simp [intOf]
      · obtain rfl : k = 9 := by omega
        have HR := Lib.hid T.out.rows
        have HB := Lib.hid T.out.below
        clear hf
        go_wp2
        go_ret2
        exact ⟨A, cap, rs, rfl, HR.out, HB.out⟩
end Go.Proofs.Ytmboaaopmjmdnaa
