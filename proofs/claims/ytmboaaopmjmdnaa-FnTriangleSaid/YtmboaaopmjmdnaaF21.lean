/- The triangle of an octad: impl. -/
import Derived.Test.YtmboaaopmjmdnaaC9
import Derived.Test.YtmboaaopmjmdnaaC10
import Derived.Test.YtmboaaopmjmdnaaA6
import Derived.Test.YtmboaaopmjmdnaaM18
import Derived.Test.YtmboaaopmjmdnaaB7
namespace Go.Proofs.Ytmboaaopmjmdnaa
open Go.RowKit

/-- What 'OctadTriangle' makes: so many rows, and which. -/
def tn (ok : Bool) : Nat := match ok with | true => 9 | false => 0
def triF (i : Nat) : List Int := nl (trow i)
theorem triF_len (i : Nat) : (triF i).length = i + 1 := by unfold triF; rw [nl_length, trow_len]
def MakesT (ok : Bool) (w : World) (e : Ending) (w' : World) : Prop := ∃ A cap rs, e = .returned (.tuple #[.slice A (tn ok) cap, .bool ok]) ∧ Rows w' w.heap.size A (tn ok) cap rs triF ∧ Below w.heap.size w w'

/-- The octads among the first q that have all of s and nothing of t. -/
def trn (s t q : Nat) : Nat := (okTo (hasf s t) q).length
theorem trn_zero (s t : Nat) : trn s t 0 = 0 := rfl
theorem trn_yes {s t q x : Nat} (h : (octs yes)[q]? = some x) (hf : hasf s t x = true) : trn s t (q + 1) = trn s t q + 1 := by unfold trn; rw [okTo_yes h hf]; simp
theorem trn_no {s t q x : Nat} (h : (octs yes)[q]? = some x) (hf : hasf s t x = false) : trn s t (q + 1) = trn s t q := by unfold trn; rw [okTo_no h hf]
theorem trn_all (s t : Nat) : trn s t 759 = cnt s t := by unfold trn cnt; rw [okTo_all]
theorem trn_le (s t q : Nat) : trn s t q ≤ q := okTo_len _ _
attribute [irreducible] trn
theorem iWord_is {B : Nat} {A : Option Addr} {n cap : Nat} {a : Nat} {l : List Int} (hw : wordOf l = some a) (w : World) (h : Sl w B A n cap l) (hn : n ≤ 1048576) :
    Calls Try.prog 13 #[.slice A n cap] w fun e w' => e = .returned (.tuple #[.int .i64 (a : Nat), .bool true]) ∧ w = w' := by
  have := iWordOf B A n cap l w h hn
  rw [hw] at this
  exact this

/-- What stands at the head of each outer round. -/
structure TriI (w wr : World) (A : Option Addr) (k cap : Nat) (rs : List Sh) (A1 : Option Addr) (c1 : Nat) (O : List Nat) (A2 : Option Addr) (c2 : Nat) (P : List Nat) : Prop where
  rows : Rows wr w.heap.size A k cap rs triF
  s1 : Sl wr wr.heap.size A1 759 c1 (nl O)
  f1 : Far A A1 759
  s2 : Sl wr wr.heap.size A2 8 c2 (nl P)
  f2 : Far A A2 8
  below : Below w.heap.size w wr
theorem TriI.next {w wr w' : World} {A A' : Option Addr} {k cap cap' : Nat} {rs rs' : List Sh} {A1 : Option Addr} {c1 : Nat} {O : List Nat} {A2 : Option Addr} {c2 : Nat} {P : List Nat}
    (h : TriI w wr A k cap rs A1 c1 O A2 c2 P) (hR : Rows w' w.heap.size A' (k + 1) cap' rs' triF) (hK : Kept wr w' A A') (hb : Below w.heap.size wr w') : TriI w w' A' (k + 1) cap' rs' A1 c1 O A2 c2 P :=
  ⟨hR, (hK _ _ _ _ h.s1 h.f1).1, (hK _ _ _ _ h.s1 h.f1).2, (hK _ _ _ _ h.s2 h.f2).1, (hK _ _ _ _ h.s2 h.f2).2, h.below.trans hb⟩
theorem TriI.start {w w1 w2 w3 : World} {A : Option Addr} {cap : Nat} {rs : List Sh} {A1 : Option Addr} {c1 : Nat} {O : List Nat} {A2 : Option Addr} {c2 : Nat} {P : List Nat}
    (hR : Rows w1 w.heap.size A 0 cap rs triF) (hb : Below w.heap.size w w1) (h1 : Own w2 w1.heap.size A1 759 c1 (nl O)) (b2 : Below w1.heap.size w1 w2) (h2 : Own w3 w2.heap.size A2 8 c2 (nl P)) (b3 : Below w2.heap.size w2 w3) : TriI w w3 A 0 cap rs A1 c1 O A2 c2 P := by
  have hz1 := hb.size
  have hz2 := b2.size
  refine ⟨(hR.below b2).below b3, (h1.below b3 (Nat.le_refl _)).sl, fun _ x y hx hy => ?_, h2.sl, fun _ x y hx hy => ?_, below_to (below_to hb b2 (Nat.le_refl _)) b3 (Nat.le_refl _)⟩
  · have e1 := hR.at_lt x hx
    have e2 := h1.at_base y hy
    omega
  · have e1 := hR.at_lt x hx
    have e2 := h2.at_base y hy
    omega

set_option maxRecDepth 100000 in
set_option maxHeartbeats 2000000 in
theorem iOctadTriangle (x : Int) (w : World) :
    Calls Try.prog 5 #[.int .i64 x] w (MakesT (octZ x) w) := by
  have RE := Lib.hid (Rows.empty w w.heap.size w.heap.size triF rfl (Nat.le_refl _))
  have BE := Lib.hid ((Below.refl w.heap.size w).alloc (Nat.le_refl _) (.cells #[] 28))
  cases hv : octZ x with
  | false =>
    have HI := Lib.hid (fun W => iOct_is x _ hv W)
    clear hv
    go_enter Try.func5, Try.ntmps5
    go_wp2_with fail
    refine (HI.out _).mono ?_
    rintro e w1 ⟨rfl, b1⟩
    have HB := Lib.hid (below_to BE.out b1 (Nat.le_refl _))
    have HR := Lib.hid (RE.out.below b1)
    clear b1
    go_wp2
    go_ret2
    exact ⟨_, _, [], rfl, HR.out, HB.out⟩
  | true =>
    have HI := Lib.hid (fun W => iOct_is x _ hv W)
    obtain ⟨n, rfl, ho⟩ := octZ_yes hv
    have hn := oct_lt ho
    have HAll := Lib.hid (fun W => ioctadsWith 0 W (by decide))
    have hyes : hasf 0 0 = yes := by funext z; simp [hasf, yes]
    rw [hyes] at HAll
    have hoc := oct_count
    have HP := Lib.hid (fun W => placesOf_any n W hn)
    have hp8 : (pl n).length = 8 := by rw [pl_len]; exact ho.2
    have HT1 := Lib.hid (fun (s t q y : Nat) (h : (octs yes)[q]? = some y) => trn_yes (s := s) (t := t) h)
    have HT0 := Lib.hid (fun (s t q y : Nat) (h : (octs yes)[q]? = some y) => trn_no (s := s) (t := t) h)
    have HAT := Lib.hid (fun (k a : Nat) (ha : (octs yes)[k]? = some a) => oct_lt (oct_at ha))
    have HEND := Lib.hid (fun (k i : Nat) (hi : i ≤ 8) (hk : k ≤ i) => (trn_all (hdW n k) (mdW n k i)).trans (tri_cnt ho hi hk))
    have HW1 := Lib.hid (hdW_word n)
    have HW2 := Lib.hid (mdW_word n)
    have HL1 := Lib.hid (hdW_lt n)
    have HL2 := Lib.hid (mdW_lt n)
    clear hv hyes ho
    generalize octs yes = O at HAll hoc HT1 HT0 HAT
    generalize pl n = P at HP hp8 HW1 HW2
    generalize hdW n = hd at HEND HW1 HL1
    generalize mdW n = md at HEND HW2 HL2
    go_enter Try.func5, Try.ntmps5
    go_wp2_with fail
    refine (HI.out _).mono ?_
    rintro e w1 ⟨rfl, b1⟩
    have HB1 := Lib.hid (below_to BE.out b1 (Nat.le_refl _))
    have HR1 := Lib.hid (RE.out.below b1)
    clear b1 RE BE
    go_wp2_with fail
    refine (HAll.out w1).mono ?_
    rintro e w2 ⟨A1, n1, c1, rfl, o1, b2⟩
    obtain rfl : n1 = 759 := by have := o1.length; rw [nl_length, hoc] at this; omega
    have HO1 := Lib.hid o1
    have HB2 := Lib.hid b2
    clear o1 b2
    go_wp2_with fail
    refine (HP.out w2).mono ?_
    rintro e w3 ⟨A2, n2, c2, rfl, o2, b3⟩
    obtain rfl : n2 = 8 := by have := o2.length; rw [nl_length, hp8] at this; omega
    have T0 := Lib.hid (TriI.start HR1.out HB1.out HO1.out HB2.out o2 b3)
    clear o2 b3 HI HAll HP HR1 HB1 HO1 HB2
    go_wp2
    go_loopw [4, 25] (fun v i wr => ∃ k A cap rs, k ≤ 9 ∧ i = .int .i64 (k : Nat) ∧ v = .slice A k cap ∧ TriI w wr A k cap rs A1 c1 O A2 c2 P) (fun _ i _ => 9 - (intOf i).toNat)
    case atStart => exact ⟨0, _, _, [], Nat.zero_le _, rfl, rfl, T0.out⟩
    case round =>
      obtain ⟨k, A, cap, rs, hk, rfl, rfl, ht⟩ := hrel
      have T := Lib.hid ht
      have hz := ht.below.size
      clear ht T0
      by_cases hlt : k < 9
      · have f0 : decide ((k : Int) < 9) = true := by simp; omega
        have RO := Lib.hid (Own.empty wr wr.heap.size wr.heap.size rfl (Nat.le_refl _))
        have RB := Lib.hid ((Below.refl wr.heap.size wr).alloc (Nat.le_refl _) (.cells #[] 3))
        go_wp2
        go_loopw [8, 31] (fun v j wr2 => ∃ m Ar cr, m ≤ k + 1 ∧ j = .int .i64 (m : Nat) ∧ v = .slice Ar m cr ∧ Own wr2 wr.heap.size Ar m cr (nl (trowTo k m)) ∧ Below wr.heap.size wr wr2) (fun _ j _ => (k + 1) - (intOf j).toNat)
        case atStart => exact ⟨0, _, _, Nat.zero_le _, rfl, rfl, by rw [trowTo_zero]; exact RO.out, RB.out⟩
        case round =>
          obtain ⟨m, Ar, cr, hm, rfl, rfl, hown, hbel⟩ := hrel
          have HO := Lib.hid hown
          have HB := Lib.hid hbel
          have hz2 := hbel.size
          clear hown hbel RO RB
          by_cases hml : m < k + 1
          · have g0 : decide ((m : Int) < (k : Int) + 1) = true := by simp; omega
            have hmk : m ≤ k := by omega
            have S1 := Lib.hid ((T.out.s1.below HB.out).more hz2)
            have S2 := (T.out.s2.below HB.out).more hz2
            have hc8 := S2.le
            have hmax := S2.max
            obtain ⟨b, o, rfl, hb, -⟩ := S2.nats (by decide)
            have SA : Sl wr wr.heap.size (some ⟨b, o, none⟩) m c2 (nl (P.take m)) := by
              have h := S2.part 0 m c2 (by omega) (by omega) hmax
              rw [List.drop_zero, Nat.add_zero] at h
              unfold nl at h ⊢
              rwa [← List.map_take] at h
            have HWA := Lib.hid (iWord_is (HW1.out m) _ SA (by omega))
            have HE := Lib.hid (HEND.out m k (by omega) hmk)
            have hsl := HL1.out m
            have htl := HL2.out m k
            have hWB := HW2.out m k
            have m0 : (m : Int) ≤ (k : Int) := by omega
            have m1 : m ≤ c2 := by omega
            have m2 : k ≤ c2 := by omega
            by_cases hcm : c2 = m
            · obtain rfl : m = k := by omega
              subst c2
              have HWB := Lib.hid (iWord_is (A := some ⟨b, o, none⟩) (n := 0) (cap := 0) hWB wr (B := wr.heap.size) ⟨by rw [Nat.sub_self]; rfl, Nat.le_refl _, by unfold maxLen; omega, fun h => absurd h (by decide)⟩ (by omega))
              clear hWB SA S2
              generalize hd m = s at HWA HE hsl
              generalize md m m = t at HWB HE htl
              go_wp2_with fail
              refine (HWA.out).mono ?_
              rintro e w' ⟨rfl, rfl⟩
              go_wp2_with fail
              refine (HWB.out).mono ?_
              rintro e w' ⟨rfl, rfl⟩
              go_wp2
              go_loop [14, 51] (fun c q => ∃ j : Nat, j ≤ 759 ∧ q = .int .i64 j ∧ c = .int .i64 (trn s t j : Nat)) (fun _ q => 759 - (intOf q).toNat)
              case atStart => exact ⟨0, Nat.zero_le _, rfl, by rw [trn_zero]; rfl⟩
              case round =>
                obtain ⟨j, hj, rfl, rfl⟩ := hrel
                by_cases hjl : j < 759
                · have j0 : decide ((j : Int) < 759) = true := by simp; omega
                  obtain ⟨b1, o1, y, rfl, hb1, hy, hc⟩ := S1.out.nat hjl
                  have hyl := HAT.out j y hy
                  have a1 := i64_and y s (by omega) (by omega)
                  have a2 := i64_and y t (by omega) (by omega)
                  have q1 := int_beq' (y &&& s) s
                  have q2 : (((y &&& t : Nat) : Int) == 0) = (y &&& t == 0) := int_beq' (y &&& t) 0
                  have hle := trn_le s t j
                  cases hA : (y &&& s == s) with
                  | false =>
                    have HS := Lib.hid (HT0.out s t j y hy (by unfold hasf; rw [hA]; rfl))
                    rw [hA] at q1
                    clear hy hA q2
                    go_wp2
                    go_round
                    case rel => exact ⟨j + 1, by omega, by go_num, by rw [HS.out]⟩
                    case measure => simp [intOf]; omega
                  | true =>
                    rw [hA] at q1
                    cases hC : (y &&& t == 0) with
                    | false =>
                      have HS := Lib.hid (HT0.out s t j y hy (by unfold hasf; rw [hA, hC]; rfl))
                      rw [hC] at q2
                      clear hy hA hC
                      go_wp2
                      go_round
                      case rel => exact ⟨j + 1, by omega, by go_num, by rw [HS.out]⟩
                      case measure => simp [intOf]; omega
                    | true =>
                      have HS := Lib.hid (HT1.out s t j y hy (by unfold hasf; rw [hA, hC]; rfl))
                      rw [hC] at q2
                      clear hy hA hC
                      go_wp2
                      go_round
                      case rel => exact ⟨j + 1, by omega, by go_num, by rw [HS.out]; go_num⟩
                      case measure => simp [intOf]; omega
                · obtain rfl : j = 759 := by omega
                  have j0 : decide ((759 : Int) < 759) = false := by decide
                  rw [HE.out]
                  go_wp2_with (at_builtin; refine wl_app _ rfl (.tmp 69) (.tmp 71) rfl _ Ar _ cr (nl (trowTo m m)) _ rfl HO.out rfl (by omega) hz2 ?_)
                  intro Ar2 cr2 w5 hown5 hb5
                  have HO5 := Lib.hid hown5
                  have HB5 := Lib.hid (HB.out.trans hb5)
                  clear hown5 hb5
                  go_wp2
                  go_roundw
                  case rel =>
                    refine ⟨m + 1, Ar2, cr2, by omega, by go_num, by simp, ?_, HB5.out⟩
                    have h := HO5.out
                    rw [trowTo_succ, nl_append, Nat.sub_self]
                    exact h
                  case measure => simp [intOf]
            · have hcm2 : ¬ m = c2 := fun h => hcm h.symm
              have SB : Sl wr wr.heap.size (some ⟨b, o + m, none⟩) (k - m) (c2 - m) (nl ((P.drop m).take (k - m))) := by
                have h := S2.part m (k - m) (c2 - m) (by omega) (by omega) (by omega)
                unfold nl at h ⊢
                rwa [← List.map_drop, ← List.map_take] at h
              have HWB := Lib.hid (iWord_is hWB _ SB (by omega))
              clear hWB SA SB S2
              generalize hd m = s at HWA HE hsl
              generalize md m k = t at HWB HE htl
              go_wp2_with fail
              refine (HWA.out).mono ?_
              rintro e w' ⟨rfl, rfl⟩
              go_wp2_with fail
              refine (HWB.out).mono ?_
              rintro e w' ⟨rfl, rfl⟩
              go_wp2
              go_loop [14, 51] (fun c q => ∃ j : Nat, j ≤ 759 ∧ q = .int .i64 j ∧ c = .int .i64 (trn s t j : Nat)) (fun _ q => 759 - (intOf q).toNat)
              case atStart => exact ⟨0, Nat.zero_le _, rfl, by rw [trn_zero]; rfl⟩
              case round =>
                obtain ⟨j, hj, rfl, rfl⟩ := hrel
                by_cases hjl : j < 759
                · have j0 : decide ((j : Int) < 759) = true := by simp; omega
                  obtain ⟨b1, o1, y, rfl, hb1, hy, hc⟩ := S1.out.nat hjl
                  have hyl := HAT.out j y hy
                  have a1 := i64_and y s (by omega) (by omega)
                  have a2 := i64_and y t (by omega) (by omega)
                  have q1 := int_beq' (y &&& s) s
                  have q2 : (((y &&& t : Nat) : Int) == 0) = (y &&& t == 0) := int_beq' (y &&& t) 0
                  have hle := trn_le s t j
                  cases hA : (y &&& s == s) with
                  | false =>
                    have HS := Lib.hid (HT0.out s t j y hy (by unfold hasf; rw [hA]; rfl))
                    rw [hA] at q1
                    clear hy hA q2
                    go_wp2
                    go_round
                    case rel => exact ⟨j + 1, by omega, by go_num, by rw [HS.out]⟩
                    case measure => simp [intOf]; omega
                  | true =>
                    rw [hA] at q1
                    cases hC : (y &&& t == 0) with
                    | false =>
                      have HS := Lib.hid (HT0.out s t j y hy (by unfold hasf; rw [hA, hC]; rfl))
                      rw [hC] at q2
                      clear hy hA hC
                      go_wp2
                      go_round
                      case rel => exact ⟨j + 1, by omega, by go_num, by rw [HS.out]⟩
                      case measure => simp [intOf]; omega
                    | true =>
                      have HS := Lib.hid (HT1.out s t j y hy (by unfold hasf; rw [hA, hC]; rfl))
                      rw [hC] at q2
                      clear hy hA hC
                      go_wp2
                      go_round
                      case rel => exact ⟨j + 1, by omega, by go_num, by rw [HS.out]; go_num⟩
                      case measure => simp [intOf]; omega
                · obtain rfl : j = 759 := by omega
                  have j0 : decide ((759 : Int) < 759) = false := by decide
                  rw [HE.out]
                  go_wp2_with (at_builtin; refine wl_app _ rfl (.tmp 69) (.tmp 71) rfl _ Ar _ cr (nl (trowTo k m)) _ rfl HO.out rfl (by omega) hz2 ?_)
                  intro Ar2 cr2 w5 hown5 hb5
                  have HO5 := Lib.hid hown5
                  have HB5 := Lib.hid (HB.out.trans hb5)
                  clear hown5 hb5
                  go_wp2
                  go_roundw
                  case rel =>
                    refine ⟨m + 1, Ar2, cr2, by omega, by go_num, by simp, ?_, HB5.out⟩
                    have h := HO5.out
                    rw [trowTo_succ, nl_append]
                    exact h
                  case measure => simp [intOf]; omega
          · obtain rfl : m = k + 1 := by omega
            have g0 : decide ((k : Int) + 1 < (k : Int) + 1) = false := by simp
            have HO2 := Lib.hid (show Own wr _ Ar (k + 1) cr (triF k) from by rw [triF, ← trowTo_all]; exact HO.out)
            go_wp2_with (at_builtin; refine wl_rows _ wr rfl (.tmp 74) (.tmp 76) rfl w.heap.size A k cap rs triF T.out.rows HB.out Ar (k + 1) cr HO2.out rfl rfl (by omega) hz ?_)
            intro A5 cap5 w5 hr5 hk5 hb5
            have T5 := Lib.hid (T.out.next hr5 hk5 hb5)
            clear hr5 hk5 hb5
            go_wp2
            go_roundw
            case rel => exact ⟨k + 1, A5, cap5, _, by omega, by go_num, by simp, T5.out⟩
            case measure => simp [intOf]; omega
      · obtain rfl : k = 9 := by omega
        have HR := Lib.hid T.out.rows
        have HB := Lib.hid T.out.below
        go_wp2
        go_ret2
        exact ⟨A, cap, rs, rfl, HR.out, HB.out⟩
end Go.Proofs.Ytmboaaopmjmdnaa
