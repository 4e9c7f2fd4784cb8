import Derived.Test.YtbpgaphcpgfafaaH1
import Derived.Test.YtbpgaphcpgfafaaG2
import Derived.Test.YtbpgaphcpgfafaaF4
import Derived.Test.YtbpgaphcpgfafaaM15
import Derived.Test.YtbpgaphcpgfafaaB5
import Derived.Test.YtbpgaphcpgfafaaC10
import Derived.Test.YtbpgaphcpgfafaaG0
namespace Go.Proofs.Ytbpgaphcpgfafaa
open Go.RowKit

theorem seen_bits (L : List Nat) (h : ∀ k y : Nat, L[k]? = some y → y < 16777216) (k : Nat) : orL L k < 16777216 := orL_lt (fun y hy => by
  obtain ⟨j, hj⟩ := List.mem_iff_getElem?.1 hy
  exact h j y hj) k

set_option maxRecDepth 100000 in
set_option maxHeartbeats 1000000 in
theorem lawFnSextet (A : Option Addr) (n cap : Nat) (zs : List Int) (w : World) (h : IsRow .u8 w A n cap zs) :
    Calls Try.prog 10 #[.slice A n cap] w fun e w' => e = .returned (.bool true) ∧ Below w.heap.size w w' := by
  have H := Lib.hid h
  clear h
  by_cases hn : n ≤ 1048576
  · have e1 : decide ((1048576 : Int) < (n : Int)) = false := by simp; omega
    go_enter Try.func10, Try.ntmps10
    go_wp2_with fail
    refine (dSextetOf A n cap zs w H.out hn).mono ?_
    rintro e w1 ⟨x, rfl, b1⟩
    have HI := Lib.hid (iSextetOf x w1)
    have HS := Lib.hid (fun W (_ : Below w1.heap.size w1 W) => sSextetOf x W)
    have hl6 := sx_len x
    cases hv : tetZ x with
    | false =>
      rw [hv] at HI HS
      clear hv
      generalize nl (sxR x) = R at HI HS hl6
      go_wp2_with fail
      refine HI.out.mono ?_
      rintro e w2 ⟨A2, n2, c2, rfl, o2, b2⟩
      go_wp2_with fail
      refine (HS.out w2 b2).mono ?_
      rintro e w3 ⟨A3, n3, c3, rfl, o3, b3⟩
      have hn2 : n2 ≤ 1048576 := by have := o2.length; omega
      have S2 := (o2.below b3 (Nat.le_refl _)).sl
      have HB3 := below_to (below_to b1 b2 (Nat.le_refl _)) b3 (Nat.le_refl _)
      go_wp2_with fail
      refine (sameInts w3.heap.size A2 A3 n2 n3 c2 c3 _ _ w3 S2 o3.sl hn2).mono ?_
      rw [decide_eq_true rfl]
      rintro e w4 ⟨rfl, b4⟩
      go_wp2_with fail
      refine (sameInts w4.heap.size A2 A3 n2 n3 c2 c3 _ _ w4 ((S2.below b4).more b4.size) ((o3.sl.below b4).more b4.size) hn2).mono ?_
      rw [decide_eq_true rfl]
      rintro e w5 ⟨rfl, b5⟩
      have HB := Lib.hid (below_to (below_to HB3 b4 (Nat.le_refl _)) b5 (Nat.le_refl _))
      clear b1 b2 b3 b4 b5 o2 o3 S2 HB3
      go_wp2
      go_ret
      exact ⟨rfl, HB.out⟩
    | true =>
      rw [hv] at HI HS
      obtain ⟨t, rfl, ht, h4⟩ := tetZ_nat hv
      rw [(sx_yes ht h4).2] at HI HS hl6
      have HF := Lib.hid (fun (k y : Nat) (hy : (sext t)[k]? = some y) => And.intro (sext_at ht h4 hy) (And.intro (sext_new ht h4 hy) (And.intro (orL_succ hy) (hasT_succ (t := t) hy))))
      have HP := Lib.hid (fun (k y z : Nat) (hk : 0 < k) (hy : (sext t)[k]? = some y) (hz : (sext t)[k - 1]? = some z) => asc_at (sext_asc t) (show k - 1 < k by omega) hz hy)
      have HO := Lib.hid (fun (k y z : Nat) (hk : 0 < k) (hy : (sext t)[k]? = some y) (hz : (sext t)[0]? = some z) W => iOct_is ((y ^^^ z : Nat) : Int) true (by have ho := sext_oct0 ht h4 hy hz hk; rw [octZ_nat _ (oct_lt ho)]; exact (isOct_iff (oct_lt ho)).2 ho) W)
      have HFULL := Lib.hid (sext_full ht h4)
      have HFOUND := Lib.hid (sext_found ht h4)
      have HX5 := Lib.hid (fun (k y : Nat) (hy : (sext t)[k]? = some y) W => iSextetOf (y : Int) W)
      have HE5 := Lib.hid (fun (k y : Nat) (hy : (sext t)[k]? = some y) => And.intro (sx_yes (sext_at ht h4 hy).1 (sext_at ht h4 hy).2.1).1 ((sx_yes (sext_at ht h4 hy).1 (sext_at ht h4 hy).2.1).2.trans (sext_at ht h4 hy).2.2))
      have hlen := sext_len ht h4
      have HSB := Lib.hid (seen_bits (sext t) (fun k y hy => (sext_at ht h4 hy).1))
      have htl := ht
      clear hv ht h4
      generalize sext t = L at HI HS hl6 HF HP HO HFULL HFOUND HX5 HE5 hlen HSB
      go_wp2_with fail
      refine HI.out.mono ?_
      rintro e w2 ⟨A2, n2, c2, rfl, o2, b2⟩
      go_wp2_with fail
      refine (HS.out w2 b2).mono ?_
      rintro e w3 ⟨A3, n3, c3, rfl, o3, b3⟩
      have hn2 : n2 ≤ 1048576 := by have := o2.length; omega
      have S2 := (o2.below b3 (Nat.le_refl _)).sl
      have HB3 := below_to (below_to b1 b2 (Nat.le_refl _)) b3 (Nat.le_refl _)
      go_wp2_with fail
      refine (sameInts w3.heap.size A2 A3 n2 n3 c2 c3 _ _ w3 S2 o3.sl hn2).mono ?_
      rw [decide_eq_true rfl]
      rintro e w4 ⟨rfl, b4⟩
      have B4 := Lib.hid (below_to HB3 b4 (Nat.le_refl _))
      obtain rfl : n2 = 6 := by have := o2.length; rw [nl_length, hlen] at this; omega
      have T2 := Lib.hid ((S2.below b4).more b4.size)
      clear b1 b2 b3 b4 o2 o3 S2 HB3 HI HS hl6
      go_wp2
      go_loopw [8, 9, 10] (fun sv fv iv wr => ∃ k : Nat, k ≤ 6 ∧ iv = .int .i64 k ∧ sv = .int .i64 (orL L k : Nat) ∧ fv = .bool (hasT L t k) ∧ Below w.heap.size w wr ∧ Sl wr wr.heap.size A2 6 c2 (nl L)) (fun _ _ iv _ => 6 - (intOf iv).toNat)
      case atStart => exact ⟨0, Nat.zero_le _, rfl, rfl, rfl, B4.out, T2.out⟩
      case round =>
        obtain ⟨k, hk, rfl, rfl, rfl, hb, hs⟩ := hrel
        have B := Lib.hid hb
        have S := Lib.hid hs
        clear hb hs
        have hsl := HSB.out k
        by_cases hlt : k < 6
        · obtain ⟨bb, o, y, rfl, hbl, hy, hc⟩ := S.out.nat hlt
          obtain ⟨⟨hyl, hy4, -⟩, hnew, hor, hhas⟩ := HF.out k y hy
          have HOR := Lib.hid hor
          have HHAS := Lib.hid hhas
          have HW := Lib.hid (fun W => iWordWeight y W hyl)
          rw [hy4] at HW
          have hand := i64_and (orL L k) y (by omega) (by omega)
          rw [hnew] at hand
          have hand' : bits .and .i64 (orL L k : Int) (y : Int) = 0 := hand
          have hor2 := i64_or (orL L k) y (by omega) (by omega)
          have hbq := int_beq' y t
          have hcw : ∀ w2, Grown wr w2 → w2.cell? ⟨bb, o + k, none⟩ = some (.int .i64 (y : Nat)) := fun w2 b => b.cell hbl hc
          have hbw : ∀ w2, Grown wr w2 → Below w.heap.size w w2 ∧ Sl w2 w2.heap.size (some ⟨bb, o, none⟩) 6 c2 (nl L) := fun w2 b => ⟨b.below B.out, b.sl S.out⟩
          have i0 : (0 : Int) ≤ (k : Int) := by omega
          have i1 : (k : Int) < 6 := by omega
          clear hand hnew hy4 hor hhas
          by_cases hk0 : k = 0
          · subst hk0
            rw [Nat.add_zero] at hc hcw
            clear hy
            go_wp2_with fail
            refine region_class (Grown wr) (by kernel_rfl) (by kernel_rfl) (Grown.drew _) ?_
            repeat (refine WQ_step (fun K hK => ?_); go_simp; first | (refine hK _ ?_; clear hK K) | (apply Exists.intro; refine ⟨fun w2 hw2 => ?_, hK _ ?_⟩; (first | (with_reducible rfl) | (rw [hcw w2 hw2]; exact ⟨rfl, rfl⟩) | (exact hw2.same (HW.out _))); clear hK K))
            refine WQ_nil ?_
            intro w5 hw5
            have F5 := Lib.hid (hbw w5 hw5)
            have d1 := hcw w5 hw5
            clear hcw hbw hw5 hc
            generalize (y == t) = v at hbq HHAS
            cases hh : hasT L t 0
            all_goals
              rw [hh] at HHAS
              cases v
              all_goals
                go_wp2
                go_roundw
                case rel => exact ⟨1, by decide, by go_num, int_eq (by rw [HOR.out]), by rw [HHAS.out]; rfl, F5.out.1, F5.out.2⟩
                case measure => simp [intOf]
          · obtain ⟨bb', o', z, e', hbl', hz, hcz⟩ := S.out.nat (k := k - 1) (by omega)
            injection e' with e'
            injection e' with e1 e2
            subst e1
            subst e2
            obtain ⟨bb', o', u, e', hbl'', hu, hcu⟩ := S.out.nat (k := 0) (by decide)
            injection e' with e'
            injection e' with e1 e2
            subst e1
            subst e2
            have hzy := HP.out k y z (by omega) hy hz
            have HOx := Lib.hid (HO.out k y u (by omega) hy hu)
            have hul := (HF.out 0 u hu).1.1
            have hxor := i64_xor y u (by omega) (by omega)
            rw [Nat.add_zero] at hcu
            have g1 : decide ((0 : Int) < (k : Int)) = true := by simp; omega
            have g3 : 0 < k := by omega
            have g2 : decide ((y : Int) ≤ (z : Int)) = false := by simp; omega
            have g4 : ¬ y ≤ z := by omega
            have hcv : ∀ w2, Grown wr w2 → w2.cell? ⟨bb, o + (k - 1), none⟩ = some (.int .i64 (z : Nat)) := fun w2 b => b.cell hbl hcz
            have hcx : ∀ w2, Grown wr w2 → w2.cell? ⟨bb, o, none⟩ = some (.int .i64 (u : Nat)) := fun w2 b => b.cell hbl hcu
            have j0 : (0 : Int) ≤ (k : Int) - 1 := by omega
            have j1 : (k : Int) - 1 < 6 := by omega
            have j2 : ((k : Int) - 1).toNat = k - 1 := by omega
            have j3 : IntKind.i64.wrap ((k : Int) - 1) = (k : Int) - 1 := by rw [IntKind.wrap_i64]; omega
            have j4 : (1 : Int) ≤ (k : Int) := by omega
            clear hy hz hu hcz hcu hzy
            go_wp2_with fail
            refine region_class (Grown wr) (by kernel_rfl) (by kernel_rfl) (Grown.drew _) ?_
            repeat (refine WQ_step (fun K hK => ?_); go_simp; first | (refine hK _ ?_; clear hK K) | (apply Exists.intro; refine ⟨fun w2 hw2 => ?_, hK _ ?_⟩; (first | (with_reducible rfl) | (rw [hcw w2 hw2]; exact ⟨rfl, rfl⟩) | (rw [hcv w2 hw2]; exact ⟨rfl, rfl⟩) | (rw [hcx w2 hw2]; exact ⟨rfl, rfl⟩) | (exact hw2.same (HW.out _)) | (exact hw2.call (HOx.out _))); clear hK K))
            refine WQ_nil ?_
            intro w5 hw5
            have F5 := Lib.hid (hbw w5 hw5)
            have d1 := hcw w5 hw5
            clear hcw hbw hw5 hcv hcx hc
            generalize (y == t) = v at hbq HHAS
            cases hh : hasT L t k
            all_goals
              rw [hh] at HHAS
              cases v
              all_goals
                go_wp2
                go_roundw
                case rel => exact ⟨k + 1, by omega, by go_num, int_eq (by rw [HOR.out]), by rw [HHAS.out]; rfl, F5.out.1, F5.out.2⟩
                case measure => simp [intOf]; omega
        · obtain rfl : k = 6 := by omega
          rw [HFULL.out, HFOUND.out]
          obtain ⟨bb, o, y, rfl, hbl, hy, hc⟩ := S.out.nat (k := 5) (by decide)
          have HXX := Lib.hid (HX5.out 5 y hy wr)
          rw [(HE5.out 5 y hy).1, (HE5.out 5 y hy).2] at HXX
          clear hy
          go_wp2_with fail
          refine HXX.out.mono ?_
          rintro e w5 ⟨A5, n5, c5, rfl, o5, b5⟩
          have hn5 : n5 ≤ 1048576 := by have := o5.length; rw [nl_length, hlen] at this; omega
          go_wp2_with fail
          refine (sameInts w5.heap.size A5 _ n5 6 c5 c2 _ _ w5 o5.sl ((S.out.below b5).more b5.size) hn5).mono ?_
          rw [decide_eq_true rfl]
          rintro e w6 ⟨rfl, b6⟩
          have HB := Lib.hid (below_to (below_to B.out b5 (Nat.le_refl _)) b6 (Nat.le_refl _))
          clear o5 b5 b6
          go_wp2
          go_ret
          exact ⟨rfl, HB.out⟩
  · have e1 : decide ((1048576 : Int) < (n : Int)) = true := by simp; omega
    go_enter Try.func10, Try.ntmps10
    go_wp2
    go_ret
    exact ⟨rfl, Below.refl _ _⟩
end Go.Proofs.Ytbpgaphcpgfafaa
