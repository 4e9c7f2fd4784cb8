import Derived.Test.YtinfpggpfpmpbaaK1
import Derived.Test.YtinfpggpfpmpbaaD4
import Derived.Test.YtinfpggpfpmpbaaF8
import Derived.Test.YtinfpggpfpmpbaaF7
import Derived.Test.YtinfpggpfpmpbaaC10
import Derived.Test.YtinfpggpfpmpbaaG2
import Derived.Test.YtinfpggpfpmpbaaM15
import Derived.Test.YtinfpggpfpmpbaaM16
import Derived.Test.YtinfpggpfpmpbaaM12
namespace Go.Proofs.Ytinfpggpfpmpbaa
open Go.RowKit

theorem ov_two {b p q r : Nat} (h : Two b p q r) : ovR (b : Int) (p : Int) (q : Int) = ovs b (1 <<< p ||| 1 <<< q) := by
  obtain ⟨f1, f2, f3, hb, h3⟩ := h.facts
  have hbp : b.testBit p = true := by rw [h.eq, Nat.testBit_or, Nat.testBit_or, bit_shift]; rfl
  have hbq : b.testBit q = true := by rw [h.eq, Nat.testBit_or, Nat.testBit_or, bit_shift]; simp
  exact (ov_yes hb h3 hbp hbq h.pq).2

set_option maxRecDepth 100000 in
set_option maxHeartbeats 1000000 in
theorem lawFnOvals (A : Option Addr) (n cap : Nat) (zs : List Int) (w : World) (h : IsRow .u8 w A n cap zs) :
    Calls Try.prog 12 #[.slice A n cap] w fun e w' => e = .returned (.bool true) ∧ Below w.heap.size w w' := by
  have H := Lib.hid h
  clear h
  by_cases hn : n ≤ 1048576
  · have e1 : decide ((1048576 : Int) < (n : Int)) = false := by simp; omega
    go_enter Try.func12, Try.ntmps12
    go_wp2_with fail
    refine (dPlaneOvals A n cap zs w H.out hn).mono ?_
    rintro e w1 ⟨⟨x, p, q, rfl⟩, b1⟩
    have HI := Lib.hid (iPlaneOvals x p q w1)
    have HS := Lib.hid (fun W (_ : Below w1.heap.size w1 W) => sPlaneOvals x p q W)
    have hll := ov_len x p q
    cases hv : ovOk x p q with
    | false =>
      rw [hv] at HI HS
      clear hv
      generalize nl (ovR x p q) = R at HI HS hll
      go_wp2_with fail
      refine HI.out.mono ?_
      rintro e w2 ⟨A2, n2, c2, rfl, o2, b2⟩
      go_wp2_with fail
      refine (HS.out w2 b2).mono ?_
      rintro e w3 ⟨A3, n3, c3, rfl, o3, b3⟩
      have hn2 : n2 ≤ 1048576 := by have := o2.length; omega
      have S2 := (o2.below b3 (Nat.le_refl _)).sl
      have HB3 := below_to (below_to b1 b2 (Nat.le_refl _)) b3 (Nat.le_refl _)
      go_wp2_with fail
      refine (sameInts w3.heap.size A2 A3 n2 n3 c2 c3 _ _ w3 S2 o3.sl hn2).mono ?_
      rw [decide_eq_true rfl]
      rintro e w4 ⟨rfl, b4⟩
      go_wp2_with fail
      refine (sameInts w4.heap.size A2 A3 n2 n3 c2 c3 _ _ w4 ((S2.below b4).more b4.size) ((o3.sl.below b4).more b4.size) hn2).mono ?_
      rw [decide_eq_true rfl]
      rintro e w5 ⟨rfl, b5⟩
      have HB := Lib.hid (below_to (below_to HB3 b4 (Nat.le_refl _)) b5 (Nat.le_refl _))
      clear b1 b2 b3 b4 b5 o2 o3 S2 HB3
      go_wp2
      go_ret
      exact ⟨rfl, HB.out⟩
    | true =>
      rw [hv] at HI HS
      obtain ⟨b, y, z, r, rfl, rfl, rfl, hT⟩ := ov_nat hv
      have hR := ov_two hT
      rw [hR] at HI HS hll
      obtain ⟨f1, f2, f3, hb, h3⟩ := hT.facts
      have HP := Lib.hid (fun (k u v : Nat) (hk : 0 < k) (hu : (ovs b (1 <<< y ||| 1 <<< z))[k]? = some u) (hv : (ovs b (1 <<< y ||| 1 <<< z))[k - 1]? = some v) => asc_at (ovs_asc b _) (show k - 1 < k by omega) hv hu)
      have HO := Lib.hid (fun (k u : Nat) (hu : (ovs b (1 <<< y ||| 1 <<< z))[k]? = some u) => by
        obtain ⟨g1, g2, g3, g4, g5⟩ := ov_facts hT (List.mem_of_getElem? hu)
        have e1 : ovalZ (b : Int) (u : Int) = true := by rw [oval_eq hb h3 g1 g3 g2]; exact (thinL_iff hb).2 g4
        have e2 : octZ ((u ||| (1 <<< y ||| 1 <<< z) : Nat) : Int) = true := by rw [octZ_nat _ (oct_lt g5)]; exact (isOct_iff (oct_lt g5)).2 g5
        exact And.intro g1 (And.intro e1 e2))
      have HPO := Lib.hid (fun (u : Nat) W => iPlaneOval (b : Int) (u : Int) W)
      have HOC := Lib.hid (fun (u : Nat) (h : octZ ((u ||| (1 <<< y ||| 1 <<< z) : Nat) : Int) = true) W => iOct_is _ true h W)
      have hlen := hT.ovs_len
      have HE := Lib.hid (two_wrap64 hT.hp hT.hq hT.pq)
      have hy := hT.hp
      have hz := hT.hq
      have hm1 : min y 64 = y := by omega
      have hm2 : min z 64 = z := by omega
      clear hv hR hT f2 f3 hb h3
      generalize ovs b (1 <<< y ||| 1 <<< z) = L at *
      generalize 1 <<< y ||| 1 <<< z = D at *
      go_wp2_with fail
      refine HI.out.mono ?_
      rintro e w2 ⟨A2, n2, c2, rfl, o2, b2⟩
      go_wp2_with fail
      refine (HS.out w2 b2).mono ?_
      rintro e w3 ⟨A3, n3, c3, rfl, o3, b3⟩
      have hn2 : n2 ≤ 1048576 := by have := o2.length; omega
      have S2 := (o2.below b3 (Nat.le_refl _)).sl
      have HB3 := below_to (below_to b1 b2 (Nat.le_refl _)) b3 (Nat.le_refl _)
      go_wp2_with fail
      refine (sameInts w3.heap.size A2 A3 n2 n3 c2 c3 _ _ w3 S2 o3.sl hn2).mono ?_
      rw [decide_eq_true rfl]
      rintro e w4 ⟨rfl, b4⟩
      have B4 := Lib.hid (below_to HB3 b4 (Nat.le_refl _))
      obtain rfl : n2 = 56 := by have := o2.length; rw [nl_length, hlen] at this; omega
      have T2 := Lib.hid ((S2.below b4).more b4.size)
      clear b1 b2 b3 b4 o2 o3 S2 HB3 HI HS hll
      go_wp2_with fail
      go_quiet (fail)
      rw [HE.out]
      go_wp2
      go_loopw [11] (fun iv wr => ∃ k : Nat, 1 ≤ k ∧ k ≤ 56 ∧ iv = .int .i64 k ∧ Below w.heap.size w wr ∧ Sl wr wr.heap.size A2 56 c2 (nl L)) (fun iv _ => 56 - (intOf iv).toNat)
      case atStart => exact ⟨1, Nat.le_refl _, by decide, rfl, below_drewN B4.out _, T2.out.drewN _⟩
      case round =>
        obtain ⟨k, hk1, hk, rfl, hb1, hs1⟩ := hrel
        have B := Lib.hid hb1
        have S := Lib.hid hs1
        clear hb1 hs1
        by_cases hlt : k < 56
        · obtain ⟨bb, o, u, rfl, hbl, hu, hc⟩ := S.out.nat hlt
          obtain ⟨bb', o', v, e', hbl', hv, hcv⟩ := S.out.nat (k := k - 1) (by omega)
          injection e' with e'
          injection e' with e1 e2
          subst e1
          subst e2
          have huv := HP.out k u v (by omega) hu hv
          have g2 : decide ((u : Int) ≤ (v : Int)) = false := by simp; omega
          have g4 : ¬ u ≤ v := by omega
          have i0 : (0 : Int) ≤ (k : Int) := by omega
          have i1 : (k : Int) < 56 := by omega
          have j0 : (0 : Int) ≤ (k : Int) - 1 := by omega
          have j1 : (k : Int) - 1 < 56 := by omega
          have j2 : ((k : Int) - 1).toNat = k - 1 := by omega
          have j3 : IntKind.i64.wrap ((k : Int) - 1) = (k : Int) - 1 := by rw [IntKind.wrap_i64]; omega
          have j4 : (1 : Int) ≤ (k : Int) := by omega
          clear hu hv huv
          go_wp2_with fail
          go_quiet (fail)
          go_wp2
          go_roundw
          case rel => exact ⟨k + 1, by omega, by omega, by go_num, below_drewN B.out _, S.out.drewN _⟩
          case measure => simp [intOf]; omega
        · obtain rfl : k = 56 := by omega
          obtain ⟨bb, o, u, rfl, hbl, hu, hc⟩ := S.out.nat (k := 0) (by decide)
          obtain ⟨bb', o', v, e', hbl', hv, hcv⟩ := S.out.nat (k := 55) (by decide)
          injection e' with e'
          injection e' with e1 e2
          subst e1
          subst e2
          obtain ⟨hul, u1, u2⟩ := HO.out 0 u hu
          obtain ⟨hvl, v1, v2⟩ := HO.out 55 v hv
          have P1 := Lib.hid (HPO.out u)
          have P2 := Lib.hid (HPO.out v)
          rw [u1] at P1
          rw [v1] at P2
          have O1 := Lib.hid (HOC.out u u2)
          have O2 := Lib.hid (HOC.out v v2)
          have hor1 := i64_or u D (by omega) (by omega)
          have hor2 := i64_or v D (by omega) (by omega)
          rw [Nat.add_zero] at hc
          have hcw : ∀ w2, Below wr.heap.size wr w2 → w2.cell? ⟨bb, o, none⟩ = some (.int .i64 (u : Nat)) := fun w2 b => (b.cell (p := ⟨bb, o, none⟩) hbl).trans hc
          have hcx : ∀ w2, Below wr.heap.size wr w2 → w2.cell? ⟨bb, o + 55, none⟩ = some (.int .i64 (v : Nat)) := fun w2 b => (b.cell (p := ⟨bb, o + 55, none⟩) hbl).trans hcv
          have HCW := Lib.hid hcw
          have HCX := Lib.hid hcx
          clear hu hv u1 u2 v1 v2 hcw hcx hcv
          go_wp2_with fail
          refine (P1.out wr).mono ?_
          rintro e w5 ⟨rfl, b5⟩
          have c5 := HCX.out w5 b5
          go_wp2_with fail
          refine (P2.out w5).mono ?_
          rintro e w6 ⟨rfl, b6⟩
          have b6' := below_to b5 b6 (Nat.le_refl _)
          have c6 := HCW.out w6 b6'
          have B6 := Lib.hid b6'
          clear c5 b5 b6 b6'
          go_wp2_with fail
          refine (O1.out w6).mono ?_
          rintro e w7 ⟨rfl, b7⟩
          have b7' := below_to B6.out b7 (Nat.le_refl _)
          have c7 := HCX.out w7 b7'
          have B7 := Lib.hid b7'
          clear c6 b7 b7'
          go_wp2_with fail
          refine (O2.out w7).mono ?_
          rintro e w8 ⟨rfl, b8⟩
          have HB := Lib.hid (below_to (below_to B.out B7.out (Nat.le_refl _)) b8 (Nat.le_refl _))
          clear b8
          go_wp2
          go_ret
          exact ⟨rfl, HB.out⟩
  · have e1 : decide ((1048576 : Int) < (n : Int)) = true := by simp; omega
    go_enter Try.func12, Try.ntmps12
    go_wp2
    go_ret
    exact ⟨rfl, Below.refl _ _⟩
end Go.Proofs.Ytinfpggpfpmpbaa
