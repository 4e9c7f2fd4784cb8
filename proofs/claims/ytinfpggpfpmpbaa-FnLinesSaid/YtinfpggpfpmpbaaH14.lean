import Derived.Test.YtinfpggpfpmpbaaH12
import Derived.Test.YtinfpggpfpmpbaaG2
import Derived.Test.YtinfpggpfpmpbaaG0
import Derived.Test.YtinfpggpfpmpbaaF5
import Derived.Test.YtinfpggpfpmpbaaB5
import Derived.Test.YtinfpggpfpmpbaaM15
namespace Go.Proofs.Ytinfpggpfpmpbaa
open Go.RowKit

theorem Sl.cells_nat {w : World} {B bb o n c : Nat} {l : List Nat} (h : Sl w B (some ⟨bb, o, none⟩) n c (nl l)) (k : Nat) {y : Nat} (hk : k < n) (hy : l[k]? = some y) : w.cell? ⟨bb, o + k, none⟩ = some (.int .i64 (y : Nat)) := by
  obtain ⟨b', o', z, e, _, hz, hc⟩ := h.nat hk
  injection e with e
  injection e with e1 e2
  subst e1
  subst e2
  rw [hy] at hz
  injection hz with hz
  rw [hz]; exact hc

set_option maxRecDepth 100000 in
set_option maxHeartbeats 1000000 in
theorem lawFnLines (A : Option Addr) (n cap : Nat) (zs : List Int) (w : World) (h : IsRow .u8 w A n cap zs) :
    Calls Try.prog 7 #[.slice A n cap] w fun e w' => e = .returned (.bool true) ∧ Below w.heap.size w w' := by
  have H := Lib.hid h
  clear h
  by_cases hn : n ≤ 1048576
  · have e1 : decide ((1048576 : Int) < (n : Int)) = false := by simp; omega
    go_enter Try.func7, Try.ntmps7
    go_wp2_with fail
    refine (dPlaneLines A n cap zs w H.out hn).mono ?_
    rintro e w1 ⟨⟨x, rfl⟩, b1⟩
    have HI := Lib.hid (iPlaneLines x w1)
    have HS := Lib.hid (fun W (_ : Below w1.heap.size w1 W) => sPlaneLines x W)
    have hll := pln_len x
    cases hv : baseZ x with
    | false =>
      rw [hv] at HI HS
      clear hv
      generalize nl (plnR x) = R at HI HS hll
      go_wp2_with fail
      refine HI.out.mono ?_
      rintro e w2 ⟨A2, n2, c2, rfl, o2, b2⟩
      go_wp2_with fail
      refine (HS.out w2 b2).mono ?_
      rintro e w3 ⟨A3, n3, c3, rfl, o3, b3⟩
      have hn2 : n2 ≤ 1048576 := by have := o2.length; omega
      have S2 := (o2.below b3 (Nat.le_refl _)).sl
      have HB3 := below_to (below_to b1 b2 (Nat.le_refl _)) b3 (Nat.le_refl _)
      go_wp2_with fail
      refine (sameInts w3.heap.size A2 A3 n2 n3 c2 c3 _ _ w3 S2 o3.sl hn2).mono ?_
      rw [decide_eq_true rfl]
      rintro e w4 ⟨rfl, b4⟩
      go_wp2_with fail
      refine (sameInts w4.heap.size A2 A3 n2 n3 c2 c3 _ _ w4 ((S2.below b4).more b4.size) ((o3.sl.below b4).more b4.size) hn2).mono ?_
      rw [decide_eq_true rfl]
      rintro e w5 ⟨rfl, b5⟩
      have HB := Lib.hid (below_to (below_to HB3 b4 (Nat.le_refl _)) b5 (Nat.le_refl _))
      clear b1 b2 b3 b4 b5 o2 o3 S2 HB3
      go_wp2
      go_ret
      exact ⟨rfl, HB.out⟩
    | true =>
      rw [hv] at HI HS
      obtain ⟨b, rfl, hb, h3⟩ := baseZ_nat hv
      rw [(pln_yes hb h3).2] at HI HS hll
      have HF := Lib.hid (fun (k y : Nat) (hy : (lns b 0)[k]? = some y) => by
        have hm := ((mem_lns hb).1 (List.mem_of_getElem? hy)).1
        exact And.intro (line_lt hb hm) (And.intro (line_wt h3 hm) hm.2))
      have HP := Lib.hid (fun (k j y z : Nat) (hk : j < k) (hy : (lns b 0)[k]? = some y) (hz : (lns b 0)[j]? = some z) => by
        have m1 := ((mem_lns hb).1 (List.mem_of_getElem? hy)).1
        have m2 := ((mem_lns hb).1 (List.mem_of_getElem? hz)).1
        have hlt := asc_at (lns_asc b 0) hk hz hy
        exact And.intro hlt (line_two hb h3 m1 m2 (by omega)))
      have hlen := lines_21 hb h3
      clear hv
      generalize lns b 0 = L at HI HS hll HF HP hlen
      go_wp2_with fail
      refine HI.out.mono ?_
      rintro e w2 ⟨A2, n2, c2, rfl, o2, b2⟩
      go_wp2_with fail
      refine (HS.out w2 b2).mono ?_
      rintro e w3 ⟨A3, n3, c3, rfl, o3, b3⟩
      have hn2 : n2 ≤ 1048576 := by have := o2.length; omega
      have S2 := (o2.below b3 (Nat.le_refl _)).sl
      have HB3 := below_to (below_to b1 b2 (Nat.le_refl _)) b3 (Nat.le_refl _)
      go_wp2_with fail
      refine (sameInts w3.heap.size A2 A3 n2 n3 c2 c3 _ _ w3 S2 o3.sl hn2).mono ?_
      rw [decide_eq_true rfl]
      rintro e w4 ⟨rfl, b4⟩
      have B4 := Lib.hid (below_to HB3 b4 (Nat.le_refl _))
      obtain rfl : n2 = 21 := by have := o2.length; rw [nl_length, hlen] at this; omega
      have T2 := Lib.hid ((S2.below b4).more b4.size)
      clear b1 b2 b3 b4 o2 o3 S2 HB3 HI HS hll
      go_wp2
      go_loopw [8] (fun iv wr => ∃ k : Nat, k ≤ 21 ∧ iv = .int .i64 k ∧ Below w.heap.size w wr ∧ Sl wr wr.heap.size A2 21 c2 (nl L)) (fun iv _ => 21 - (intOf iv).toNat)
      case atStart => exact ⟨0, Nat.zero_le _, rfl, B4.out, T2.out⟩
      case round =>
        obtain ⟨i, hi, rfl, hb1, hs1⟩ := hrel
        have B := Lib.hid hb1
        have S := Lib.hid hs1
        clear hb1 hs1
        by_cases hlt : i < 21
        · have f1 : decide ((i : Int) < 21) = true := by simp; omega
          obtain ⟨bb, o, y, rfl, hbl, hy, hc⟩ := S.out.nat hlt
          obtain ⟨hyl, hy5, hyb⟩ := HF.out i y hy
          have hand := i64_and y b (by omega) (by omega)
          rw [hyb] at hand
          have hand' : bits .and .i64 (y : Int) (b : Int) = 0 := hand
          have hw := fun W => iWordWeight y W hyl
          rw [hy5] at hw
          have HW := Lib.hid hw
          have HY := Lib.hid hy
          clear hand hy hw
          go_wp2_with fail
          refine (HW.out _).mono ?_
          rintro e w' ⟨rfl, rfl⟩
          clear hc
          have hc := (S.out.cells_nat i hlt HY.out)
          go_wp2
          go_loopw [9] (fun kv wr2 => ∃ k : Nat, k ≤ i ∧ kv = .int .i64 k ∧ Below w.heap.size w wr2 ∧ Sl wr2 wr2.heap.size (some ⟨bb, o, none⟩) 21 c2 (nl L)) (fun kv _ => i - (intOf kv).toNat)
          case atStart => exact ⟨0, Nat.zero_le _, rfl, B.out, S.out⟩
          case round =>
            obtain ⟨k, hk, rfl, hb2, hs2⟩ := hrel
            have BB := Lib.hid hb2
            have SS := Lib.hid hs2
            clear hb2 hs2
            by_cases hkl : k < i
            · have g1 : decide ((k : Int) < (i : Int)) = true := by simp; omega
              have dy := SS.out.cells_nat i hlt HY.out
              obtain ⟨bb', o', z, e', hbl', hz, dz⟩ := SS.out.nat (k := k) (by omega)
              injection e' with e'
              injection e' with e1 e2
              subst e1
              subst e2
              obtain ⟨hzy, hone⟩ := HP.out i k y z hkl HY.out hz
              have hzl := (HF.out k z hz).1
              have hand := i64_and y z (by omega) (by omega)
              have hw2 := fun W => iWordWeight (y &&& z) W (and_lt hyl)
              rw [hone] at hw2
              have HW2 := Lib.hid hw2
              have g2 : decide ((y : Int) ≤ (z : Int)) = false := by simp; omega
              have g4 : ¬ y ≤ z := by omega
              have hcy : ∀ w2, Grown wr w2 → w2.cell? ⟨bb, o + i, none⟩ = some (.int .i64 (y : Nat)) := fun w2 b => b.cell hbl' dy
              have hcz : ∀ w2, Grown wr w2 → w2.cell? ⟨bb, o + k, none⟩ = some (.int .i64 (z : Nat)) := fun w2 b => b.cell hbl' dz
              have hbw : ∀ w2, Grown wr w2 → Below w.heap.size w w2 ∧ Sl w2 w2.heap.size (some ⟨bb, o, none⟩) 21 c2 (nl L) := fun w2 b => ⟨b.below BB.out, b.sl SS.out⟩
              have i0 : (0 : Int) ≤ (i : Int) := by omega
              have i1 : (i : Int) < 21 := by omega
              have k0 : (0 : Int) ≤ (k : Int) := by omega
              have k1 : (k : Int) < 21 := by omega
              clear hz hzy hone hw2 dy dz
              go_wp2_with fail
              refine region_class (Grown wr) (by kernel_rfl) (by kernel_rfl) (Grown.drew _) ?_
              repeat (refine WQ_step (fun K hK => ?_); go_simp; first | (refine hK _ ?_; clear hK K) | (apply Exists.intro; refine ⟨fun w2 hw2 => ?_, hK _ ?_⟩; (first | (with_reducible rfl) | (rw [hcy w2 hw2]; exact ⟨rfl, rfl⟩) | (rw [hcz w2 hw2]; exact ⟨rfl, rfl⟩) | (exact hw2.same (HW2.out _))); clear hK K))
              refine WQ_nil ?_
              intro w5 hw5
              have F5 := Lib.hid (hbw w5 hw5)
              clear hcy hcz hbw hw5
              go_wp2
              go_roundw
              case rel => exact ⟨k + 1, by omega, by go_num, F5.out.1, F5.out.2⟩
              case measure => simp [intOf]; omega
            · obtain rfl : k = i := by omega
              have g1 : decide ((k : Int) < (k : Int)) = false := by simp
              go_wp2
              go_roundw
              case rel => exact ⟨k + 1, by omega, by go_num, BB.out, SS.out⟩
              case measure => simp [intOf]; omega
        · obtain rfl : i = 21 := by omega
          go_wp2
          go_ret
          exact ⟨rfl, B.out⟩
  · have e1 : decide ((1048576 : Int) < (n : Int)) = true := by simp; omega
    go_enter Try.func7, Try.ntmps7
    go_wp2
    go_ret
    exact ⟨rfl, Below.refl _ _⟩
end Go.Proofs.Ytinfpggpfpmpbaa
