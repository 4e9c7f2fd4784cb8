import Derived.Test.YtinfpggpfpmpbaaK1
import Derived.Test.YtinfpggpfpmpbaaF15
namespace Go.Proofs.Ytinfpggpfpmpbaa
open Go.RowKit

theorem iPlacesW (x : Nat) (w : World) (hx : x < 16777216) :
    Calls Try.prog 44 #[.int .i64 x] w (MakesB (nl (pl x)) true w) := by
  go_enter Try.func44, Try.ntmps44
  go_wp2_with fail
  refine (iWordValid_yes x w hx).mono ?_
  rintro e w' ⟨rfl, rfl⟩
  go_wp2_with fail
  refine (placesOf_any x w hx).mono ?_
  rintro e w1 ⟨A1, n1, c1, rfl, o1, b1⟩
  have HO := Lib.hid o1
  have HB := Lib.hid b1
  clear o1 b1
  go_wp2
  go_ret2
  exact ⟨A1, n1, c1, rfl, HO.out, HB.out⟩

theorem odd_bit {y p : Nat} (h : y.testBit p = true) : ((y : Int) / 2 ^ p) % 2 = 1 ∧ ((y : Int) / 2 ^ p).tmod 2 = 1 := by
  have h2 : y / 2 ^ p % 2 = 1 := by rw [← bt_div, bt_one.2 h]
  have e : ((y : Int) / 2 ^ p) = ((y / 2 ^ p : Nat) : Int) := by simp
  rw [e]
  generalize y / 2 ^ p = m at h2
  refine ⟨by omega, ?_⟩
  show ((m % 2 : Nat) : Int) = 1
  rw [h2]; rfl

set_option maxRecDepth 100000 in
set_option maxHeartbeats 1000000 in
theorem lawFnFour (A : Option Addr) (n cap : Nat) (zs : List Int) (w : World) (h : IsRow .u8 w A n cap zs) :
    Calls Try.prog 13 #[.slice A n cap] w fun e w' => e = .returned (.bool true) ∧ Below w.heap.size w w' := by
  have H := Lib.hid h
  clear h
  by_cases hn : n ≤ 1048576
  · have e1 : decide ((1048576 : Int) < (n : Int)) = false := by simp; omega
    go_enter Try.func13, Try.ntmps13
    go_wp2_with fail
    refine (dPlaneFour A n cap zs w H.out hn).mono ?_
    rintro e w1 ⟨⟨x, y, rfl⟩, b1⟩
    have HI := Lib.hid (iPlaneFour x y w1)
    have HS := Lib.hid (sPlaneFour x y)
    cases hv : fourOk x y with
    | false =>
      have hr : fourR x y = 0 := by unfold fourR; rw [hv]; exact if_neg (by decide)
      rw [hv, hr] at HI HS
      clear hv hr
      go_wp2_with fail
      refine HI.out.mono ?_
      rintro e w2 ⟨rfl, b2⟩
      go_wp2_with fail
      refine (HS.out w2).mono ?_
      rintro e w3 ⟨rfl, b3⟩
      have HB := Lib.hid (below_to (below_to b1 b2 (Nat.le_refl _)) b3 (Nat.le_refl _))
      clear b1 b2 b3
      go_wp2
      go_ret
      exact ⟨rfl, HB.out⟩
    | true =>
      rw [hv] at HI HS
      obtain ⟨t, u, p0, p1, p2, p3, rfl, rfl, ht, h3, hu, hp, he, hq, hr⟩ := four_nat hv
      obtain ⟨f1, f2, f3, f4, t0, t1, t2, g1, g2, g3, g4, g5, g6⟩ := frOf_facts hq
      rw [hr] at HI HS
      have hand := i64_and (frOf t p0 p1 p2 p3) u (by omega) (by omega)
      rw [he, f2] at hand
      have hand' : bits .and .i64 (frOf t p0 p1 p2 p3 : Int) (u : Int) = 0 := by rw [he]; exact hand
      have HWP := Lib.hid (fun W => iPlacesW (frOf t p0 p1 p2 p3) W f1)
      rw [g1] at HWP
      have hln := fun W => iPlaneLine (t : Int) (t0 : Int) (t1 : Int) W
      rw [(line_yes g5).1, (line_yes g5).2] at hln
      have HLN := Lib.hid hln
      obtain ⟨s1, s2⟩ := odd_bit g6
      have hm : min t2 64 = t2 := by omega
      clear hv ht h3 hp he hq hr f2 f3 f4 g1 g2 g3 g5 g6 hand hln
      generalize frOf t p0 p1 p2 p3 = f at *
      generalize thr t t0 t1 = l at *
      have e0 : ((f : Int) != (f : Int)) = false := by simp
      go_wp2_with fail
      refine HI.out.mono ?_
      rintro e w2 ⟨rfl, b2⟩
      go_wp2_with fail
      refine (HS.out w2).mono ?_
      rintro e w3 ⟨rfl, b3⟩
      go_wp2_with fail
      refine (HWP.out w3).mono ?_
      rintro e w4 ⟨A4, n4, c4, rfl, o4, b4⟩
      obtain rfl : n4 = 3 := by have := o4.length; simp [nl] at this; omega
      obtain ⟨gp, rfl, -, hgp⟩ := o4.form (by decide)
      have B4 := Lib.hid (below_to (below_to (below_to b1 b2 (Nat.le_refl _)) b3 (Nat.le_refl _)) b4 (Nat.le_refl _))
      obtain ⟨b', o', e', _, hc⟩ := o4.sl.nats (by decide)
      injection e' with e'
      injection e' with e1 e2
      subst e1
      subst e2
      have k0 : ∀ w2, Grown w4 w2 → w2.cell? ⟨gp, 0, none⟩ = some (.int .i64 (t0 : Nat)) := fun w2 g => g.cell hgp (hc 0 (by decide))
      have k1 : ∀ w2, Grown w4 w2 → w2.cell? ⟨gp, 1, none⟩ = some (.int .i64 (t1 : Nat)) := fun w2 g => g.cell hgp (hc 1 (by decide))
      have k2 : ∀ w2, Grown w4 w2 → w2.cell? ⟨gp, 2, none⟩ = some (.int .i64 (t2 : Nat)) := fun w2 g => g.cell hgp (hc 2 (by decide))
      have hfin : ∀ w2, Grown w4 w2 → Below w.heap.size w w2 := fun w2 g => g.below B4.out
      clear b1 b2 b3 b4 o4 hc HI HS HWP
      go_wp2_with fail
      refine region_class (Grown w4) (by kernel_rfl) (by kernel_rfl) (Grown.drew _) ?_
      repeat (refine WQ_step (fun K hK => ?_); go_simp; first | (refine hK _ ?_; clear hK K) | (apply Exists.intro; refine ⟨fun w2 hw2 => ?_, hK _ ?_⟩; (first | (with_reducible rfl) | (rw [k0 w2 hw2]; exact ⟨rfl, rfl⟩) | (rw [k1 w2 hw2]; exact ⟨rfl, rfl⟩) | (exact hw2.call (HLN.out w2))); clear hK K))
      refine WQ_nil ?_
      intro w5 hw5
      have HF := Lib.hid (hfin w5 hw5)
      have d2 := k2 w5 hw5
      clear k0 k1 k2 hfin hw5
      go_wp2
      go_ret
      exact ⟨rfl, HF.out⟩
  · have e1 : decide ((1048576 : Int) < (n : Int)) = true := by simp; omega
    go_enter Try.func13, Try.ntmps13
    go_wp2
    go_ret
    exact ⟨rfl, Below.refl _ _⟩
end Go.Proofs.Ytinfpggpfpmpbaa
