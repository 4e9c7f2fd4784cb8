import Derived.Test.YtinfpggpfpmpbaaH17
import Derived.Test.YtinfpggpfpmpbaaF10
namespace Go.Proofs.Ytinfpggpfpmpbaa
open Go.RowKit

theorem odd_bit {y p : Nat} (h : y.testBit p = true) : ((y : Int) / 2 ^ p) % 2 = 1 ∧ ((y : Int) / 2 ^ p).tmod 2 = 1 := by
  have h2 : y / 2 ^ p % 2 = 1 := by rw [← bt_div, bt_one.2 h]
  have e : ((y : Int) / 2 ^ p) = ((y / 2 ^ p : Nat) : Int) := by simp
  rw [e]
  generalize y / 2 ^ p = m at h2
  refine ⟨by omega, ?_⟩
  show ((m % 2 : Nat) : Int) = 1
  rw [h2]; rfl

set_option maxRecDepth 100000 in
set_option maxHeartbeats 1000000 in
theorem lawFnPoint (A : Option Addr) (n cap : Nat) (zs : List Int) (w : World) (h : IsRow .u8 w A n cap zs) :
    Calls Try.prog 11 #[.slice A n cap] w fun e w' => e = .returned (.bool true) ∧ Below w.heap.size w w' := by
  have H := Lib.hid h
  clear h
  by_cases hn : n ≤ 1048576
  · have e1 : decide ((1048576 : Int) < (n : Int)) = false := by simp; omega
    go_enter Try.func11, Try.ntmps11
    go_wp2_with fail
    refine (dPlanePoint A n cap zs w H.out hn).mono ?_
    rintro e w1 ⟨⟨x, p, q, rfl⟩, b1⟩
    have HI := Lib.hid (iPlanePoint x p q w1)
    have HS := Lib.hid (sPlanePoint x p q)
    cases hv : pntOk x p q with
    | false =>
      have hr : pntR x p q = 0 := by unfold pntR; rw [hv]; exact if_neg (by decide)
      rw [hv, hr] at HI HS
      clear hv hr
      go_wp2_with fail
      refine HI.out.mono ?_
      rintro e w2 ⟨rfl, b2⟩
      go_wp2_with fail
      refine (HS.out w2).mono ?_
      rintro e w3 ⟨rfl, b3⟩
      have HB := Lib.hid (below_to (below_to b1 b2 (Nat.le_refl _)) b3 (Nat.le_refl _))
      clear b1 b2 b3
      go_wp2
      go_ret
      exact ⟨rfl, HB.out⟩
    | true =>
      obtain ⟨b, y, z, rfl, rfl, rfl, hb, h3, hy, hz, hne⟩ := pnt_nat hv
      obtain ⟨o, ho, hpl, q1, q2, hok, hr⟩ := pnt_yes hb h3 hy hz hne
      obtain ⟨o', ho', hpl', q1', q2', hok', hr'⟩ := pnt_yes hb h3 hz hy (fun e => hne e.symm)
      obtain rfl : o = o' := by
        rw [Nat.and_comm] at hpl'
        rw [hpl] at hpl'
        simpa using hpl'
      rw [hok, hr] at HI HS
      have hj := iPlanePoint (b : Int) (z : Int) (y : Int)
      rw [hok', hr'] at hj
      have HJ := Lib.hid hj
      obtain ⟨s1, s2⟩ := odd_bit q1
      obtain ⟨s3, s4⟩ := odd_bit q2
      have e0 : ((o : Int) != (o : Int)) = false := by simp
      have e2 : ((o : Int) == (o : Int)) = true := by simp
      clear hv hb h3 hy hz hne hpl hpl' q1 q2 q1' q2' hok hok' hr hr' hj
      go_wp2_with fail
      refine HI.out.mono ?_
      rintro e w2 ⟨rfl, b2⟩
      go_wp2_with fail
      refine (HS.out w2).mono ?_
      rintro e w3 ⟨rfl, b3⟩
      go_wp2_with fail
      refine (HJ.out w3).mono ?_
      rintro e w4 ⟨rfl, b4⟩
      have HB := Lib.hid (below_to (below_to (below_to b1 b2 (Nat.le_refl _)) b3 (Nat.le_refl _)) b4 (Nat.le_refl _))
      clear b1 b2 b3 b4
      go_wp2
      go_ret
      exact ⟨rfl, HB.out⟩
  · have e1 : decide ((1048576 : Int) < (n : Int)) = true := by simp; omega
    go_enter Try.func11, Try.ntmps11
    go_wp2
    go_ret
    exact ⟨rfl, Below.refl _ _⟩
end Go.Proofs.Ytinfpggpfpmpbaa
