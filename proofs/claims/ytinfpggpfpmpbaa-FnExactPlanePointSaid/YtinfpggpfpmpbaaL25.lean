import Derived.Test.YtinfpggpfpmpbaaF10
namespace Go.Proofs.Ytinfpggpfpmpbaa
open Go.RowKit

theorem lawPlanePoint (b p q : Int) (w : World) :
    Calls Try.prog 4 #[.int .i64 b, .int .i64 p, .int .i64 q] w fun e w' => e = .returned (.bool true) ∧ Below w.heap.size w w' := by
  obtain ⟨r, hr⟩ : ∃ r : Int, r = (pntR b p q : Nat) := ⟨_, rfl⟩
  obtain ⟨v, hv⟩ : ∃ v, v = pntOk b p q := ⟨_, rfl⟩
  have HS := Lib.hid (sPlanePoint b p q)
  have HI := Lib.hid (iPlanePoint b p q)
  rw [← hr, ← hv] at HS HI
  clear hr hv
  have e0 : (r != r) = false := by simp
  have e1 : (v != v) = false := by simp
  go_enter Try.func4, Try.ntmps4
  go_wp2_with fail
  refine (HS.out w).mono ?_
  rintro e w1 ⟨rfl, b1⟩
  go_wp2_with fail
  refine (HI.out w1).mono ?_
  rintro e w2 ⟨rfl, b2⟩
  have HB := Lib.hid (below_to b1 b2 (Nat.le_refl _))
  clear b1 b2
  go_wp2
  go_ret
  exact ⟨rfl, HB.out⟩
end Go.Proofs.Ytinfpggpfpmpbaa
