import Derived.Test.YtinfpggpfpmpbaaF15
namespace Go.Proofs.Ytinfpggpfpmpbaa
open Go.RowKit

theorem lawPlaneSub (b x : Int) (w : World) :
    Calls Try.prog 6 #[.int .i64 b, .int .i64 x] w fun e w' => e = .returned (.bool true) ∧ Below w.heap.size w w' := by
  obtain ⟨r, hr⟩ : ∃ r : Int, r = (subR b x : Nat) := ⟨_, rfl⟩
  obtain ⟨v, hv⟩ : ∃ v, v = fourOk b x := ⟨_, rfl⟩
  have HS := Lib.hid (sPlaneSub b x)
  have HI := Lib.hid (iPlaneSub b x)
  rw [← hr, ← hv] at HS HI
  clear hr hv
  have e0 : (r != r) = false := by simp
  have e1 : (v != v) = false := by simp
  go_enter Try.func6, Try.ntmps6
  go_wp2_with fail
  refine (HS.out w).mono ?_
  rintro e w1 ⟨rfl, b1⟩
  go_wp2_with fail
  refine (HI.out w1).mono ?_
  rintro e w2 ⟨rfl, b2⟩
  have HB := Lib.hid (below_to b1 b2 (Nat.le_refl _))
  clear b1 b2
  go_wp2
  go_ret
  exact ⟨rfl, HB.out⟩
end Go.Proofs.Ytinfpggpfpmpbaa
