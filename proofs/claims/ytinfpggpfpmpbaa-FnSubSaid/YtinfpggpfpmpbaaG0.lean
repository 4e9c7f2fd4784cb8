import Derived.Test.YtinfpggpfpmpbaaA6
import Derived.Test.YtinfpggpfpmpbaaC1
namespace Go.Proofs.Ytinfpggpfpmpbaa
open Go.RowKit

theorem iWordWeight (a : Nat) (w : World) (ha : a < 16777216) :
    Calls Try.prog 30 #[.int .i64 a] w fun e w' => e = .returned (.int .i64 (wt a)) ∧ w = w' := by
  go_enter Try.func30, Try.ntmps30
  go_wp2_with fail
  refine (iWordValid_yes a w ha).mono ?_
  rintro e w' ⟨rfl, rfl⟩
  go_wp2_with fail
  refine (iweight a w ha).mono ?_
  rintro e w' ⟨rfl, rfl⟩
  go_wp2
  go_ret
  exact ⟨rfl, rfl⟩

end Go.Proofs.Ytinfpggpfpmpbaa
