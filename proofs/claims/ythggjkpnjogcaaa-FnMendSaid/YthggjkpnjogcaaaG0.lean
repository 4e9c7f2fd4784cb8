import Derived.Test.YthggjkpnjogcaaaA6
import Derived.Test.YthggjkpnjogcaaaC1
namespace Go.Proofs.Ythggjkpnjogcaaa
open Go.RowKit

theorem iWordMeet (a b : Nat) (w : World) (ha : a < 16777216) (hb : b < 16777216) :
    Calls Try.prog 19 #[.int .i64 a, .int .i64 b] w fun e w' => e = .returned (.tuple #[.int .i64 ((a &&& b : Nat) : Int), .bool true]) ∧ w = w' := by
  have hand := i64_and a b (by omega) (by omega)
  go_enter Try.func19, Try.ntmps19
  go_wp2_with fail
  refine (iWordValid_yes a w ha).mono ?_
  rintro e w' ⟨rfl, rfl⟩
  go_wp2_with fail
  refine (iWordValid_yes b w hb).mono ?_
  rintro e w' ⟨rfl, rfl⟩
  go_wp2
  go_ret2
  exact ⟨rfl, rfl⟩
theorem iWordWeight (a : Nat) (w : World) (ha : a < 16777216) :
    Calls Try.prog 21 #[.int .i64 a] w fun e w' => e = .returned (.int .i64 (wt a)) ∧ w = w' := by
  go_enter Try.func21, Try.ntmps21
  go_wp2_with fail
  refine (iWordValid_yes a w ha).mono ?_
  rintro e w' ⟨rfl, rfl⟩
  go_wp2_with fail
  refine (iweight a w ha).mono ?_
  rintro e w' ⟨rfl, rfl⟩
  go_wp2
  go_ret
  exact ⟨rfl, rfl⟩

end Go.Proofs.Ythggjkpnjogcaaa
