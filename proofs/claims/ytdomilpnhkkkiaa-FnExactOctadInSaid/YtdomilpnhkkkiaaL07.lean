import Derived.Test.YtdomilpnhkkkiaaC4
namespace Go.Proofs.Ytdomilpnhkkkiaa
open Go.RowKit

theorem lawOctadIn (x : Int) (w : World) :
    Calls Try.prog 10 #[.int .i64 x] w fun e w' => e = .returned (.bool true) ∧ Below w.heap.size w w' := by
  have e0 : (octZ x == octZ x) = true := by simp
  have e1 : (octZ x != octZ x) = false := by simp
  go_enter Try.func10, Try.ntmps10
  go_wp2_with fail
  refine (sOctadInZ x w).mono ?_
  rintro e w1 ⟨rfl, b1⟩
  go_wp2_with fail
  refine (iOctadInZ x w1).mono ?_
  rintro e w2 ⟨rfl, b2⟩
  have HB := Lib.hid (below_to b1 b2 (Nat.le_refl _))
  clear b1 b2
  go_wp2
  go_ret
  exact ⟨rfl, HB.out⟩
end Go.Proofs.Ytdomilpnhkkkiaa
