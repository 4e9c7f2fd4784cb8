import Derived.Test.YtdomilpnhkkkiaaD1
namespace Go.Proofs.Ytdomilpnhkkkiaa
open Go.RowKit

theorem lawOctadCount (a b : Int) (w : World) :
    Calls Try.prog 13 #[.int .i64 a, .int .i64 b] w fun e w' => e = .returned (.bool true) ∧ Below w.heap.size w w' := by
  obtain ⟨r, hr⟩ : ∃ r, r = cntR a b := ⟨_, rfl⟩
  obtain ⟨v, hv⟩ : ∃ v, v = cntOk a b := ⟨_, rfl⟩
  have HS := Lib.hid (sOctadCount a b)
  have HI := Lib.hid (iOctadCount a b)
  rw [← hr, ← hv] at HS HI
  clear hr hv
  have e0 : (r != r) = false := by simp
  have e1 : (v != v) = false := by simp
  have e2 : (r == r) = true := by simp
  have e3 : (v == v) = true := by simp
  go_enter Try.func13, Try.ntmps13
  go_wp2_with fail
  refine (HS.out w).mono ?_
  rintro e w1 ⟨rfl, b1⟩
  go_wp2_with fail
  refine (HI.out w1).mono ?_
  rintro e w2 ⟨rfl, b2⟩
  have HB := Lib.hid (below_to b1 b2 (Nat.le_refl _))
  clear b1 b2
  go_wp2
  go_ret
  exact ⟨rfl, HB.out⟩
end Go.Proofs.Ytdomilpnhkkkiaa
