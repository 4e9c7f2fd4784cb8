import Derived.Test.YthggjkpnjogcaaaF16
namespace Go.Proofs.Ythggjkpnjogcaaa
open Go.RowKit

theorem lawDodecadOf (x : Int) (w : World) :
    Calls Try.prog 6 #[.int .i64 x] w fun e w' => e = .returned (.bool true) ∧ Below w.heap.size w w' := by
  obtain ⟨r, hr⟩ : ∃ r : Int, r = (dodA x : Nat) := ⟨_, rfl⟩
  obtain ⟨s, hs⟩ : ∃ s : Int, s = (dodB x : Nat) := ⟨_, rfl⟩
  obtain ⟨v, hv⟩ : ∃ v, v = dodOk x := ⟨_, rfl⟩
  have HS := Lib.hid (sDodecadOf x)
  have HI := Lib.hid (iDodecadOf x)
  rw [← hr, ← hs, ← hv] at HS HI
  clear hr hs hv
  have e0 : (r != r) = false := by simp
  have e1 : (v != v) = false := by simp
  have e2 : (s != s) = false := by simp
  go_enter Try.func6, Try.ntmps6
  go_wp2_with fail
  refine (HS.out w).mono ?_
  rintro e w1 ⟨rfl, b1⟩
  go_wp2_with fail
  refine (HI.out w1).mono ?_
  rintro e w2 ⟨rfl, b2⟩
  have HB := Lib.hid (below_to b1 b2 (Nat.le_refl _))
  clear b1 b2
  go_wp2
  go_ret
  exact ⟨rfl, HB.out⟩
end Go.Proofs.Ythggjkpnjogcaaa
