import Derived.Test.YtbpgaphcpgfafaaA5
import Derived.Test.YtbpgaphcpgfafaaF12
namespace Go.Proofs.Ytbpgaphcpgfafaa
open Go.RowKit

set_option maxHeartbeats 400000 in
theorem lawSextetHolds (A : Option Addr) (n cap : Nat) (zs : List Int) (x : Int) (w : World) (h : IsRow .i64 w A n cap zs) :
    Calls Try.prog 5 #[.slice A n cap, .int .i64 x] w fun e w' => e = .returned (.bool true) ∧ Below w.heap.size w w' := by
  have H := Lib.hid h
  clear h
  by_cases hn : n ≤ 1048576
  · go_enter Try.func5, Try.ntmps5
    go_wp2_with fail
    refine (toIntS_any A n cap zs w H.out hn).mono ?_
    rintro e w1 ⟨A1, c1, rfl, o1, b1⟩
    go_wp2_with fail
    refine (sSextetHolds _ A1 n c1 _ x w1 o1.sl (Nat.le_refl _)).mono ?_
    rintro e w2 ⟨rfl, b2⟩
    go_wp2_with fail
    refine (toIntS_any A n cap zs w2 ((H.out.below b1).below b2) hn).mono ?_
    rintro e w3 ⟨A2, c2, rfl, o2, b3⟩
    go_wp2_with fail
    refine (iSextetHolds _ A2 n c2 _ x w3 o2.sl (Nat.le_refl _)).mono ?_
    rintro e w4 ⟨rfl, b4⟩
    go_wp2_with fail
    refine (toIntS_any A n cap zs w4 ((((H.out.below b1).below b2).below b3).below b4) hn).mono ?_
    rintro e w5 ⟨A3, c3, rfl, o3, b5⟩
    go_wp2_with fail
    refine (eqIntS_any _ A2 A3 n n c2 c3 _ _ w5 (((o2.sl.below b4).below (b5.mono b4.size)).more (Nat.le_trans b4.size b5.size)) o3.sl hn).mono ?_
    rw [decide_eq_true rfl]
    rintro e w6 ⟨rfl, b6⟩
    go_wp2
    go_ret
    exact ⟨rfl, below_to (below_to (below_to (below_to (below_to b1 b2 (Nat.le_refl _)) b3 (Nat.le_refl _)) b4 (Nat.le_refl _)) b5 (Nat.le_refl _)) b6 (Nat.le_refl _)⟩
  · go_enter Try.func5, Try.ntmps5
    go_wp2
    go_ret
    exact ⟨rfl, Below.refl _ _⟩
end Go.Proofs.Ytbpgaphcpgfafaa
