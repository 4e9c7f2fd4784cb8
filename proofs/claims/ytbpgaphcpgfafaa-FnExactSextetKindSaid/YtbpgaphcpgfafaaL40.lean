import Derived.Test.YtbpgaphcpgfafaaA5
import Derived.Test.YtbpgaphcpgfafaaF14
namespace Go.Proofs.Ytbpgaphcpgfafaa
open Go.RowKit

set_option maxRecDepth 100000 in
set_option maxHeartbeats 1000000 in
theorem lawSextetKind (A1 : Option Addr) (n1 c1 : Nat) (zs1 : List Int) (A2 : Option Addr) (n2 c2 : Nat) (zs2 : List Int) (w : World) (h1 : IsRow .i64 w A1 n1 c1 zs1) (h2 : IsRow .i64 w A2 n2 c2 zs2) :
    Calls Try.prog 7 #[.slice A1 n1 c1, .slice A2 n2 c2] w fun e w' => e = .returned (.bool true) ∧ Below w.heap.size w w' := by
  have H1 := Lib.hid h1
  clear h1
  have H2 := Lib.hid h2
  clear h2
  by_cases hn1 : n1 ≤ 1048576
  · skip
    by_cases hn2 : n2 ≤ 1048576
    · skip
      go_enter Try.func7, Try.ntmps7
      go_wp2_with fail
      refine (toIntS_any A1 n1 c1 zs1 w H1.out hn1).mono ?_
      rintro e w1 ⟨As1, cs1, rfl, os1, b1⟩
      have z1 := b1.size
      have bb := b1
      have loos1 := Lib.hid os1.at_base
      have hios1 := Lib.hid os1.at_lt
      go_wp2_with fail
      refine (toIntS_any A2 n2 c2 zs2 w1 (H2.out.below bb) hn2).mono ?_
      rintro e w2 ⟨As2, cs2, rfl, os2, b2⟩
      have z2 := b2.size
      replace os1 := os1.below b2 (Nat.le_refl _)
      replace bb := below_to bb b2 (Nat.le_refl _)
      have loos2 := Lib.hid os2.at_base
      have hios2 := Lib.hid os2.at_lt
      go_wp2_with fail
      refine (sSextetKind _ As1 As2 n1 n2 cs1 cs2 _ _ w2 os1.sl os2.sl (Nat.le_refl _)).mono ?_
      rintro e w3 ⟨rfl, b3⟩
      have z3 := b3.size
      replace os1 := os1.below b3 (Nat.le_refl _)
      replace os2 := os2.below b3 (Nat.le_refl _)
      replace bb := below_to bb b3 (Nat.le_refl _)
      go_wp2_with fail
      refine (toIntS_any A1 n1 c1 zs1 w3 (H1.out.below bb) hn1).mono ?_
      rintro e w4 ⟨Ax1, cx1, rfl, ox1, b4⟩
      have z4 := b4.size
      replace os1 := os1.below b4 (Nat.le_refl _)
      replace os2 := os2.below b4 (Nat.le_refl _)
      replace bb := below_to bb b4 (Nat.le_refl _)
      have loox1 := Lib.hid ox1.at_base
      have hiox1 := Lib.hid ox1.at_lt
      go_wp2_with fail
      refine (toIntS_any A2 n2 c2 zs2 w4 (H2.out.below bb) hn2).mono ?_
      rintro e w5 ⟨Ax2, cx2, rfl, ox2, b5⟩
      have z5 := b5.size
      replace os1 := os1.below b5 (Nat.le_refl _)
      replace os2 := os2.below b5 (Nat.le_refl _)
      replace ox1 := ox1.below b5 (Nat.le_refl _)
      replace bb := below_to bb b5 (Nat.le_refl _)
      have loox2 := Lib.hid ox2.at_base
      have hiox2 := Lib.hid ox2.at_lt
      go_wp2_with fail
      refine (iSextetKind _ Ax1 Ax2 n1 n2 cx1 cx2 _ _ w5 ox1.sl ox2.sl (Nat.le_refl _)).mono ?_
      rintro e w6 ⟨rfl, b6⟩
      have z6 := b6.size
      replace os1 := os1.below b6 (Nat.le_refl _)
      replace os2 := os2.below b6 (Nat.le_refl _)
      replace ox1 := ox1.below b6 (Nat.le_refl _)
      replace ox2 := ox2.below b6 (Nat.le_refl _)
      replace bb := below_to bb b6 (Nat.le_refl _)
      go_wp2_with fail
      refine (toIntS_any A1 n1 c1 zs1 w6 (H1.out.below bb) hn1).mono ?_
      rintro e w7 ⟨At1, ct1, rfl, ot1, b7⟩
      have z7 := b7.size
      replace os1 := os1.below b7 (Nat.le_refl _)
      replace os2 := os2.below b7 (Nat.le_refl _)
      replace ox1 := ox1.below b7 (Nat.le_refl _)
      replace ox2 := ox2.below b7 (Nat.le_refl _)
      replace bb := below_to bb b7 (Nat.le_refl _)
      have loot1 := Lib.hid ot1.at_base
      have hiot1 := Lib.hid ot1.at_lt
      go_wp2_with fail
      refine (eqIntS_any _ Ax1 At1 n1 n1 cx1 ct1 _ _ w7 ox1.sl ot1.sl hn1).mono ?_
      rw [decide_eq_true rfl]
      rintro e w8 ⟨rfl, b8⟩
      have z8 := b8.size
      replace os1 := os1.below b8 (Nat.le_refl _)
      replace os2 := os2.below b8 (Nat.le_refl _)
      replace ox1 := ox1.below b8 (Nat.le_refl _)
      replace ox2 := ox2.below b8 (Nat.le_refl _)
      replace ot1 := ot1.below b8 (Nat.le_refl _)
      replace bb := below_to bb b8 (Nat.le_refl _)
      go_wp2_with fail
      refine (toIntS_any A2 n2 c2 zs2 w8 (H2.out.below bb) hn2).mono ?_
      rintro e w9 ⟨At2, ct2, rfl, ot2, b9⟩
      have z9 := b9.size
      replace os1 := os1.below b9 (Nat.le_refl _)
      replace os2 := os2.below b9 (Nat.le_refl _)
      replace ox1 := ox1.below b9 (Nat.le_refl _)
      replace ox2 := ox2.below b9 (Nat.le_refl _)
      replace ot1 := ot1.below b9 (Nat.le_refl _)
      replace bb := below_to bb b9 (Nat.le_refl _)
      have loot2 := Lib.hid ot2.at_base
      have hiot2 := Lib.hid ot2.at_lt
      go_wp2_with fail
      refine (eqIntS_any _ Ax2 At2 n2 n2 cx2 ct2 _ _ w9 ox2.sl ot2.sl hn2).mono ?_
      rw [decide_eq_true rfl]
      rintro e w10 ⟨rfl, b10⟩
      have z10 := b10.size
      replace os1 := os1.below b10 (Nat.le_refl _)
      replace os2 := os2.below b10 (Nat.le_refl _)
      replace ox1 := ox1.below b10 (Nat.le_refl _)
      replace ox2 := ox2.below b10 (Nat.le_refl _)
      replace ot1 := ot1.below b10 (Nat.le_refl _)
      replace ot2 := ot2.below b10 (Nat.le_refl _)
      replace bb := below_to bb b10 (Nat.le_refl _)
      go_wp2
      go_ret
      exact ⟨rfl, bb⟩
    · go_enter Try.func7, Try.ntmps7
      go_wp2
      go_ret
      exact ⟨rfl, Below.refl _ _⟩
  · go_enter Try.func7, Try.ntmps7
    go_wp2
    go_ret
    exact ⟨rfl, Below.refl _ _⟩
end Go.Proofs.Ytbpgaphcpgfafaa
