import Derived.Test.YthggjkpnjogcaaaA5
import Derived.Test.YthggjkpnjogcaaaF17
namespace Go.Proofs.Ythggjkpnjogcaaa
open Go.RowKit

set_option maxRecDepth 100000 in
set_option maxHeartbeats 1000000 in
theorem lawOctadMeet (x : Int) (w : World) :
    Calls Try.prog 11 #[.int .i64 x] w fun e w' => e = .returned (.bool true) ∧ Below w.heap.size w w' := by
  go_enter Try.func11, Try.ntmps11
  go_wp2_with fail
  refine (sOctadMeet x w).mono ?_
  rintro e w1 ⟨Aw, nw, cw, rfl, ow, b1⟩
  have mw := ow.length
  have Mw := Lib.hid mw
  clear mw
  have z1 := b1.size
  have bb := b1
  have loow := Lib.hid ow.at_base
  have hiow := Lib.hid ow.at_lt
  go_wp2_with fail
  refine (iOctadMeet x w1).mono ?_
  rintro e w2 ⟨Ag, ng, cg, rfl, og, b2⟩
  have mg := og.length
  have Mg := Lib.hid mg
  clear mg
  have z2 := b2.size
  replace ow := ow.below b2 (Nat.le_refl _)
  replace bb := below_to bb b2 (Nat.le_refl _)
  have loog := Lib.hid og.at_base
  have hiog := Lib.hid og.at_lt
  go_wp2_with fail
  refine (eqIntS_any _ Ag Aw ng nw cg cw _ _ w2 og.sl ow.sl (by rw [← Mg.out]; exact (Nat.le_trans (meet_len _) (by decide)))).mono ?_
  rw [decide_eq_true rfl]
  rintro e w3 ⟨rfl, b3⟩
  have z3 := b3.size
  replace ow := ow.below b3 (Nat.le_refl _)
  replace og := og.below b3 (Nat.le_refl _)
  replace bb := below_to bb b3 (Nat.le_refl _)
  have hng : ng ≤ 1048576 := (by rw [← Mg.out]; exact (Nat.le_trans (meet_len _) (by decide)))
  go_wp2_with fail
  refine (markIntS_any _ Ag ng cg _ 1 w3 og hng (by omega) (by omega)).mono ?_
  rintro e w4 ⟨rfl, pg, q4⟩
  have z4 := q4.size
  replace ow := ow.only q4 (fun x y hx hy => by have h1 := loow.out x hx; have h2 := hiow.out x hx; have h3 := loog.out y hy; have h4 := hiog.out y hy; omega)
  clear og
  have og := pg
  clear pg
  replace bb := bb.trans (q4.below (by omega) (fun y hy => by have h3 := loog.out y hy; omega))
  go_wp2_with fail
  refine (heldIntS_any _ Ag ng cg 1 w4 og.sl hng (by omega) (by omega)).mono ?_
  rintro e w' ⟨rfl, rfl⟩
  go_wp2_with fail
  refine (iOctadMeet x w4).mono ?_
  rintro e w5 ⟨Ah, nh, ch, rfl, oh, b5⟩
  have mh := oh.length
  have Mh := Lib.hid mh
  clear mh
  have z5 := b5.size
  replace ow := ow.below b5 (Nat.le_refl _)
  replace og := og.below b5 (Nat.le_refl _)
  replace bb := below_to bb b5 (Nat.le_refl _)
  have looh := Lib.hid oh.at_base
  have hioh := Lib.hid oh.at_lt
  go_wp2_with fail
  refine (eqIntS_any _ Ah Aw nh nw ch cw _ _ w5 oh.sl ow.sl (by rw [← Mh.out]; exact (Nat.le_trans (meet_len _) (by decide)))).mono ?_
  rw [decide_eq_true rfl]
  rintro e w6 ⟨rfl, b6⟩
  have z6 := b6.size
  replace ow := ow.below b6 (Nat.le_refl _)
  replace og := og.below b6 (Nat.le_refl _)
  replace oh := oh.below b6 (Nat.le_refl _)
  replace bb := below_to bb b6 (Nat.le_refl _)
  go_wp2_with fail
  refine (heldIntS_any _ Ag ng cg 1 w6 og.sl hng (by omega) (by omega)).mono ?_
  rintro e w' ⟨rfl, rfl⟩
  go_wp2
  go_ret
  exact ⟨rfl, bb⟩
end Go.Proofs.Ythggjkpnjogcaaa
