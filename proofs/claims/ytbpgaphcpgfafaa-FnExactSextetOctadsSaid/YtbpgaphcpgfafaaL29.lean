import Derived.Test.YtbpgaphcpgfafaaA5
import Derived.Test.YtbpgaphcpgfafaaF11
namespace Go.Proofs.Ytbpgaphcpgfafaa
open Go.RowKit

set_option maxRecDepth 100000 in
set_option maxHeartbeats 1000000 in
theorem lawSextetOctads (A1 : Option Addr) (n1 c1 : Nat) (zs1 : List Int) (w : World) (h1 : IsRow .i64 w A1 n1 c1 zs1) :
    Calls Try.prog 4 #[.slice A1 n1 c1] w fun e w' => e = .returned (.bool true) ∧ Below w.heap.size w w' := by
  have H1 := Lib.hid h1
  clear h1
  by_cases hn1 : n1 ≤ 1048576
  · skip
    go_enter Try.func4, Try.ntmps4
    go_wp2_with fail
    refine (toIntS_any A1 n1 c1 zs1 w H1.out hn1).mono ?_
    rintro e w1 ⟨As1, cs1, rfl, os1, b1⟩
    have z1 := b1.size
    have bb := b1
    have loos1 := Lib.hid os1.at_base
    have hios1 := Lib.hid os1.at_lt
    go_wp2_with fail
    refine (sSextetOctads _ As1 n1 cs1 _ w1 os1.sl (Nat.le_refl _)).mono ?_
    rintro e w2 ⟨Aw, nw, cw, rfl, ow, b2⟩
    have mw := ow.length
    have Mw := Lib.hid mw
    clear mw
    have z2 := b2.size
    replace os1 := os1.below b2 (Nat.le_refl _)
    replace bb := below_to bb b2 (Nat.le_refl _)
    have loow := Lib.hid ow.at_base
    have hiow := Lib.hid ow.at_lt
    go_wp2_with fail
    refine (toIntS_any A1 n1 c1 zs1 w2 (H1.out.below bb) hn1).mono ?_
    rintro e w3 ⟨Ax1, cx1, rfl, ox1, b3⟩
    have z3 := b3.size
    replace os1 := os1.below b3 (Nat.le_refl _)
    replace ow := ow.below b3 (Nat.le_refl _)
    replace bb := below_to bb b3 (Nat.le_refl _)
    have loox1 := Lib.hid ox1.at_base
    have hiox1 := Lib.hid ox1.at_lt
    go_wp2_with fail
    refine (iSextetOctads _ Ax1 n1 cx1 _ w3 ox1.sl (Nat.le_refl _)).mono ?_
    rintro e w4 ⟨Ag, ng, cg, rfl, og, b4⟩
    have mg := og.length
    have Mg := Lib.hid mg
    clear mg
    have z4 := b4.size
    replace os1 := os1.below b4 (Nat.le_refl _)
    replace ow := ow.below b4 (Nat.le_refl _)
    replace ox1 := ox1.below b4 (Nat.le_refl _)
    replace bb := below_to bb b4 (Nat.le_refl _)
    have loog := Lib.hid og.at_base
    have hiog := Lib.hid og.at_lt
    go_wp2_with fail
    refine (eqIntS_any _ Ag Aw ng nw cg cw _ _ w4 og.sl ow.sl (by rw [← Mg.out]; exact (Nat.le_trans (so_len _) (by decide)))).mono ?_
    rw [decide_eq_true rfl]
    rintro e w5 ⟨rfl, b5⟩
    have z5 := b5.size
    replace os1 := os1.below b5 (Nat.le_refl _)
    replace ow := ow.below b5 (Nat.le_refl _)
    replace ox1 := ox1.below b5 (Nat.le_refl _)
    replace og := og.below b5 (Nat.le_refl _)
    replace bb := below_to bb b5 (Nat.le_refl _)
    go_wp2_with fail
    refine (toIntS_any A1 n1 c1 zs1 w5 (H1.out.below bb) hn1).mono ?_
    rintro e w6 ⟨At1, ct1, rfl, ot1, b6⟩
    have z6 := b6.size
    replace os1 := os1.below b6 (Nat.le_refl _)
    replace ow := ow.below b6 (Nat.le_refl _)
    replace ox1 := ox1.below b6 (Nat.le_refl _)
    replace og := og.below b6 (Nat.le_refl _)
    replace bb := below_to bb b6 (Nat.le_refl _)
    have loot1 := Lib.hid ot1.at_base
    have hiot1 := Lib.hid ot1.at_lt
    go_wp2_with fail
    refine (eqIntS_any _ Ax1 At1 n1 n1 cx1 ct1 _ _ w6 ox1.sl ot1.sl hn1).mono ?_
    rw [decide_eq_true rfl]
    rintro e w7 ⟨rfl, b7⟩
    have z7 := b7.size
    replace os1 := os1.below b7 (Nat.le_refl _)
    replace ow := ow.below b7 (Nat.le_refl _)
    replace ox1 := ox1.below b7 (Nat.le_refl _)
    replace og := og.below b7 (Nat.le_refl _)
    replace ot1 := ot1.below b7 (Nat.le_refl _)
    replace bb := below_to bb b7 (Nat.le_refl _)
    go_wp2_with fail
    refine (markIntS_any _ Ax1 n1 cx1 _ 1 w7 ox1 hn1 (by omega) (by omega)).mono ?_
    rintro e w8 ⟨rfl, px1, q8⟩
    have z8 := q8.size
    replace os1 := os1.only q8 (fun x y hx hy => by have h1 := loos1.out x hx; have h2 := hios1.out x hx; have h3 := loox1.out y hy; have h4 := hiox1.out y hy; omega)
    replace ow := ow.only q8 (fun x y hx hy => by have h1 := loow.out x hx; have h2 := hiow.out x hx; have h3 := loox1.out y hy; have h4 := hiox1.out y hy; omega)
    replace og := og.only q8 (fun x y hx hy => by have h1 := loog.out x hx; have h2 := hiog.out x hx; have h3 := loox1.out y hy; have h4 := hiox1.out y hy; omega)
    replace ot1 := ot1.only q8 (fun x y hx hy => by have h1 := loot1.out x hx; have h2 := hiot1.out x hx; have h3 := loox1.out y hy; have h4 := hiox1.out y hy; omega)
    clear ox1
    have ox1 := px1
    clear px1
    replace bb := bb.trans (q8.below (by omega) (fun y hy => by have h3 := loox1.out y hy; omega))
    go_wp2_with fail
    refine (eqIntS_any _ Ag Aw ng nw cg cw _ _ w8 og.sl ow.sl (by rw [← Mg.out]; exact (Nat.le_trans (so_len _) (by decide)))).mono ?_
    rw [decide_eq_true rfl]
    rintro e w9 ⟨rfl, b9⟩
    have z9 := b9.size
    replace os1 := os1.below b9 (Nat.le_refl _)
    replace ow := ow.below b9 (Nat.le_refl _)
    replace ox1 := ox1.below b9 (Nat.le_refl _)
    replace og := og.below b9 (Nat.le_refl _)
    replace ot1 := ot1.below b9 (Nat.le_refl _)
    replace bb := below_to bb b9 (Nat.le_refl _)
    have hng : ng ≤ 1048576 := (by rw [← Mg.out]; exact (Nat.le_trans (so_len _) (by decide)))
    go_wp2_with fail
    refine (markIntS_any _ Ag ng cg _ 1 w9 og hng (by omega) (by omega)).mono ?_
    rintro e w10 ⟨rfl, pg, q10⟩
    have z10 := q10.size
    replace os1 := os1.only q10 (fun x y hx hy => by have h1 := loos1.out x hx; have h2 := hios1.out x hx; have h3 := loog.out y hy; have h4 := hiog.out y hy; omega)
    replace ow := ow.only q10 (fun x y hx hy => by have h1 := loow.out x hx; have h2 := hiow.out x hx; have h3 := loog.out y hy; have h4 := hiog.out y hy; omega)
    replace ox1 := ox1.only q10 (fun x y hx hy => by have h1 := loox1.out x hx; have h2 := hiox1.out x hx; have h3 := loog.out y hy; have h4 := hiog.out y hy; omega)
    replace ot1 := ot1.only q10 (fun x y hx hy => by have h1 := loot1.out x hx; have h2 := hiot1.out x hx; have h3 := loog.out y hy; have h4 := hiog.out y hy; omega)
    clear og
    have og := pg
    clear pg
    replace bb := bb.trans (q10.below (by omega) (fun y hy => by have h3 := loog.out y hy; omega))
    go_wp2_with fail
    refine (heldIntS_any _ Ag ng cg 1 w10 og.sl hng (by omega) (by omega)).mono ?_
    rintro e w' ⟨rfl, rfl⟩
    go_wp2_with fail
    refine (toIntS_any A1 n1 c1 zs1 w10 (H1.out.below bb) hn1).mono ?_
    rintro e w11 ⟨Ay1, cy1, rfl, oy1, b11⟩
    have z11 := b11.size
    replace os1 := os1.below b11 (Nat.le_refl _)
    replace ow := ow.below b11 (Nat.le_refl _)
    replace ox1 := ox1.below b11 (Nat.le_refl _)
    replace og := og.below b11 (Nat.le_refl _)
    replace ot1 := ot1.below b11 (Nat.le_refl _)
    replace bb := below_to bb b11 (Nat.le_refl _)
    have looy1 := Lib.hid oy1.at_base
    have hioy1 := Lib.hid oy1.at_lt
    go_wp2_with fail
    refine (iSextetOctads _ Ay1 n1 cy1 _ w11 oy1.sl (Nat.le_refl _)).mono ?_
    rintro e w12 ⟨Ah, nh, ch, rfl, oh, b12⟩
    have mh := oh.length
    have Mh := Lib.hid mh
    clear mh
    have z12 := b12.size
    replace os1 := os1.below b12 (Nat.le_refl _)
    replace ow := ow.below b12 (Nat.le_refl _)
    replace ox1 := ox1.below b12 (Nat.le_refl _)
    replace og := og.below b12 (Nat.le_refl _)
    replace ot1 := ot1.below b12 (Nat.le_refl _)
    replace oy1 := oy1.below b12 (Nat.le_refl _)
    replace bb := below_to bb b12 (Nat.le_refl _)
    have looh := Lib.hid oh.at_base
    have hioh := Lib.hid oh.at_lt
    go_wp2_with fail
    refine (eqIntS_any _ Ah Aw nh nw ch cw _ _ w12 oh.sl ow.sl (by rw [← Mh.out]; exact (Nat.le_trans (so_len _) (by decide)))).mono ?_
    rw [decide_eq_true rfl]
    rintro e w13 ⟨rfl, b13⟩
    have z13 := b13.size
    replace os1 := os1.below b13 (Nat.le_refl _)
    replace ow := ow.below b13 (Nat.le_refl _)
    replace ox1 := ox1.below b13 (Nat.le_refl _)
    replace og := og.below b13 (Nat.le_refl _)
    replace ot1 := ot1.below b13 (Nat.le_refl _)
    replace oy1 := oy1.below b13 (Nat.le_refl _)
    replace oh := oh.below b13 (Nat.le_refl _)
    replace bb := below_to bb b13 (Nat.le_refl _)
    go_wp2_with fail
    refine (heldIntS_any _ Ag ng cg 1 w13 og.sl hng (by omega) (by omega)).mono ?_
    rintro e w' ⟨rfl, rfl⟩
    go_wp2
    go_ret
    exact ⟨rfl, bb⟩
  · go_enter Try.func4, Try.ntmps4
    go_wp2
    go_ret
    exact ⟨rfl, Below.refl _ _⟩
end Go.Proofs.Ytbpgaphcpgfafaa
