import Derived.Test.YtbpgaphcpgfafaaA5
import Derived.Test.YtbpgaphcpgfafaaF13
namespace Go.Proofs.Ytbpgaphcpgfafaa
open Go.RowKit

set_option maxRecDepth 100000 in
set_option maxHeartbeats 1000000 in
theorem lawSextetTable (A1 : Option Addr) (n1 c1 : Nat) (zs1 : List Int) (A2 : Option Addr) (n2 c2 : Nat) (zs2 : List Int) (w : World) (h1 : IsRow .i64 w A1 n1 c1 zs1) (h2 : IsRow .i64 w A2 n2 c2 zs2) :
    Calls Try.prog 6 #[.slice A1 n1 c1, .slice A2 n2 c2] w fun e w' => e = .returned (.bool true) ∧ Below w.heap.size w w' := by
  have H1 := Lib.hid h1
  clear h1
  have H2 := Lib.hid h2
  clear h2
  by_cases hn1 : n1 ≤ 1048576
  · skip
    by_cases hn2 : n2 ≤ 1048576
    · skip
      go_enter Try.func6, Try.ntmps6
      go_wp2_with fail
      refine (toIntS_any A1 n1 c1 zs1 w H1.out hn1).mono ?_
      rintro e w1 ⟨As1, cs1, rfl, os1, b1⟩
      have z1 := b1.size
      have bb := b1
      have loos1 := Lib.hid os1.at_base
      have hios1 := Lib.hid os1.at_lt
      go_wp2_with fail
      refine (toIntS_any A2 n2 c2 zs2 w1 (H2.out.below bb) hn2).mono ?_
      rintro e w2 ⟨As2, cs2, rfl, os2, b2⟩
      have z2 := b2.size
      replace os1 := os1.below b2 (Nat.le_refl _)
      replace bb := below_to bb b2 (Nat.le_refl _)
      have loos2 := Lib.hid os2.at_base
      have hios2 := Lib.hid os2.at_lt
      go_wp2_with fail
      refine (sSextetTable _ As1 As2 n1 n2 cs1 cs2 _ _ w2 os1.sl os2.sl (Nat.le_refl _)).mono ?_
      rintro e w3 ⟨Aw, nw, cw, rfl, ow, b3⟩
      have mw := ow.length
      have Mw := Lib.hid mw
      clear mw
      have z3 := b3.size
      replace os1 := os1.below b3 (Nat.le_refl _)
      replace os2 := os2.below b3 (Nat.le_refl _)
      replace bb := below_to bb b3 (Nat.le_refl _)
      have loow := Lib.hid ow.at_base
      have hiow := Lib.hid ow.at_lt
      go_wp2_with fail
      refine (toIntS_any A1 n1 c1 zs1 w3 (H1.out.below bb) hn1).mono ?_
      rintro e w4 ⟨Ax1, cx1, rfl, ox1, b4⟩
      have z4 := b4.size
      replace os1 := os1.below b4 (Nat.le_refl _)
      replace os2 := os2.below b4 (Nat.le_refl _)
      replace ow := ow.below b4 (Nat.le_refl _)
      replace bb := below_to bb b4 (Nat.le_refl _)
      have loox1 := Lib.hid ox1.at_base
      have hiox1 := Lib.hid ox1.at_lt
      go_wp2_with fail
      refine (toIntS_any A2 n2 c2 zs2 w4 (H2.out.below bb) hn2).mono ?_
      rintro e w5 ⟨Ax2, cx2, rfl, ox2, b5⟩
      have z5 := b5.size
      replace os1 := os1.below b5 (Nat.le_refl _)
      replace os2 := os2.below b5 (Nat.le_refl _)
      replace ow := ow.below b5 (Nat.le_refl _)
      replace ox1 := ox1.below b5 (Nat.le_refl _)
      replace bb := below_to bb b5 (Nat.le_refl _)
      have loox2 := Lib.hid ox2.at_base
      have hiox2 := Lib.hid ox2.at_lt
      go_wp2_with fail
      refine (iSextetTable _ Ax1 Ax2 n1 n2 cx1 cx2 _ _ w5 ox1.sl ox2.sl (Nat.le_refl _)).mono ?_
      rintro e w6 ⟨Ag, ng, cg, rfl, og, b6⟩
      have mg := og.length
      have Mg := Lib.hid mg
      clear mg
      have z6 := b6.size
      replace os1 := os1.below b6 (Nat.le_refl _)
      replace os2 := os2.below b6 (Nat.le_refl _)
      replace ow := ow.below b6 (Nat.le_refl _)
      replace ox1 := ox1.below b6 (Nat.le_refl _)
      replace ox2 := ox2.below b6 (Nat.le_refl _)
      replace bb := below_to bb b6 (Nat.le_refl _)
      have loog := Lib.hid og.at_base
      have hiog := Lib.hid og.at_lt
      go_wp2_with fail
      refine (eqIntS_any _ Ag Aw ng nw cg cw _ _ w6 og.sl ow.sl (by rw [← Mg.out]; exact (Nat.le_trans (tab_len _ _) (by decide)))).mono ?_
      rw [decide_eq_true rfl]
      rintro e w7 ⟨rfl, b7⟩
      have z7 := b7.size
      replace os1 := os1.below b7 (Nat.le_refl _)
      replace os2 := os2.below b7 (Nat.le_refl _)
      replace ow := ow.below b7 (Nat.le_refl _)
      replace ox1 := ox1.below b7 (Nat.le_refl _)
      replace ox2 := ox2.below b7 (Nat.le_refl _)
      replace og := og.below b7 (Nat.le_refl _)
      replace bb := below_to bb b7 (Nat.le_refl _)
      go_wp2_with fail
      refine (toIntS_any A1 n1 c1 zs1 w7 (H1.out.below bb) hn1).mono ?_
      rintro e w8 ⟨At1, ct1, rfl, ot1, b8⟩
      have z8 := b8.size
      replace os1 := os1.below b8 (Nat.le_refl _)
      replace os2 := os2.below b8 (Nat.le_refl _)
      replace ow := ow.below b8 (Nat.le_refl _)
      replace ox1 := ox1.below b8 (Nat.le_refl _)
      replace ox2 := ox2.below b8 (Nat.le_refl _)
      replace og := og.below b8 (Nat.le_refl _)
      replace bb := below_to bb b8 (Nat.le_refl _)
      have loot1 := Lib.hid ot1.at_base
      have hiot1 := Lib.hid ot1.at_lt
      go_wp2_with fail
      refine (eqIntS_any _ Ax1 At1 n1 n1 cx1 ct1 _ _ w8 ox1.sl ot1.sl hn1).mono ?_
      rw [decide_eq_true rfl]
      rintro e w9 ⟨rfl, b9⟩
      have z9 := b9.size
      replace os1 := os1.below b9 (Nat.le_refl _)
      replace os2 := os2.below b9 (Nat.le_refl _)
      replace ow := ow.below b9 (Nat.le_refl _)
      replace ox1 := ox1.below b9 (Nat.le_refl _)
      replace ox2 := ox2.below b9 (Nat.le_refl _)
      replace og := og.below b9 (Nat.le_refl _)
      replace ot1 := ot1.below b9 (Nat.le_refl _)
      replace bb := below_to bb b9 (Nat.le_refl _)
      go_wp2_with fail
      refine (toIntS_any A2 n2 c2 zs2 w9 (H2.out.below bb) hn2).mono ?_
      rintro e w10 ⟨At2, ct2, rfl, ot2, b10⟩
      have z10 := b10.size
      replace os1 := os1.below b10 (Nat.le_refl _)
      replace os2 := os2.below b10 (Nat.le_refl _)
      replace ow := ow.below b10 (Nat.le_refl _)
      replace ox1 := ox1.below b10 (Nat.le_refl _)
      replace ox2 := ox2.below b10 (Nat.le_refl _)
      replace og := og.below b10 (Nat.le_refl _)
      replace ot1 := ot1.below b10 (Nat.le_refl _)
      replace bb := below_to bb b10 (Nat.le_refl _)
      have loot2 := Lib.hid ot2.at_base
      have hiot2 := Lib.hid ot2.at_lt
      go_wp2_with fail
      refine (eqIntS_any _ Ax2 At2 n2 n2 cx2 ct2 _ _ w10 ox2.sl ot2.sl hn2).mono ?_
      rw [decide_eq_true rfl]
      rintro e w11 ⟨rfl, b11⟩
      have z11 := b11.size
      replace os1 := os1.below b11 (Nat.le_refl _)
      replace os2 := os2.below b11 (Nat.le_refl _)
      replace ow := ow.below b11 (Nat.le_refl _)
      replace ox1 := ox1.below b11 (Nat.le_refl _)
      replace ox2 := ox2.below b11 (Nat.le_refl _)
      replace og := og.below b11 (Nat.le_refl _)
      replace ot1 := ot1.below b11 (Nat.le_refl _)
      replace ot2 := ot2.below b11 (Nat.le_refl _)
      replace bb := below_to bb b11 (Nat.le_refl _)
      go_wp2_with fail
      refine (markIntS_any _ Ax1 n1 cx1 _ 1 w11 ox1 hn1 (by omega) (by omega)).mono ?_
      rintro e w12 ⟨rfl, px1, q12⟩
      have z12 := q12.size
      replace os1 := os1.only q12 (fun x y hx hy => by have h1 := loos1.out x hx; have h2 := hios1.out x hx; have h3 := loox1.out y hy; have h4 := hiox1.out y hy; omega)
      replace os2 := os2.only q12 (fun x y hx hy => by have h1 := loos2.out x hx; have h2 := hios2.out x hx; have h3 := loox1.out y hy; have h4 := hiox1.out y hy; omega)
      replace ow := ow.only q12 (fun x y hx hy => by have h1 := loow.out x hx; have h2 := hiow.out x hx; have h3 := loox1.out y hy; have h4 := hiox1.out y hy; omega)
      replace ox2 := ox2.only q12 (fun x y hx hy => by have h1 := loox2.out x hx; have h2 := hiox2.out x hx; have h3 := loox1.out y hy; have h4 := hiox1.out y hy; omega)
      replace og := og.only q12 (fun x y hx hy => by have h1 := loog.out x hx; have h2 := hiog.out x hx; have h3 := loox1.out y hy; have h4 := hiox1.out y hy; omega)
      replace ot1 := ot1.only q12 (fun x y hx hy => by have h1 := loot1.out x hx; have h2 := hiot1.out x hx; have h3 := loox1.out y hy; have h4 := hiox1.out y hy; omega)
      replace ot2 := ot2.only q12 (fun x y hx hy => by have h1 := loot2.out x hx; have h2 := hiot2.out x hx; have h3 := loox1.out y hy; have h4 := hiox1.out y hy; omega)
      clear ox1
      have ox1 := px1
      clear px1
      replace bb := bb.trans (q12.below (by omega) (fun y hy => by have h3 := loox1.out y hy; omega))
      go_wp2_with fail
      refine (markIntS_any _ Ax2 n2 cx2 _ _ w12 ox2 hn2 (by omega) (by omega)).mono ?_
      rintro e w13 ⟨rfl, px2, q13⟩
      have z13 := q13.size
      replace os1 := os1.only q13 (fun x y hx hy => by have h1 := loos1.out x hx; have h2 := hios1.out x hx; have h3 := loox2.out y hy; have h4 := hiox2.out y hy; omega)
      replace os2 := os2.only q13 (fun x y hx hy => by have h1 := loos2.out x hx; have h2 := hios2.out x hx; have h3 := loox2.out y hy; have h4 := hiox2.out y hy; omega)
      replace ow := ow.only q13 (fun x y hx hy => by have h1 := loow.out x hx; have h2 := hiow.out x hx; have h3 := loox2.out y hy; have h4 := hiox2.out y hy; omega)
      replace ox1 := ox1.only q13 (fun x y hx hy => by have h1 := loox1.out x hx; have h2 := hiox1.out x hx; have h3 := loox2.out y hy; have h4 := hiox2.out y hy; omega)
      replace og := og.only q13 (fun x y hx hy => by have h1 := loog.out x hx; have h2 := hiog.out x hx; have h3 := loox2.out y hy; have h4 := hiox2.out y hy; omega)
      replace ot1 := ot1.only q13 (fun x y hx hy => by have h1 := loot1.out x hx; have h2 := hiot1.out x hx; have h3 := loox2.out y hy; have h4 := hiox2.out y hy; omega)
      replace ot2 := ot2.only q13 (fun x y hx hy => by have h1 := loot2.out x hx; have h2 := hiot2.out x hx; have h3 := loox2.out y hy; have h4 := hiox2.out y hy; omega)
      clear ox2
      have ox2 := px2
      clear px2
      replace bb := bb.trans (q13.below (by omega) (fun y hy => by have h3 := loox2.out y hy; omega))
      go_wp2_with fail
      refine (eqIntS_any _ Ag Aw ng nw cg cw _ _ w13 og.sl ow.sl (by rw [← Mg.out]; exact (Nat.le_trans (tab_len _ _) (by decide)))).mono ?_
      rw [decide_eq_true rfl]
      rintro e w14 ⟨rfl, b14⟩
      have z14 := b14.size
      replace os1 := os1.below b14 (Nat.le_refl _)
      replace os2 := os2.below b14 (Nat.le_refl _)
      replace ow := ow.below b14 (Nat.le_refl _)
      replace ox1 := ox1.below b14 (Nat.le_refl _)
      replace ox2 := ox2.below b14 (Nat.le_refl _)
      replace og := og.below b14 (Nat.le_refl _)
      replace ot1 := ot1.below b14 (Nat.le_refl _)
      replace ot2 := ot2.below b14 (Nat.le_refl _)
      replace bb := below_to bb b14 (Nat.le_refl _)
      have hng : ng ≤ 1048576 := (by rw [← Mg.out]; exact (Nat.le_trans (tab_len _ _) (by decide)))
      go_wp2_with fail
      refine (markIntS_any _ Ag ng cg _ 1 w14 og hng (by omega) (by omega)).mono ?_
      rintro e w15 ⟨rfl, pg, q15⟩
      have z15 := q15.size
      replace os1 := os1.only q15 (fun x y hx hy => by have h1 := loos1.out x hx; have h2 := hios1.out x hx; have h3 := loog.out y hy; have h4 := hiog.out y hy; omega)
      replace os2 := os2.only q15 (fun x y hx hy => by have h1 := loos2.out x hx; have h2 := hios2.out x hx; have h3 := loog.out y hy; have h4 := hiog.out y hy; omega)
      replace ow := ow.only q15 (fun x y hx hy => by have h1 := loow.out x hx; have h2 := hiow.out x hx; have h3 := loog.out y hy; have h4 := hiog.out y hy; omega)
      replace ox1 := ox1.only q15 (fun x y hx hy => by have h1 := loox1.out x hx; have h2 := hiox1.out x hx; have h3 := loog.out y hy; have h4 := hiog.out y hy; omega)
      replace ox2 := ox2.only q15 (fun x y hx hy => by have h1 := loox2.out x hx; have h2 := hiox2.out x hx; have h3 := loog.out y hy; have h4 := hiog.out y hy; omega)
      replace ot1 := ot1.only q15 (fun x y hx hy => by have h1 := loot1.out x hx; have h2 := hiot1.out x hx; have h3 := loog.out y hy; have h4 := hiog.out y hy; omega)
      replace ot2 := ot2.only q15 (fun x y hx hy => by have h1 := loot2.out x hx; have h2 := hiot2.out x hx; have h3 := loog.out y hy; have h4 := hiog.out y hy; omega)
      clear og
      have og := pg
      clear pg
      replace bb := bb.trans (q15.below (by omega) (fun y hy => by have h3 := loog.out y hy; omega))
      go_wp2_with fail
      refine (heldIntS_any _ Ag ng cg 1 w15 og.sl hng (by omega) (by omega)).mono ?_
      rintro e w' ⟨rfl, rfl⟩
      go_wp2_with fail
      refine (toIntS_any A1 n1 c1 zs1 w15 (H1.out.below bb) hn1).mono ?_
      rintro e w16 ⟨Ay1, cy1, rfl, oy1, b16⟩
      have z16 := b16.size
      replace os1 := os1.below b16 (Nat.le_refl _)
      replace os2 := os2.below b16 (Nat.le_refl _)
      replace ow := ow.below b16 (Nat.le_refl _)
      replace ox1 := ox1.below b16 (Nat.le_refl _)
      replace ox2 := ox2.below b16 (Nat.le_refl _)
      replace og := og.below b16 (Nat.le_refl _)
      replace ot1 := ot1.below b16 (Nat.le_refl _)
      replace ot2 := ot2.below b16 (Nat.le_refl _)
      replace bb := below_to bb b16 (Nat.le_refl _)
      have looy1 := Lib.hid oy1.at_base
      have hioy1 := Lib.hid oy1.at_lt
      go_wp2_with fail
      refine (toIntS_any A2 n2 c2 zs2 w16 (H2.out.below bb) hn2).mono ?_
      rintro e w17 ⟨Ay2, cy2, rfl, oy2, b17⟩
      have z17 := b17.size
      replace os1 := os1.below b17 (Nat.le_refl _)
      replace os2 := os2.below b17 (Nat.le_refl _)
      replace ow := ow.below b17 (Nat.le_refl _)
      replace ox1 := ox1.below b17 (Nat.le_refl _)
      replace ox2 := ox2.below b17 (Nat.le_refl _)
      replace og := og.below b17 (Nat.le_refl _)
      replace ot1 := ot1.below b17 (Nat.le_refl _)
      replace ot2 := ot2.below b17 (Nat.le_refl _)
      replace oy1 := oy1.below b17 (Nat.le_refl _)
      replace bb := below_to bb b17 (Nat.le_refl _)
      have looy2 := Lib.hid oy2.at_base
      have hioy2 := Lib.hid oy2.at_lt
      go_wp2_with fail
      refine (iSextetTable _ Ay1 Ay2 n1 n2 cy1 cy2 _ _ w17 oy1.sl oy2.sl (Nat.le_refl _)).mono ?_
      rintro e w18 ⟨Ah, nh, ch, rfl, oh, b18⟩
      have mh := oh.length
      have Mh := Lib.hid mh
      clear mh
      have z18 := b18.size
      replace os1 := os1.below b18 (Nat.le_refl _)
      replace os2 := os2.below b18 (Nat.le_refl _)
      replace ow := ow.below b18 (Nat.le_refl _)
      replace ox1 := ox1.below b18 (Nat.le_refl _)
      replace ox2 := ox2.below b18 (Nat.le_refl _)
      replace og := og.below b18 (Nat.le_refl _)
      replace ot1 := ot1.below b18 (Nat.le_refl _)
      replace ot2 := ot2.below b18 (Nat.le_refl _)
      replace oy1 := oy1.below b18 (Nat.le_refl _)
      replace oy2 := oy2.below b18 (Nat.le_refl _)
      replace bb := below_to bb b18 (Nat.le_refl _)
      have looh := Lib.hid oh.at_base
      have hioh := Lib.hid oh.at_lt
      go_wp2_with fail
      refine (eqIntS_any _ Ah Aw nh nw ch cw _ _ w18 oh.sl ow.sl (by rw [← Mh.out]; exact (Nat.le_trans (tab_len _ _) (by decide)))).mono ?_
      rw [decide_eq_true rfl]
      rintro e w19 ⟨rfl, b19⟩
      have z19 := b19.size
      replace os1 := os1.below b19 (Nat.le_refl _)
      replace os2 := os2.below b19 (Nat.le_refl _)
      replace ow := ow.below b19 (Nat.le_refl _)
      replace ox1 := ox1.below b19 (Nat.le_refl _)
      replace ox2 := ox2.below b19 (Nat.le_refl _)
      replace og := og.below b19 (Nat.le_refl _)
      replace ot1 := ot1.below b19 (Nat.le_refl _)
      replace ot2 := ot2.below b19 (Nat.le_refl _)
      replace oy1 := oy1.below b19 (Nat.le_refl _)
      replace oy2 := oy2.below b19 (Nat.le_refl _)
      replace oh := oh.below b19 (Nat.le_refl _)
      replace bb := below_to bb b19 (Nat.le_refl _)
      go_wp2_with fail
      refine (heldIntS_any _ Ag ng cg 1 w19 og.sl hng (by omega) (by omega)).mono ?_
      rintro e w' ⟨rfl, rfl⟩
      go_wp2
      go_ret
      exact ⟨rfl, bb⟩
    · go_enter Try.func6, Try.ntmps6
      go_wp2
      go_ret
      exact ⟨rfl, Below.refl _ _⟩
  · go_enter Try.func6, Try.ntmps6
    go_wp2
    go_ret
    exact ⟨rfl, Below.refl _ _⟩
end Go.Proofs.Ytbpgaphcpgfafaa
