import Derived.Test.YthggjkpnjogcaaaF22
import Derived.Test.YthggjkpnjogcaaaF23
namespace Go.Proofs.Ythggjkpnjogcaaa
open Go.RowKit

theorem tn_le (ok : Bool) : tn ok ≤ 9 := by cases ok <;> decide
/-- The triangle's rows, as long as there are. -/
def triG (i : Nat) : List Int := if i < 9 then triF i else []
theorem triG_len (i : Nat) : (triG i).length ≤ 1000 := by
  unfold triG
  split
  · rw [triF_len]; omega
  · simp
theorem rows_triG {w : World} {base : Nat} {A : Option Addr} {cap : Nat} {rs : List Sh} {ok : Bool} (h : Rows w base A (tn ok) cap rs triF) : Rows w base A (tn ok) cap rs triG :=
  h.cong fun i hi => by unfold triG; rw [if_pos (Nat.lt_of_lt_of_le hi (tn_le ok))]

set_option maxRecDepth 100000 in
set_option maxHeartbeats 1000000 in
theorem lawOctadTriangle (x : Int) (w : World) :
    Calls Try.prog 12 #[.int .i64 x] w fun e w' => e = .returned (.bool true) ∧ Below w.heap.size w w' := by
  have HS := Lib.hid (sOctadTriangle x)
  have HI := Lib.hid (iOctadTriangle x)
  have hlen := Nat.le_trans (tn_le (octZ x)) (show 9 ≤ 1000 by decide)
  have HG := Lib.hid (fun (W : World) (b : Nat) (A : Option Addr) (c : Nat) (rs : List Sh) (h : Rows W b A (tn (octZ x)) c rs triF) => rows_triG h)
  unfold MakesT at HS HI
  generalize tn (octZ x) = N at HS HI HG hlen
  generalize octZ x = v at HS HI
  have hT0 : ∀ T : Nat, decide ((1 : Int) + (T : Int) < 0) = false := fun T => by simp; omega
  have hT := hT0 (tot triG N)
  clear hT0
  have e0 : (v != v) = false := by cases v <;> rfl
  go_enter Try.func12, Try.ntmps12
  go_wp2_with fail
  refine (HS.out w).mono ?_
  rintro e w1 ⟨Aw, cw, rw', rfl, ow, b1⟩
  have RW := Lib.hid (HG.out _ _ _ _ _ ow)
  clear ow
  go_wp2_with fail
  refine (HI.out w1).mono ?_
  rintro e w2 ⟨Ag, cg, rg, rfl, og, b2⟩
  have z2 := b2.size
  go_wp2_with fail
  refine (eqSS _ _ Ag Aw N cg cw _ _ triG w2 (HG.out _ _ _ _ _ og) (RW.out.below b2) hlen triG_len).mono ?_
  rintro e w3 ⟨rfl, b3⟩
  have z3 := b3.size
  have B3 := b2.trans (b3.mono z2)
  go_wp2_with fail
  refine (markSS _ Ag N cg rg triG 1 w3 ((HG.out _ _ _ _ _ og).below b3) (by omega) hlen triG_len (by decide) (by decide)).mono ?_
  rintro e w4 ⟨rfl, pg, b4⟩
  have B4 := B3.trans b4
  have z4 := b4.size
  go_wp2_with fail
  refine (heldSS _ Ag N cg rg triG 1 w4 pg hlen triG_len (by decide) (by decide)).mono ?_
  rintro e w' ⟨rfl, rfl⟩
  go_wp2_with fail
  refine (HI.out w4).mono ?_
  rintro e w5 ⟨Ah, ch, rh, rfl, oh, b5⟩
  have z14 : w1.heap.size ≤ w4.heap.size := B4.size
  have B5 := B4.trans (b5.mono z14)
  have z15 : w1.heap.size ≤ w5.heap.size := B5.size
  go_wp2_with fail
  refine (eqSS _ _ Ah Aw N ch cw _ _ triG w5 (HG.out _ _ _ _ _ oh) (RW.out.below B5) hlen triG_len).mono ?_
  rintro e w6 ⟨rfl, b6⟩
  have B6 := Lib.hid (below_to b1 (B5.trans (b6.mono z15)) (Nat.le_refl _))
  go_wp2_with fail
  refine (heldSS _ Ag N cg rg triG 1 w6 ((pg.below b5).below b6) hlen triG_len (by decide) (by decide)).mono ?_
  rintro e w' ⟨rfl, rfl⟩
  clear b1 b2 b3 b4 b5 b6 B3 B4 B5 og oh pg
  go_wp2
  go_ret
  exact ⟨rfl, B6.out⟩
end Go.Proofs.Ythggjkpnjogcaaa
