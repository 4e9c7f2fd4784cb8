/- Four points of a plane: opposite lines meet on one line; the plane of seven points. No program here. -/
import Derived.Test.YtinfpggpfpmpbaaM8
namespace Go.Proofs.Ytinfpggpfpmpbaa

section
variable {b p0 p1 p2 p3 : Nat}
/-- Two of the lines have just the point that they share. -/
theorem Quad.inc (h : Quad b p0 p1 p2 p3) (i : Nat) : ((thr b p0 p1).testBit i && (thr b p0 p2).testBit i) = decide (p0 = i) := by
  have s1 := thr_spec h.p01
  have s2 := thr_spec h.swap12.p01
  have hne : thr b p0 p1 ≠ thr b p0 p2 := by
    intro e; have := h.out; rw [e, s2.2.2] at this; cases this
  by_cases e : p0 = i
  · subst e; rw [s1.2.1, s2.2.1]; simp
  · rw [decide_eq_false e]
    cases h1 : (thr b p0 p1).testBit i with
    | false => rfl
    | true =>
      cases h2 : (thr b p0 p2).testBit i with
      | false => rfl
      | true => exact absurd (line_eq h.hb h.h3 s1.1 s2.1 e s1.2.1 h1 s2.2.1 h2) hne
theorem Quad.incs (h : Quad b p0 p1 p2 p3) (i : Nat) : ((thr b p0 p1).testBit i && (thr b p0 p2).testBit i) = decide (p0 = i) ∧ ((thr b p0 p1).testBit i && (thr b p1 p3).testBit i) = decide (p1 = i) ∧
    ((thr b p2 p3).testBit i && (thr b p0 p2).testBit i) = decide (p2 = i) ∧ ((thr b p2 p3).testBit i && (thr b p1 p3).testBit i) = decide (p3 = i) := by
  refine ⟨h.inc i, ?_, ?_, ?_⟩
  · have k := h.swap01.swap23
    have := k.inc i
    rwa [thr_symm h.p01] at this
  · have k := h.swap12.swap01.swap23
    have := k.inc i
    have e : thr b p2 p0 = thr b p0 p2 := thr_symm h.swap12.p01
    rw [e, Bool.and_comm] at this
    exact this
  · have k := h.swap23.swap12.swap01.swap23.swap12.swap23
    have := k.inc i
    have h23 : Pts b p2 p3 := h.swap12.swap01.swap23.swap12.p01
    have h13 : Pts b p1 p3 := h.swap01.swap12.swap23.swap12.p01
    have e1 : thr b p3 p2 = thr b p2 p3 := thr_symm h23
    have e2 : thr b p3 p1 = thr b p1 p3 := thr_symm h13
    rw [e1, e2] at this
    exact this
/-- The word of the four. -/
def four (p0 p1 p2 p3 : Nat) : Nat := 1 <<< p0 ||| 1 <<< p1 ||| 1 <<< p2 ||| 1 <<< p3
theorem four_bit (i : Nat) : (four p0 p1 p2 p3).testBit i = (decide (p0 = i) || decide (p1 = i) || decide (p2 = i) || decide (p3 = i)) := by
  unfold four; simp only [Nat.testBit_or, bit_one]
theorem Quad.cross (h : Quad b p0 p1 p2 p3) : (thr b p0 p1 ^^^ thr b p2 p3) &&& (thr b p0 p2 ^^^ thr b p1 p3) = four p0 p1 p2 p3 := by
  apply Nat.eq_of_testBit_eq
  intro i
  obtain ⟨f1, f2, f3, f4⟩ := h.incs i
  rw [Nat.testBit_and, Nat.testBit_xor, Nat.testBit_xor, four_bit, ← f1, ← f2, ← f3, ← f4]
  have a := h.n02; have c := h.n13; have d := h.n01; have e := h.n23
  have x1 : ¬ (p0 = i ∧ p2 = i) := fun q => a (q.1.trans q.2.symm)
  have x2 : ¬ (p1 = i ∧ p3 = i) := fun q => c (q.1.trans q.2.symm)
  have x3 : ¬ (p0 = i ∧ p1 = i) := fun q => d (q.1.trans q.2.symm)
  have x4 : ¬ (p2 = i ∧ p3 = i) := fun q => e (q.1.trans q.2.symm)
  have g1 : ∀ {p : Nat} {z : Bool}, z = decide (p = i) → (z = true ↔ p = i) := fun {p z} hz => by rw [hz]; simp
  rw [← g1 f1, ← g1 f3] at x1
  rw [← g1 f2, ← g1 f4] at x2
  rw [← g1 f1, ← g1 f2] at x3
  rw [← g1 f3, ← g1 f4] at x4
  revert x1 x2 x3 x4
  clear f1 f2 f3 f4 g1
  cases (thr b p0 p1).testBit i <;> cases (thr b p2 p3).testBit i <;> cases (thr b p0 p2).testBit i <;> cases (thr b p1 p3).testBit i <;> simp
theorem Quad.p23 (h : Quad b p0 p1 p2 p3) : Pts b p2 p3 := h.swap12.swap01.swap23.swap12.p01
theorem Quad.p02 (h : Quad b p0 p1 p2 p3) : Pts b p0 p2 := h.swap12.p01
theorem Quad.p13 (h : Quad b p0 p1 p2 p3) : Pts b p1 p3 := h.swap01.swap12.swap23.swap12.p01
theorem Quad.p03 (h : Quad b p0 p1 p2 p3) : Pts b p0 p3 := h.swap23.swap12.p01
theorem Quad.p12 (h : Quad b p0 p1 p2 p3) : Pts b p1 p2 := h.swap01.swap12.p01
/-- Two opposite lines as one octad. -/
theorem Quad.opp (h : Quad b p0 p1 p2 p3) : Cod (thr b p0 p1 ^^^ thr b p2 p3) ∧ wt (thr b p0 p1 ^^^ thr b p2 p3) = 8 := by
  have s1 := thr_spec h.p01
  have s2 := thr_spec h.p23
  obtain ⟨a, ha, e⟩ := h.meet
  have h1 := wt_xor (thr b p0 p1) (thr b p2 p3)
  rw [e, wt_one ha, line_wt h.h3 s1.1, line_wt h.h3 s2.1] at h1
  refine ⟨?_, by omega⟩
  have := cod_xor s1.1.1.1 s2.1.1.1
  have e2 : thr b p0 p1 ^^^ b ^^^ (thr b p2 p3 ^^^ b) = thr b p0 p1 ^^^ thr b p2 p3 := by
    have : thr b p0 p1 ^^^ b ^^^ (thr b p2 p3 ^^^ b) = (thr b p0 p1 ^^^ thr b p2 p3) ^^^ (b ^^^ b) := by ac_rfl
    rw [this, Nat.xor_self, Nat.xor_zero]
  rwa [e2] at this
theorem cod_full : Cod 16777215 := ⟨by decide, by decide +kernel⟩
/-- The three further points. -/
structure Diag (b p0 p1 p2 p3 a c d l : Nat) : Prop where
  ha : thr b p0 p1 &&& thr b p2 p3 = 1 <<< a
  hc : thr b p0 p2 &&& thr b p1 p3 = 1 <<< c
  hd : thr b p0 p3 &&& thr b p1 p2 = 1 <<< d
  la : a < 24
  lc : c < 24
  ld : d < 24
  line : Line b l
  a1 : l.testBit a = true
  c1 : l.testBit c = true
  d1 : l.testBit d = true
theorem Quad.diag (h : Quad b p0 p1 p2 p3) : ∃ a c d l, Diag b p0 p1 p2 p3 a c d l := by
  obtain ⟨a, la, ha⟩ := h.meet
  obtain ⟨c, lc, hc⟩ := h.swap12.meet
  obtain ⟨d, ld, hd⟩ : ∃ d, d < 24 ∧ thr b p0 p3 &&& thr b p1 p2 = 1 <<< d := by
    obtain ⟨d, ld, hd⟩ := h.swap23.swap12.meet
    exact ⟨d, ld, by rwa [show thr b p1 p2 = thr b p1 p2 from rfl] at hd⟩
  have o1 := h.opp
  have o2 := h.swap12.opp
  have o3 : Cod (thr b p0 p3 ^^^ thr b p1 p2) ∧ wt (thr b p0 p3 ^^^ thr b p1 p2) = 8 := h.swap23.swap12.opp
  have x12 := h.cross
  have x13 : (thr b p0 p1 ^^^ thr b p2 p3) &&& (thr b p0 p3 ^^^ thr b p1 p2) = four p0 p1 p2 p3 := by
    have := h.swap23.cross
    rw [thr_symm h.p23] at this
    rw [this]; unfold four; ac_rfl
  have x23 : (thr b p0 p2 ^^^ thr b p1 p3) &&& (thr b p0 p3 ^^^ thr b p1 p2) = four p0 p1 p2 p3 := by
    have := h.swap12.swap23.cross
    rw [thr_symm h.p13, thr_symm h.p12] at this
    rw [this]; unfold four; ac_rfl
  have w4 : wt (four p0 p1 p2 p3) = 4 := by
    have z1 : (1 <<< p0).testBit p1 = false := by rw [bit_one]; exact decide_eq_false h.n01
    have z2 : (1 <<< p0 ||| 1 <<< p1).testBit p2 = false := by
      rw [Nat.testBit_or, bit_one, bit_one, decide_eq_false h.n02, decide_eq_false h.n12]; rfl
    have z3 : (1 <<< p0 ||| 1 <<< p1 ||| 1 <<< p2).testBit p3 = false := by
      rw [Nat.testBit_or, Nat.testBit_or, bit_one, bit_one, bit_one, decide_eq_false h.n03, decide_eq_false h.n13, decide_eq_false h.n23]; rfl
    unfold four
    rw [wt_put h.l3 z3, wt_put h.l2 z2, wt_put h.l1 z1, wt_one h.l0]
  generalize hA1 : thr b p0 p1 ^^^ thr b p2 p3 = A1 at *
  generalize hA2 : thr b p0 p2 ^^^ thr b p1 p3 = A2 at *
  generalize hA3 : thr b p0 p3 ^^^ thr b p1 p2 = A3 at *
  have cX : Cod (A1 ^^^ A2 ^^^ A3) := cod_xor (cod_xor o1.1 o2.1) o3.1
  have wX : wt (A1 ^^^ A2 ^^^ A3) = 16 := by
    have e1 := wt_xor A1 A2
    rw [x12, w4, o1.2, o2.2] at e1
    have e2 := wt_xor (A1 ^^^ A2) A3
    rw [Nat.and_xor_distrib_right, x13, x23, Nat.xor_self, wt_0, o3.2] at e2
    omega
  have cO := cod_xor cX cod_full
  have wO : wt (A1 ^^^ A2 ^^^ A3 ^^^ 16777215) = 8 := by
    have e1 := wt_xor (A1 ^^^ A2 ^^^ A3) 16777215
    have e2 : (A1 ^^^ A2 ^^^ A3) &&& 16777215 = A1 ^^^ A2 ^^^ A3 := by
      rw [show (16777215 : Nat) = 2 ^ 24 - 1 from rfl, Nat.and_two_pow_sub_one_eq_mod]
      exact Nat.mod_eq_of_lt cX.1
    have e3 : wt 16777215 = 24 := by decide
    rw [e2, e3, wX] at e1
    omega
  have hO : Oct (A1 ^^^ A2 ^^^ A3 ^^^ 16777215) := ⟨cO, wO⟩
  have hbit : ∀ i, i < 24 → (A1 ^^^ A2 ^^^ A3 ^^^ 16777215).testBit i = !(A1.testBit i ^^ A2.testBit i ^^ A3.testBit i) := by
    intro i hi
    rw [Nat.testBit_xor, Nat.testBit_xor, Nat.testBit_xor, show (16777215 : Nat) = 2 ^ 24 - 1 from rfl, Nat.testBit_two_pow_sub_one, decide_eq_true hi]
    cases A1.testBit i <;> cases A2.testBit i <;> cases A3.testBit i <;> rfl
  have bits : ∀ i, A1.testBit i = ((thr b p0 p1).testBit i ^^ (thr b p2 p3).testBit i) ∧ A2.testBit i = ((thr b p0 p2).testBit i ^^ (thr b p1 p3).testBit i) ∧ A3.testBit i = ((thr b p0 p3).testBit i ^^ (thr b p1 p2).testBit i) := fun i => by
    rw [← hA1, ← hA2, ← hA3, Nat.testBit_xor, Nat.testBit_xor, Nat.testBit_xor]; exact ⟨rfl, rfl, rfl⟩
  have off : ∀ {y i}, Line b y → b.testBit i = true → y.testBit i = false := fun {y i} hy hi => and0_bits.1 (and0_comm hy.2) i hi
  have hsub : Sub b (A1 ^^^ A2 ^^^ A3 ^^^ 16777215) := sub_bits.2 fun i hi => by
    rw [hbit i (bit_lt h.hb hi), (bits i).1, (bits i).2.1, (bits i).2.2, off (thr_spec h.p01).1 hi, off (thr_spec h.p23).1 hi, off (thr_spec h.p02).1 hi, off (thr_spec h.p13).1 hi, off (thr_spec h.p03).1 hi, off (thr_spec h.p12).1 hi]
    rfl
  have hl := line_of hO hsub
  -- a point in which two opposite lines meet is on no other of the six
  have key : ∀ {q0 q1 q2 q3 x : Nat}, Quad b q0 q1 q2 q3 → thr b q0 q1 &&& thr b q2 q3 = 1 <<< x → (thr b q0 q1).testBit x = true ∧ (thr b q2 q3).testBit x = true ∧ (thr b q0 q2).testBit x = false ∧ (thr b q1 q3).testBit x = false := by
    intro q0 q1 q2 q3 x k hx
    have e := congrArg (Nat.testBit · x) hx
    simp only [Nat.testBit_and, bit_shift, Bool.and_eq_true] at e
    obtain ⟨f1, f2, f3, f4⟩ := k.incs x
    rw [e.1] at f1 f2
    rw [e.2] at f3 f4
    refine ⟨e.1, e.2, ?_, ?_⟩
    · cases hh : (thr b q0 q2).testBit x with
      | false => rfl
      | true =>
        rw [hh] at f1 f3
        have a1 : q0 = x := by simpa using f1.symm
        have a2 : q2 = x := by simpa using f3.symm
        exact absurd (a1.trans a2.symm) k.n02
    · cases hh : (thr b q1 q3).testBit x with
      | false => rfl
      | true =>
        rw [hh] at f2 f4
        have a1 : q1 = x := by simpa using f2.symm
        have a2 : q3 = x := by simpa using f4.symm
        exact absurd (a1.trans a2.symm) k.n13
  have ka := key h ha
  have ka' := key h.swap23 (x := a) (by rw [thr_symm h.p23]; exact ha)
  have kc := key h.swap12 hc
  have kc' := key h.swap12.swap23 (x := c) (by rw [thr_symm h.p13]; exact hc)
  have kd := key h.swap23.swap12 hd
  have kd' := key h.swap23.swap12.swap23 (x := d) (by rw [thr_symm h.p12]; exact hd)
  rw [thr_symm h.p12] at kc'
  rw [thr_symm h.p23] at kd
  rw [thr_symm h.p13] at kd'
  have lb : ∀ x, x < 24 → b.testBit x = false → A1.testBit x = false → A2.testBit x = false → A3.testBit x = false → (A1 ^^^ A2 ^^^ A3 ^^^ 16777215 ^^^ b).testBit x = true := by
    intro x hx h1 h2 h3 h4
    rw [Nat.testBit_xor, hbit x hx, h1, h2, h3, h4]; rfl
  have nb : ∀ {y x}, Line b y → y.testBit x = true → b.testBit x = false := fun {y x} hy hx => and0_bits.1 hy.2 x hx
  refine ⟨a, c, d, _, ⟨ha, hc, hd, la, lc, ld, hl, ?_, ?_, ?_⟩⟩
  · refine lb a la (nb (thr_spec h.p01).1 ka.1) ?_ ?_ ?_
    · rw [(bits a).1, ka.1, ka.2.1]; rfl
    · rw [(bits a).2.1, ka.2.2.1, ka.2.2.2]; rfl
    · rw [(bits a).2.2, ka'.2.2.1, ka'.2.2.2]; rfl
  · refine lb c lc (nb (thr_spec h.p02).1 kc.1) ?_ ?_ ?_
    · rw [(bits c).1, kc.2.2.1, kc.2.2.2]; rfl
    · rw [(bits c).2.1, kc.1, kc.2.1]; rfl
    · rw [(bits c).2.2, kc'.2.2.1, kc'.2.2.2]; rfl
  · refine lb d ld (nb (thr_spec h.p03).1 kd.1) ?_ ?_ ?_
    · rw [(bits d).1, kd.2.2.1, kd.2.2.2]; rfl
    · rw [(bits d).2.1, kd'.2.2.1, kd'.2.2.2]; rfl
    · rw [(bits d).2.2, kd.1, kd.2.1]; rfl
end
end Go.Proofs.Ytinfpggpfpmpbaa
