/- The plane of seven points. No program here. -/
import Derived.Test.YtinfpggpfpmpbaaM9
namespace Go.Proofs.Ytinfpggpfpmpbaa

theorem wt_and_one {y p : Nat} (hp : p < 24) : wt (y &&& 1 <<< p) = bt y p := by
  cases h : y.testBit p with
  | true =>
    have e : y &&& 1 <<< p = 1 <<< p := sub_one.2 h
    rw [e, wt_one hp, bt_one.2 h]
  | false => rw [and_one_zero h, wt_0, bt_zero.2 h]
theorem wt_and_put {y x p : Nat} (hp : p < 24) (hx : x.testBit p = false) : wt (y &&& (x ||| 1 <<< p)) = wt (y &&& x) + bt y p := by
  rw [Nat.and_or_distrib_left]
  have h := wt_or (y &&& x) (y &&& 1 <<< p)
  have e : y &&& x &&& (y &&& 1 <<< p) = 0 := by
    apply Nat.eq_of_testBit_eq
    intro i
    simp only [Nat.testBit_and, bit_one, Nat.zero_testBit]
    by_cases hi : p = i
    · subst hi; rw [hx]; simp
    · simp [hi]
  rw [e, wt_0, wt_and_one hp] at h
  omega
section
variable {b p0 p1 p2 p3 a c d l : Nat}
theorem Diag.swap23 (h : Quad b p0 p1 p2 p3) (k : Diag b p0 p1 p2 p3 a c d l) : Diag b p0 p1 p3 p2 a d c l :=
  ⟨by rw [thr_symm h.p23]; exact k.ha, k.hd, k.hc, k.la, k.ld, k.lc, k.line, k.a1, k.d1, k.c1⟩
theorem Diag.swap12 (h : Quad b p0 p1 p2 p3) (k : Diag b p0 p1 p2 p3 a c d l) : Diag b p0 p2 p1 p3 c a d l :=
  ⟨k.hc, k.ha, by rw [thr_symm h.p12]; exact k.hd, k.lc, k.la, k.ld, k.line, k.c1, k.a1, k.d1⟩
theorem Diag.swap01 (h : Quad b p0 p1 p2 p3) (k : Diag b p0 p1 p2 p3 a c d l) : Diag b p1 p0 p2 p3 a d c l :=
  ⟨by rw [thr_symm h.p01]; exact k.ha, by rw [Nat.and_comm]; exact k.hd, by rw [Nat.and_comm]; exact k.hc, k.la, k.ld, k.lc, k.line, k.a1, k.d1, k.c1⟩
theorem on_meet {y z x : Nat} (h : y &&& z = 1 <<< x) : y.testBit x = true ∧ z.testBit x = true := by
  have e := congrArg (Nat.testBit · x) h
  simpa only [Nat.testBit_and, bit_shift, Bool.and_eq_true] using e
/-- Which of the seven are on the line through the first two. -/
structure Row (y p0 p1 p2 p3 a c d : Nat) : Prop where
  r0 : y.testBit p0 = true
  r1 : y.testBit p1 = true
  r2 : y.testBit p2 = false
  r3 : y.testBit p3 = false
  ra : y.testBit a = true
  rc : y.testBit c = false
  rd : y.testBit d = false
theorem Diag.row (h : Quad b p0 p1 p2 p3) (k : Diag b p0 p1 p2 p3 a c d l) : Row (thr b p0 p1) p0 p1 p2 p3 a c d := by
  have s := thr_spec h.p01
  have o3 := h.swap23.out
  have no : ∀ {x y : Nat}, (thr b p0 p1).testBit x = true → (thr b p0 p2).testBit x = true → p0 = x := fun {x y} h1 h2 => by
    have := h.inc x
    rw [h1, h2] at this
    simpa using this.symm
  have no' : ∀ {x : Nat}, (thr b p0 p1).testBit x = true → (thr b p0 p3).testBit x = true → p0 = x := fun {x} h1 h2 => by
    have := h.swap23.inc x
    rw [h1, h2] at this
    simpa using this.symm
  have q13 : (thr b p1 p3).testBit p0 = false := by
    have := h.swap01.swap12.swap23.swap12.out   -- thr p1 p3, third p0 or p2
    have t := h.swap01.swap23.swap12
    have := t.out
    exact this
  have q12 : (thr b p1 p2).testBit p0 = false := h.swap01.swap12.out
  refine ⟨s.2.1, s.2.2, h.out, o3, (on_meet k.ha).1, ?_, ?_⟩
  · cases hh : (thr b p0 p1).testBit c with
    | false => rfl
    | true =>
      have e := no (y := 0) hh (on_meet k.hc).1
      have := (on_meet k.hc).2
      rw [← e, q13] at this; cases this
  · cases hh : (thr b p0 p1).testBit d with
    | false => rfl
    | true =>
      have e := no' hh (on_meet k.hd).1
      have := (on_meet k.hd).2
      rw [← e, q12] at this; cases this
def seven (p0 p1 p2 p3 a c d : Nat) : Nat := four p0 p1 p2 p3 ||| 1 <<< a ||| 1 <<< c ||| 1 <<< d
def Ssum (y p0 p1 p2 p3 a c d : Nat) : Nat := bt y p0 + bt y p1 + bt y p2 + bt y p3 + bt y a + bt y c + bt y d
theorem Row.sum {y : Nat} (r : Row y p0 p1 p2 p3 a c d) : Ssum y p0 p1 p2 p3 a c d = 3 := by
  unfold Ssum
  rw [bt_one.2 r.r0, bt_one.2 r.r1, bt_zero.2 r.r2, bt_zero.2 r.r3, bt_one.2 r.ra, bt_zero.2 r.rc, bt_zero.2 r.rd]
theorem ne_of_bits {y u v : Nat} (h1 : y.testBit u = true) (h2 : y.testBit v = false) : u ≠ v := by
  rintro rfl; rw [h1] at h2; cases h2
/-- All that is told of the seven points. -/
theorem Diag.seven (h : Quad b p0 p1 p2 p3) (k : Diag b p0 p1 p2 p3 a c d l) :
    wt (seven p0 p1 p2 p3 a c d) = 7 ∧ wt (1 <<< a ||| 1 <<< c ||| 1 <<< d) = 3 ∧ (1 <<< a ||| 1 <<< c ||| 1 <<< d) &&& four p0 p1 p2 p3 = 0 ∧
    (∀ y, Line b y → wt (y &&& Go.Proofs.Ytinfpggpfpmpbaa.seven p0 p1 p2 p3 a c d) = 0 ∨ wt (y &&& Go.Proofs.Ytinfpggpfpmpbaa.seven p0 p1 p2 p3 a c d) = 1 ∨ wt (y &&& Go.Proofs.Ytinfpggpfpmpbaa.seven p0 p1 p2 p3 a c d) = 3) := by
  have r01 := k.row h
  have r02 : Row (thr b p0 p2) p0 p2 p1 p3 c a d := (k.swap12 h).row h.swap12
  have r03 : Row (thr b p0 p3) p0 p3 p1 p2 d a c := ((k.swap23 h).swap12 h.swap23).row h.swap23.swap12
  have r12 : Row (thr b p1 p2) p1 p2 p0 p3 d a c := ((k.swap01 h).swap12 h.swap01).row h.swap01.swap12
  have r13 : Row (thr b p1 p3) p1 p3 p0 p2 c a d := by
    have h2 := h.swap01.swap23.swap12
    have k2 := ((k.swap01 h).swap23 h.swap01).swap12 h.swap01.swap23
    exact k2.row h2
  have r23 : Row (thr b p2 p3) p2 p3 p0 p1 a c d := by
    have h2 := h.swap12.swap01.swap23.swap12
    have k2 := (((k.swap12 h).swap01 h.swap12).swap23 h.swap12.swap01).swap12 h.swap12.swap01.swap23
    have r := k2.row h2
    exact ⟨r.r0, r.r1, r.r2, r.r3, r.ra, r.rc, r.rd⟩
  have s01 := (thr_spec h.p01).1
  have s02 := (thr_spec h.p02).1
  have s03 := (thr_spec h.p03).1
  have s12 := (thr_spec h.p12).1
  have s13 := (thr_spec h.p13).1
  have s23 := (thr_spec h.p23).1
  -- distinct points
  have a0 : p0 ≠ a := fun e => by have := r23.r2; rw [e, r23.ra] at this; cases this
  have a1 : p1 ≠ a := fun e => by have := r23.r3; rw [e, r23.ra] at this; cases this
  have a2 : p2 ≠ a := fun e => by have := r01.r2; rw [e, r01.ra] at this; cases this
  have a3 : p3 ≠ a := fun e => by have := r01.r3; rw [e, r01.ra] at this; cases this
  have c0 : p0 ≠ c := fun e => by have := r13.r2; rw [e, r13.ra] at this; cases this
  have c1 : p1 ≠ c := fun e => by have := r02.r2; rw [e, r02.ra] at this; cases this
  have c2 : p2 ≠ c := fun e => by have := r13.r3; rw [e, r13.ra] at this; cases this
  have c3 : p3 ≠ c := fun e => by have := r02.r3; rw [e, r02.ra] at this; cases this
  have d0 : p0 ≠ d := fun e => by have := r12.r2; rw [e, r12.ra] at this; cases this
  have d1 : p1 ≠ d := fun e => by have := r03.r2; rw [e, r03.ra] at this; cases this
  have d2 : p2 ≠ d := fun e => by have := r03.r3; rw [e, r03.ra] at this; cases this
  have d3 : p3 ≠ d := fun e => by have := r12.r3; rw [e, r12.ra] at this; cases this
  have ac : a ≠ c := ne_of_bits r01.ra r01.rc
  have ad : a ≠ d := ne_of_bits r01.ra r01.rd
  have cd : c ≠ d := ne_of_bits r02.ra r02.rd
  have z1 : (1 <<< p0).testBit p1 = false := by rw [bit_one]; exact decide_eq_false h.n01
  have z2 : (1 <<< p0 ||| 1 <<< p1).testBit p2 = false := by
    rw [Nat.testBit_or, bit_one, bit_one, decide_eq_false h.n02, decide_eq_false h.n12]; rfl
  have z3 : (1 <<< p0 ||| 1 <<< p1 ||| 1 <<< p2).testBit p3 = false := by
    rw [Nat.testBit_or, Nat.testBit_or, bit_one, bit_one, bit_one, decide_eq_false h.n03, decide_eq_false h.n13, decide_eq_false h.n23]; rfl
  have za : (four p0 p1 p2 p3).testBit a = false := by rw [four_bit, decide_eq_false a0, decide_eq_false a1, decide_eq_false a2, decide_eq_false a3]; rfl
  have zc : (four p0 p1 p2 p3 ||| 1 <<< a).testBit c = false := by rw [Nat.testBit_or, four_bit, bit_one, decide_eq_false c0, decide_eq_false c1, decide_eq_false c2, decide_eq_false c3, decide_eq_false ac]; rfl
  have zd : (four p0 p1 p2 p3 ||| 1 <<< a ||| 1 <<< c).testBit d = false := by
    rw [Nat.testBit_or, Nat.testBit_or, four_bit, bit_one, bit_one, decide_eq_false d0, decide_eq_false d1, decide_eq_false d2, decide_eq_false d3, decide_eq_false ad, decide_eq_false cd]; rfl
  have hS : ∀ y, wt (y &&& Go.Proofs.Ytinfpggpfpmpbaa.seven p0 p1 p2 p3 a c d) = Ssum y p0 p1 p2 p3 a c d := by
    intro y
    unfold Go.Proofs.Ytinfpggpfpmpbaa.seven Ssum
    rw [wt_and_put k.ld zd, wt_and_put k.lc zc, wt_and_put k.la za]
    unfold four
    rw [wt_and_put h.l3 z3, wt_and_put h.l2 z2, wt_and_put h.l1 z1, wt_and_one h.l0]
  -- the line of the three further points
  have noL : ∀ {p : Nat} {y : Nat}, Line b y → y.testBit p = true → y.testBit a = true → y.testBit c = false → p ≠ a → l.testBit p = false := by
    intro p y hy h1 h2 h4 h5
    cases hh : l.testBit p with
    | false => rfl
    | true =>
      have e := line_eq h.hb h.h3 k.line hy h5 hh k.a1 h1 h2
      have := k.c1
      rw [e, h4] at this; cases this
  have l0 := noL s01 r01.r0 r01.ra r01.rc a0
  have l1 := noL s01 r01.r1 r01.ra r01.rc a1
  have l2 := noL s23 r23.r0 r23.ra r23.rc a2
  have l3 := noL s23 r23.r1 r23.ra r23.rc a3
  have SL : Ssum l p0 p1 p2 p3 a c d = 3 := by
    unfold Ssum
    rw [bt_zero.2 l0, bt_zero.2 l1, bt_zero.2 l2, bt_zero.2 l3, bt_one.2 k.a1, bt_one.2 k.c1, bt_one.2 k.d1]
  have S01 : Ssum (thr b p0 p1) p0 p1 p2 p3 a c d = 3 := r01.sum
  have S02 : Ssum (thr b p0 p2) p0 p1 p2 p3 a c d = 3 := by have := r02.sum; unfold Ssum at *; omega
  have S03 : Ssum (thr b p0 p3) p0 p1 p2 p3 a c d = 3 := by have := r03.sum; unfold Ssum at *; omega
  have S12 : Ssum (thr b p1 p2) p0 p1 p2 p3 a c d = 3 := by have := r12.sum; unfold Ssum at *; omega
  have S13 : Ssum (thr b p1 p3) p0 p1 p2 p3 a c d = 3 := by have := r13.sum; unfold Ssum at *; omega
  have S23 : Ssum (thr b p2 p3) p0 p1 p2 p3 a c d = 3 := by have := r23.sum; unfold Ssum at *; omega
  refine ⟨?_, ?_, ?_, fun y hy => ?_⟩
  · unfold Go.Proofs.Ytinfpggpfpmpbaa.seven
    rw [wt_put k.ld zd, wt_put k.lc zc, wt_put k.la za]
    unfold four
    rw [wt_put h.l3 z3, wt_put h.l2 z2, wt_put h.l1 z1, wt_one h.l0]
  · have y1 : (1 <<< a).testBit c = false := by rw [bit_one]; exact decide_eq_false ac
    have y2 : (1 <<< a ||| 1 <<< c).testBit d = false := by rw [Nat.testBit_or, bit_one, bit_one, decide_eq_false ad, decide_eq_false cd]; rfl
    rw [wt_put k.ld y2, wt_put k.lc y1, wt_one k.la]
  · rw [and0_bits]
    intro i hi
    rw [Nat.testBit_or, Nat.testBit_or, bit_one, bit_one, bit_one, Bool.or_eq_true, Bool.or_eq_true, decide_eq_true_eq, decide_eq_true_eq, decide_eq_true_eq] at hi
    rw [four_bit]
    rcases hi with (e | e) | e
    · subst e; rw [decide_eq_false a0, decide_eq_false a1, decide_eq_false a2, decide_eq_false a3]; rfl
    · subst e; rw [decide_eq_false c0, decide_eq_false c1, decide_eq_false c2, decide_eq_false c3]; rfl
    · subst e; rw [decide_eq_false d0, decide_eq_false d1, decide_eq_false d2, decide_eq_false d3]; rfl
  · have pair : ∀ {u v n : Nat}, Line b n → n.testBit u = true → n.testBit v = true → u ≠ v → Ssum n p0 p1 p2 p3 a c d = 3 → bt y u + bt y v ≤ 1 ∨ Ssum y p0 p1 p2 p3 a c d = 3 := by
      intro u v n hn h1 h2 huv h4
      have e1 := bt_le y u
      have e2 := bt_le y v
      by_cases h5 : bt y u = 1
      · by_cases h6 : bt y v = 1
        · right
          have := line_eq h.hb h.h3 hy hn huv (bt_one.1 h5) (bt_one.1 h6) h1 h2
          rw [this]; exact h4
        · left; omega
      · left; omega
    rw [hS]
    by_cases h3 : Ssum y p0 p1 p2 p3 a c d = 3
    · exact .inr (.inr h3)
    · have q01 := (pair s01 r01.r0 r01.r1 h.n01 S01).resolve_right h3
      have q02 := (pair s02 r02.r0 r02.r1 h.n02 S02).resolve_right h3
      have q03 := (pair s03 r03.r0 r03.r1 h.n03 S03).resolve_right h3
      have q12 := (pair s12 r12.r0 r12.r1 h.n12 S12).resolve_right h3
      have q13 := (pair s13 r13.r0 r13.r1 h.n13 S13).resolve_right h3
      have q23 := (pair s23 r23.r0 r23.r1 h.n23 S23).resolve_right h3
      have q0a := (pair s01 r01.r0 r01.ra a0 S01).resolve_right h3
      have q1a := (pair s01 r01.r1 r01.ra a1 S01).resolve_right h3
      have q2a := (pair s23 r23.r0 r23.ra a2 S23).resolve_right h3
      have q3a := (pair s23 r23.r1 r23.ra a3 S23).resolve_right h3
      have q0c := (pair s02 r02.r0 r02.ra c0 S02).resolve_right h3
      have q2c := (pair s02 r02.r1 r02.ra c2 S02).resolve_right h3
      have q1c := (pair s13 r13.r0 r13.ra c1 S13).resolve_right h3
      have q3c := (pair s13 r13.r1 r13.ra c3 S13).resolve_right h3
      have q0d := (pair s03 r03.r0 r03.ra d0 S03).resolve_right h3
      have q3d := (pair s03 r03.r1 r03.ra d3 S03).resolve_right h3
      have q1d := (pair s12 r12.r0 r12.ra d1 S12).resolve_right h3
      have q2d := (pair s12 r12.r1 r12.ra d2 S12).resolve_right h3
      have qac := (pair k.line k.a1 k.c1 ac SL).resolve_right h3
      have qad := (pair k.line k.a1 k.d1 ad SL).resolve_right h3
      have qcd := (pair k.line k.c1 k.d1 cd SL).resolve_right h3
      unfold Ssum
      omega
end
end Go.Proofs.Ytinfpggpfpmpbaa
