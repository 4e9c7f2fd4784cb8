/- Plain laws of planes: common points, four points, the small plane, ovals. No program here. -/
import Derived.Test.YtinfpggpfpmpbaaM13
import Derived.Test.YtinfpggpfpmpbaaN1
namespace Go.Proofs.Ytinfpggpfpmpbaa

theorem pl_single {p : Nat} (hp : p < 24) : pl (1 <<< p) = [p] := by
  refine asc_ext (pl_sorted _) (List.pairwise_singleton _ _) fun x => ?_
  rw [mem_pl, bit_one, decide_eq_true_eq, List.mem_singleton]
  exact ⟨fun h => h.2.symm, fun h => by subst h; exact ⟨hp, rfl⟩⟩
theorem line_point {b y z : Nat} (hb : b < 16777216) (h3 : wt b = 3) (hy : Line b y) (hz : Line b z) (hne : y ≠ z) : ∃ x, x < 24 ∧ y &&& z = 1 <<< x ∧ y.testBit x = true ∧ z.testBit x = true := by
  obtain ⟨x, hx, e⟩ := wt_one_ex (and_lt (line_lt hb hy)) (line_two hb h3 hy hz hne)
  exact ⟨x, hx, e, (on_meet e).1, (on_meet e).2⟩
theorem pl_quad {w : Nat} (hw : w < 16777216) (h : wt w = 4) : ∃ p0 p1 p2 p3, pl w = [p0, p1, p2, p3] ∧ p0 < p1 ∧ p1 < p2 ∧ p2 < p3 ∧ p3 < 24 ∧ w = four p0 p1 p2 p3 := by
  have hl := pl_len w
  rw [h] at hl
  have hs := pl_sorted w
  have hm : ∀ i, i ∈ pl w ↔ i < 24 ∧ w.testBit i = true := fun i => mem_pl
  match hp : pl w, hl with
  | [a, b, c, d], _ =>
    rw [hp] at hs hm
    simp only [List.pairwise_cons, List.mem_cons] at hs
    have l := fun i hi => ((hm i).1 hi).1
    refine ⟨a, b, c, d, rfl, hs.1 b (.inl rfl), hs.2.1 c (.inl rfl), hs.2.2.1 d (.inl rfl), l d (by simp), ?_⟩
    refine w_ext hw ?_ fun i hi => ?_
    · unfold four
      exact or_lt (or_lt (or_lt (one_shl_lt (l a (by simp))) (one_shl_lt (l b (by simp)))) (one_shl_lt (l c (by simp)))) (one_shl_lt (l d (by simp)))
    · rw [four_bit, Bool.eq_iff_iff]
      have h1 := hm i
      simp only [List.mem_cons, List.not_mem_nil, or_false] at h1
      simp only [Bool.or_eq_true, decide_eq_true_eq]
      constructor
      · intro h2
        rcases h1.2 ⟨hi, h2⟩ with e | e | e | e <;> subst e <;> simp
      · rintro (((e | e) | e) | e)
        · exact (h1.1 (.inl e.symm)).2
        · exact (h1.1 (.inr (.inl e.symm))).2
        · exact (h1.1 (.inr (.inr (.inl e.symm)))).2
        · exact (h1.1 (.inr (.inr (.inr e.symm)))).2
theorem pl_three {w : Nat} (h : wt w = 3) : ∃ t0 t1 t2, pl w = [t0, t1, t2] ∧ t0 < t1 ∧ t1 < t2 ∧ t2 < 24 ∧ w.testBit t0 = true ∧ w.testBit t1 = true ∧ w.testBit t2 = true := by
  have hl := pl_len w
  rw [h] at hl
  have hs := pl_sorted w
  have hm : ∀ i, i ∈ pl w ↔ i < 24 ∧ w.testBit i = true := fun i => mem_pl
  match hp : pl w, hl with
  | [a, b, c], _ =>
    rw [hp] at hs hm
    simp only [List.pairwise_cons, List.mem_cons] at hs
    have l := fun i hi => (hm i).1 hi
    exact ⟨a, b, c, rfl, hs.1 b (.inl rfl), hs.2.1 c (.inl rfl), (l c (by simp)).1, (l a (by simp)).2, (l b (by simp)).2, (l c (by simp)).2⟩
theorem quad_of {b w : Nat} (hb : b < 16777216) (h3 : wt b = 3) (hw : w < 16777216) (h4 : wt w = 4) (hd : w &&& b = 0) (ht : Thin b w) :
    ∃ p0 p1 p2 p3, pl w = [p0, p1, p2, p3] ∧ w = four p0 p1 p2 p3 ∧ Quad b p0 p1 p2 p3 := by
  obtain ⟨p0, p1, p2, p3, hp, h01, h12, h23, hl, he⟩ := pl_quad hw h4
  have hbit : ∀ i, i ∈ pl w → b.testBit i = false := fun i hi => and0_bits.1 hd i (mem_pl.1 hi).2
  rw [hp] at hbit
  refine ⟨p0, p1, p2, p3, hp, he, hb, h3, by omega, by omega, by omega, hl, hbit _ (by simp), hbit _ (by simp), hbit _ (by simp), hbit _ (by simp), by omega, by omega, by omega, by omega, by omega, by omega, ?_⟩
  rw [he] at ht
  exact ht
/-- The three points in which opposite lines of four points meet. -/
def frOf (b p0 p1 p2 p3 : Nat) : Nat := (thr b p0 p1 &&& thr b p2 p3) ||| (thr b p0 p2 &&& thr b p1 p3) ||| (thr b p0 p3 &&& thr b p1 p2)
theorem frOf_facts {b p0 p1 p2 p3 : Nat} (h : Quad b p0 p1 p2 p3) :
    frOf b p0 p1 p2 p3 < 16777216 ∧ frOf b p0 p1 p2 p3 &&& four p0 p1 p2 p3 = 0 ∧ wt (frOf b p0 p1 p2 p3 ||| four p0 p1 p2 p3) = 7 ∧
    (∀ y, Line b y → wt (y &&& (frOf b p0 p1 p2 p3 ||| four p0 p1 p2 p3)) = 0 ∨ wt (y &&& (frOf b p0 p1 p2 p3 ||| four p0 p1 p2 p3)) = 1 ∨ wt (y &&& (frOf b p0 p1 p2 p3 ||| four p0 p1 p2 p3)) = 3) ∧
    ∃ t0 t1 t2, pl (frOf b p0 p1 p2 p3) = [t0, t1, t2] ∧ t0 < t1 ∧ t1 < t2 ∧ t2 < 24 ∧ Pts b t0 t1 ∧ (thr b t0 t1).testBit t2 = true := by
  obtain ⟨a, c, d, l, k⟩ := h.diag
  obtain ⟨s1, s2, s3, s4⟩ := k.seven h
  have e : frOf b p0 p1 p2 p3 = 1 <<< a ||| 1 <<< c ||| 1 <<< d := by unfold frOf; rw [k.ha, k.hc, k.hd]
  have e7 : frOf b p0 p1 p2 p3 ||| four p0 p1 p2 p3 = Go.Proofs.Ytinfpggpfpmpbaa.seven p0 p1 p2 p3 a c d := by
    rw [e]; unfold Go.Proofs.Ytinfpggpfpmpbaa.seven; ac_rfl
  rw [e7]
  rw [e]
  refine ⟨or_lt (or_lt (one_shl_lt k.la) (one_shl_lt k.lc)) (one_shl_lt k.ld), s3, s1, s4, ?_⟩
  obtain ⟨t0, t1, t2, hp, h01, h12, hl, b0, b1, b2⟩ := pl_three s2
  have hs : ∀ i, (1 <<< a ||| 1 <<< c ||| 1 <<< d).testBit i = true → l.testBit i = true := fun i hi => by
    rw [Nat.testBit_or, Nat.testBit_or, bit_one, bit_one, bit_one, Bool.or_eq_true, Bool.or_eq_true, decide_eq_true_eq, decide_eq_true_eq, decide_eq_true_eq] at hi
    rcases hi with (e | e) | e
    · subst e; exact k.a1
    · subst e; exact k.c1
    · subst e; exact k.d1
  have hob : ∀ i, l.testBit i = true → b.testBit i = false := fun i hi => and0_bits.1 k.line.2 i hi
  have hP : Pts b t0 t1 := ⟨h.hb, h.h3, by omega, by omega, hob _ (hs _ b0), hob _ (hs _ b1), by omega⟩
  have := thr_eq hP k.line (hs _ b0) (hs _ b1)
  exact ⟨t0, t1, t2, hp, h01, h12, hl, hP, by rw [← this]; exact hs _ b2⟩
/-- An oval with its two places of the base is an octad. -/
theorem ov_facts {b p q r : Nat} (h : Two b p q r) {y : Nat} (hy : y ∈ ovs b (1 <<< p ||| 1 <<< q)) :
    y < 16777216 ∧ wt y = 6 ∧ y &&& b = 0 ∧ Thin b y ∧ Oct (y ||| (1 <<< p ||| 1 <<< q)) := by
  obtain ⟨f1, f2, f3, f4, f5⟩ := h.facts
  obtain ⟨h1, h2⟩ := (mem_ovs f1).1 hy
  have hj : (y ^^^ (1 <<< p ||| 1 <<< q)) &&& b = 1 <<< p ||| 1 <<< q := by unfold justIn at h2; exact beq_iff_eq.1 h2
  have hyl : y < 16777216 := by have := xor_lt (oct_lt h1) f1; rwa [xor_self_r] at this
  obtain ⟨g1, g2, g3⟩ := oval_of f5 h1 hj f2 (xor_self_r y _).symm
  have hs := just_sub h2
  refine ⟨hyl, g1, g2, g3, ?_⟩
  have e : y ||| (1 <<< p ||| 1 <<< q) = y ^^^ (1 <<< p ||| 1 <<< q) := by
    refine or_disj_xor ?_
    rw [Nat.and_comm, and0_bits]
    intro i hi
    have := sub_bits.1 hs i hi
    rw [Nat.testBit_xor, hi] at this
    cases hv : y.testBit i
    · rfl
    · rw [hv] at this; cases this
  rw [e]; exact h1
end Go.Proofs.Ytinfpggpfpmpbaa
