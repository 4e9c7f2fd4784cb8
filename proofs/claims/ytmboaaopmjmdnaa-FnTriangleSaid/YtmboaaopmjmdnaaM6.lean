/- Near words; sextets. No program here. -/
import Derived.Test.YtmboaaopmjmdnaaM5
namespace Go.Proofs.Ytmboaaopmjmdnaa

theorem len_of_mem {a b : List Nat} (ha : a.Nodup) (hb : b.Nodup) (h : ∀ x, x ∈ a ↔ x ∈ b) : a.length = b.length :=
  List.Perm.length_eq ((List.perm_ext_iff_of_nodup ha hb).2 h)
theorem xor_self_r (a b : Nat) : a ^^^ b ^^^ b = a := by rw [Nat.xor_assoc, Nat.xor_self, Nat.xor_zero]
theorem xor_self_l (a b : Nat) : b ^^^ (b ^^^ a) = a := by rw [← Nat.xor_assoc, Nat.xor_self, Nat.zero_xor]
theorem xor_eq0 {a b : Nat} (h : a ^^^ b = 0) : a = b := by
  have := xor_self_r a b
  rw [h, Nat.zero_xor] at this
  exact this.symm

/-! ### Near words -/
/-- The words of the code at the distance d, in ascending order. -/
def nearL (w d : Nat) : List Nat := (List.range 16777216).filter fun x => inCode x && wt (w ^^^ x) == d
theorem mem_nearL {w d x : Nat} : x ∈ nearL w d ↔ Cod x ∧ wt (w ^^^ x) = d := by
  unfold nearL Cod; simp [and_assoc]
theorem nearL_asc (w d : Nat) : Asc (nearL w d) := (List.pairwise_lt_range).filter _
/-- d is the least distance. -/
def isFar (w d : Nat) : Prop := (∃ c, Cod c ∧ wt (w ^^^ c) = d) ∧ ∀ c, Cod c → d ≤ wt (w ^^^ c)
theorem isFar_le {w d : Nat} (hw : w < 16777216) (h : isFar w d) : d ≤ 4 := by
  obtain ⟨c, hc, h4⟩ := cover hw
  have := h.2 c hc; omega
theorem isFar_unique {w d e : Nat} (h : isFar w d) (k : isFar w e) : d = e := by
  obtain ⟨⟨c, hc, h1⟩, h2⟩ := h
  obtain ⟨⟨c', hc', h3⟩, h4⟩ := k
  have := h2 c' hc'; have := h4 c hc; omega
theorem near_unique {w c c' : Nat} (hc : Cod c) (hc' : Cod c') (h : wt (w ^^^ c) + wt (w ^^^ c') ≤ 7) : c = c' := by
  have h1 := wt_xor (w ^^^ c) (w ^^^ c')
  have e : w ^^^ c ^^^ (w ^^^ c') = c ^^^ c' := by
    have : w ^^^ c ^^^ (w ^^^ c') = (w ^^^ w) ^^^ (c ^^^ c') := by ac_rfl
    rw [this, Nat.xor_self, Nat.zero_xor]
  rw [e] at h1
  exact xor_eq0 (cod_small (cod_xor hc hc') (by omega))
/-- A word of the code that is at most three places away is the one. -/
theorem near_one {w c : Nat} (hc : Cod c) (h : wt (w ^^^ c) ≤ 3) : isFar w (wt (w ^^^ c)) ∧ nearL w (wt (w ^^^ c)) = [c] := by
  have hf : isFar w (wt (w ^^^ c)) := ⟨⟨c, hc, rfl⟩, fun c' hc' => by
    by_cases e : wt (w ^^^ c') < wt (w ^^^ c)
    · have := near_unique hc hc' (w := w) (by omega); subst this; omega
    · omega⟩
  refine ⟨hf, asc_ext (nearL_asc _ _) (by simp [Asc]) fun x => ?_⟩
  rw [mem_nearL, List.mem_singleton]
  constructor
  · rintro ⟨h1, h2⟩; exact near_unique h1 hc (w := w) (by omega)
  · rintro rfl; exact ⟨hc, rfl⟩
theorem near_six {w : Nat} (hw : w < 16777216) (h : isFar w 4) : (nearL w 4).length = 6 := by
  obtain ⟨⟨c, hc, h4⟩, _⟩ := h
  have ht : w ^^^ c < 16777216 := xor_lt hw hc.1
  have hl : (0 :: octs (hasf (w ^^^ c) 0)).length = 6 := by
    have := cnt4 ht h4; unfold cnt at this; rw [List.length_cons]; omega
  have hn0 : (0 :: octs (hasf (w ^^^ c) 0)).Nodup := by
    rw [List.nodup_cons]
    refine ⟨fun h => ?_, asc_nodup (octs_asc _)⟩
    have := (mem_octs.1 h).1.2; rw [wt_0] at this; omega
  have hn : ((0 :: octs (hasf (w ^^^ c) 0)).map (c ^^^ ·)).Nodup := by
    unfold List.Nodup
    rw [List.pairwise_map]
    refine hn0.imp fun {a b} hab e => hab ?_
    have := congrArg (c ^^^ ·) e
    simpa only [xor_self_l] using this
  have := len_of_mem (asc_nodup (nearL_asc w 4)) hn fun x => by
    rw [mem_nearL, List.mem_map]
    have key : ∀ y, Cod y → (wt (w ^^^ (c ^^^ y)) = 4 ↔ y = 0 ∨ (Oct y ∧ hasf (w ^^^ c) 0 y = true)) := by
      intro y hy
      have e1 := wt_xor (w ^^^ c) y
      rw [← Nat.xor_assoc]
      have hle : wt ((w ^^^ c) &&& y) ≤ 4 := by rw [← h4]; exact wt_mono fun i _ h => by rw [Nat.testBit_and, Bool.and_eq_true] at h; exact h.1
      constructor
      · intro h5
        by_cases h0 : y = 0
        · exact .inl h0
        · right
          have h8 := cod_wt hy h0
          refine ⟨⟨hy, by omega⟩, hasf_iff.2 ⟨sub_of_wt ht (by rw [Nat.and_comm]; omega), by simp⟩⟩
      · rintro (rfl | ⟨h5, h6⟩)
        · rw [Nat.xor_zero]; exact h4
        · have h7 := (hasf_iff.1 h6).1
          unfold Sub at h7
          rw [Nat.and_comm] at h7
          rw [h7, h5.2] at e1
          omega
    constructor
    · rintro ⟨h5, h6⟩
      refine ⟨c ^^^ x, ?_, xor_self_l _ _⟩
      have := (key (c ^^^ x) (cod_xor hc h5)).1 (by rw [xor_self_l]; exact h6)
      rw [List.mem_cons, mem_octs]; exact this
    · rintro ⟨y, hy, rfl⟩
      rw [List.mem_cons, mem_octs] at hy
      have hcy : Cod y := by
        rcases hy with rfl | hy
        · exact cod_zero
        · exact hy.1.1
      exact ⟨cod_xor hc hcy, (key y hcy).2 hy⟩
  rw [this, List.length_map, hl]
theorem near_len {w d : Nat} (hw : w < 16777216) (h : isFar w d) : d = 4 ∧ (nearL w d).length = 6 ∨ d < 4 ∧ (nearL w d).length = 1 := by
  have h4 := isFar_le hw h
  by_cases hd : d = 4
  · subst hd; exact .inl ⟨rfl, near_six hw h⟩
  · obtain ⟨⟨c, hc, h1⟩, _⟩ := h
    have := (near_one (w := w) hc (by omega)).2
    rw [h1] at this
    exact .inr ⟨by omega, by rw [this]; rfl⟩

/-! ### Sextets -/
def isTet (w : Nat) : Bool := wt w == 4
/-- The sextet of a tetrad, in ascending order. -/
def sext (t : Nat) : List Nat := (List.range 16777216).filter fun y => y == t || (isOct (y ^^^ t) && y &&& t == 0)
theorem sext_asc (t : Nat) : Asc (sext t) := (List.pairwise_lt_range).filter _
theorem and0_bits {a b : Nat} : a &&& b = 0 ↔ ∀ i, a.testBit i = true → b.testBit i = false := by
  constructor
  · intro h i hi
    have := congrArg (Nat.testBit · i) h
    simp only [Nat.testBit_and, Nat.zero_testBit, hi, Bool.true_and] at this
    exact this
  · intro h
    apply Nat.eq_of_testBit_eq
    intro i
    rw [Nat.testBit_and, Nat.zero_testBit]
    have := h i
    cases ha : a.testBit i <;> simp_all
theorem and0_comm {a b : Nat} (h : a &&& b = 0) : b &&& a = 0 := by rw [Nat.and_comm]; exact h
theorem wt_disj {a b : Nat} (h : a &&& b = 0) : wt (a ^^^ b) = wt a + wt b := by
  have := wt_xor a b; rw [h, wt_0] at this; omega
section
variable {t : Nat} (ht : t < 16777216) (h4 : wt t = 4)
include ht
theorem mem_sext {y : Nat} : y ∈ sext t ↔ y = t ∨ (Oct (y ^^^ t) ∧ y &&& t = 0) := by
  unfold sext
  rw [List.mem_filter, List.mem_range, Bool.or_eq_true, Bool.and_eq_true, beq_iff_eq, beq_iff_eq]
  constructor
  · rintro ⟨h1, h2 | ⟨h2, h3⟩⟩
    · exact .inl h2
    · exact .inr ⟨(isOct_iff (xor_lt h1 ht)).1 h2, h3⟩
  · rintro (rfl | ⟨h2, h3⟩)
    · exact ⟨ht, .inl rfl⟩
    · have hy : y < 16777216 := by have := xor_lt (oct_lt h2) ht; rwa [xor_self_r] at this
      exact ⟨hy, .inr ⟨(isOct_iff (xor_lt hy ht)).2 h2, h3⟩⟩
theorem sext_lt {y : Nat} (h : y ∈ sext t) : y < 16777216 := by
  rcases (mem_sext ht).1 h with rfl | ⟨h2, _⟩
  · exact ht
  · have := xor_lt (oct_lt h2) ht; rwa [xor_self_r] at this
theorem sext_self : t ∈ sext t := (mem_sext ht).2 (.inl rfl)
include h4
theorem sext_wt {y : Nat} (h : y ∈ sext t) : wt y = 4 := by
  rcases (mem_sext ht).1 h with rfl | ⟨h2, h3⟩
  · exact h4
  · have := wt_disj h3; rw [h2.2] at this; omega
theorem sext_two {y z : Nat} (hy : y ∈ sext t) (hz : z ∈ sext t) (hne : y ≠ z) : y &&& z = 0 ∧ Oct (y ^^^ z) := by
  have wy := sext_wt ht h4 hy
  have wz := sext_wt ht h4 hz
  rcases (mem_sext ht).1 hy with e1 | ⟨oy, dy⟩
  · rcases (mem_sext ht).1 hz with e2 | ⟨oz, dz⟩
    · exact absurd (e1.trans e2.symm) hne
    · rw [e1]; exact ⟨and0_comm dz, by rw [Nat.xor_comm]; exact oz⟩
  · rcases (mem_sext ht).1 hz with e2 | ⟨oz, dz⟩
    · rw [e2]; exact ⟨dy, oy⟩
    · have hne' : y ^^^ t ≠ z ^^^ t := fun e => hne (by have := congrArg (· ^^^ t) e; simpa only [xor_self_r] using this)
      have h1 := oct_ne oy oz hne'
      have s1 : Sub t ((y ^^^ t) &&& (z ^^^ t)) := by
        rw [sub_bits]
        intro i hi
        have a := and0_bits.1 (and0_comm dy) i hi
        have b := and0_bits.1 (and0_comm dz) i hi
        rw [Nat.testBit_and, Nat.testBit_xor, Nat.testBit_xor, hi, a, b]; rfl
      have e := sub_eq ht (and_lt (oct_lt oy)) s1 (by omega)
      have d : y &&& z = 0 := by
        rw [and0_bits]
        intro i hi
        have a := and0_bits.1 dy i hi
        cases hzi : z.testBit i with
        | false => rfl
        | true =>
          have := congrArg (Nat.testBit · i) e
          simp only [Nat.testBit_and, Nat.testBit_xor, hi, hzi, a] at this
          cases this
      refine ⟨d, ?_, by rw [wt_disj d]; omega⟩
      have := cod_xor oy.1 oz.1
      have e2 : y ^^^ t ^^^ (z ^^^ t) = y ^^^ z := by
        have : y ^^^ t ^^^ (z ^^^ t) = (y ^^^ z) ^^^ (t ^^^ t) := by ac_rfl
        rw [this, Nat.xor_self, Nat.xor_zero]
      rwa [e2] at this
theorem sext_len : (sext t).length = 6 := by
  have hl : (0 :: octs (hasf t 0)).length = 6 := by
    have := cnt4 ht h4; unfold cnt at this; rw [List.length_cons]; omega
  have hn0 : (0 :: octs (hasf t 0)).Nodup := by
    rw [List.nodup_cons]
    refine ⟨fun h => ?_, asc_nodup (octs_asc _)⟩
    have := (mem_octs.1 h).1.2; rw [wt_0] at this; omega
  have hn : ((0 :: octs (hasf t 0)).map (t ^^^ ·)).Nodup := by
    unfold List.Nodup
    rw [List.pairwise_map]
    refine hn0.imp fun {a b} hab e => hab ?_
    have := congrArg (t ^^^ ·) e
    simpa only [xor_self_l] using this
  have := len_of_mem (asc_nodup (sext_asc t)) hn fun x => by
    rw [mem_sext ht, List.mem_map]
    constructor
    · rintro (rfl | ⟨h1, h2⟩)
      · exact ⟨0, by simp, by simp⟩
      · refine ⟨x ^^^ t, ?_, by rw [Nat.xor_comm x t]; exact xor_self_l _ _⟩
        rw [List.mem_cons, mem_octs, hasf_iff]
        refine .inr ⟨h1, sub_bits.2 fun i hi => ?_, by simp⟩
        have a := and0_bits.1 (and0_comm h2) i hi
        rw [Nat.testBit_xor, hi, a]; rfl
    · rintro ⟨y, hy, rfl⟩
      rw [List.mem_cons, mem_octs, hasf_iff] at hy
      rcases hy with rfl | ⟨h1, h2, _⟩
      · left; simp
      · right
        refine ⟨by rw [Nat.xor_comm t y, xor_self_r]; exact h1, and0_bits.2 fun i hi => ?_⟩
        have a := sub_bits.1 h2 i
        rw [Nat.testBit_xor] at hi
        cases hti : t.testBit i <;> simp_all
  rw [this, List.length_map, hl]
/-- Each tetrad of a sextet has this sextet. -/
theorem sext_same {u : Nat} (hu : u ∈ sext t) : sext u = sext t := by
  have hul := sext_lt ht hu
  have hu4 := sext_wt ht h4 hu
  have h1 : ∀ x, x ∈ sext t → x ∈ sext u := by
    intro x hx
    rw [mem_sext hul]
    by_cases e : x = u
    · exact .inl e
    · have := sext_two ht h4 hx hu e; exact .inr ⟨this.2, this.1⟩
  have h2 : ∀ x, x ∈ sext u → x ∈ sext t := by
    intro x hx
    have htu := h1 t (sext_self ht)
    rw [mem_sext ht]
    by_cases e : x = t
    · exact .inl e
    · have := sext_two hul hu4 hx htu e; exact .inr ⟨this.2, this.1⟩
  exact asc_ext (sext_asc _) (sext_asc _) fun x => ⟨h2 x, h1 x⟩
/-- Each place is in just one tetrad. -/
theorem sext_cover {p : Nat} (hp : p < 24) : ls (sext t) (fun y => bt y p) = 1 := by
  have hdis : ∀ (l : List Nat), l.Nodup → (∀ y ∈ l, y ∈ sext t) → ∀ q, ls l (fun y => bt y q) ≤ 1 := by
    intro l
    induction l with
    | nil => intro _ _ q; simp [ls]
    | cons a r ih =>
      intro hn hm q
      rw [List.nodup_cons] at hn
      have h1 := ih hn.2 (fun y hy => hm y (by simp [hy])) q
      rw [ls_cons]
      cases ha : a.testBit q with
      | false => rw [bt_zero.2 ha]; omega
      | true =>
        have : ls r (fun y => bt y q) = 0 := by
          have e : ∀ y ∈ r, bt y q = 0 := fun y hy => by
            have hne : a ≠ y := by rintro rfl; exact hn.1 hy
            have := (sext_two ht h4 (hm a (by simp)) (hm y (by simp [hy])) hne).1
            exact bt_zero.2 (and0_bits.1 this q ha)
          rw [ls_congr e, ls_const]; omega
        have := bt_le a q
        omega
  have hs := ls_sm (sext t) 24 bt
  have hw : ls (sext t) (fun x => sm 24 (bt x)) = 24 := by
    have e : ∀ x ∈ sext t, sm 24 (bt x) = 4 := fun x hx => sext_wt ht h4 hx
    rw [ls_congr e, ls_const, sext_len ht h4]
  rw [hw] at hs
  exact sm_tight (n := 24) (f := fun p => ls (sext t) (fun x => bt x p)) (g := fun _ => 1) (fun i _ => hdis _ (asc_nodup (sext_asc t)) (fun y hy => hy) i) (by rw [sm_const]; omega) p hp
/-- A word is shared out among the tetrads. -/
theorem sext_share (w : Nat) : ls (sext t) (fun y => wt (w &&& y)) = wt w := by
  unfold wt
  rw [ls_sm]
  refine sm_congr fun p hp => ?_
  have e : ∀ y ∈ sext t, bt (w &&& y) p = bt w p * bt y p := fun y _ => by
    unfold bt; rw [Nat.testBit_and]; cases w.testBit p <;> cases y.testBit p <;> rfl
  rw [ls_congr e, ls_mul, sext_cover ht h4 hp, Nat.mul_one]
end
attribute [irreducible] nearL sext
end Go.Proofs.Ytmboaaopmjmdnaa
