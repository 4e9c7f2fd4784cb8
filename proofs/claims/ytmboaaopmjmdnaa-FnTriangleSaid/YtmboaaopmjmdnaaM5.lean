/- Octads: how many there are through given places. No program here. -/
import Derived.Test.YtmboaaopmjmdnaaM4
namespace Go.Proofs.Ytmboaaopmjmdnaa

/-- Sums over a list. -/
def ls (l : List Nat) (g : Nat → Nat) : Nat := (l.map g).sum
theorem ls_cons (a : Nat) (l : List Nat) (g : Nat → Nat) : ls (a :: l) g = g a + ls l g := by simp [ls]
theorem ls_congr {l : List Nat} {f g : Nat → Nat} (h : ∀ x ∈ l, f x = g x) : ls l f = ls l g := by
  unfold ls; rw [List.map_congr_left h]
theorem ls_add (l : List Nat) (f g : Nat → Nat) : ls l (fun x => f x + g x) = ls l f + ls l g := by
  induction l with
  | nil => rfl
  | cons a r ih => simp only [ls_cons, ih]; omega
theorem ls_mul (l : List Nat) (c : Nat) (f : Nat → Nat) : ls l (fun x => c * f x) = c * ls l f := by
  induction l with
  | nil => rfl
  | cons a r ih => simp only [ls_cons, ih, Nat.mul_add]
theorem ls_const (l : List Nat) (c : Nat) : ls l (fun _ => c) = c * l.length := by
  induction l with
  | nil => rfl
  | cons a r ih => simp only [ls_cons, ih, List.length_cons, Nat.mul_add]; omega
theorem ls_filter (l : List Nat) (p : Nat → Bool) (f : Nat → Nat) : ls (l.filter p) f = ls l (fun x => if p x then f x else 0) := by
  induction l with
  | nil => rfl
  | cons a r ih =>
    rw [List.filter_cons]
    by_cases h : p a = true
    · rw [if_pos h]; simp only [ls_cons, ih, if_pos h]
    · rw [if_neg h]; simp only [ls_cons, ih, if_neg h]; omega
theorem length_ls (l : List Nat) (p : Nat → Bool) : (l.filter p).length = ls l (fun x => if p x then 1 else 0) := by
  have := ls_filter l p (fun _ => 1)
  rw [ls_const] at this; omega
/-- The order of two sums is open. -/
theorem ls_sm (l : List Nat) (n : Nat) (F : Nat → Nat → Nat) : ls l (fun x => sm n (F x)) = sm n (fun p => ls l (fun x => F x p)) := by
  induction l with
  | nil => simp only [ls]; exact (sm_all0 (fun _ _ => rfl)).symm
  | cons a r ih => simp only [ls_cons, ih]; rw [← sm_add]

/-! ### Lists in ascending order -/
def Asc (l : List Nat) : Prop := l.Pairwise (· < ·)
theorem asc_ext {a b : List Nat} (ha : Asc a) (hb : Asc b) (h : ∀ x, x ∈ a ↔ x ∈ b) : a = b := by
  induction a generalizing b with
  | nil =>
    cases b with
    | nil => rfl
    | cons y r => have := (h y).2 (by simp); simp at this
  | cons x l ih =>
    cases b with
    | nil => have := (h x).1 (by simp); simp at this
    | cons y r =>
      have ha' := List.pairwise_cons.1 ha
      have hb' := List.pairwise_cons.1 hb
      have exy : x = y := by
        have h1 := (h x).1 (by simp)
        have h2 := (h y).2 (by simp)
        rw [List.mem_cons] at h1 h2
        rcases h1 with h1 | h1
        · exact h1
        · rcases h2 with h2 | h2
          · exact h2.symm
          · have := ha'.1 _ h2; have := hb'.1 _ h1; omega
      subst exy
      rw [ih ha'.2 hb'.2 (fun z => ?_)]
      constructor
      · intro hz
        have := (h z).1 (by simp [hz])
        rw [List.mem_cons] at this
        rcases this with e | e
        · subst e; have := ha'.1 _ hz; omega
        · exact e
      · intro hz
        have := (h z).2 (by simp [hz])
        rw [List.mem_cons] at this
        rcases this with e | e
        · subst e; have := hb'.1 _ hz; omega
        · exact e
theorem asc_nodup {a : List Nat} (h : Asc a) : a.Nodup := List.Pairwise.imp (fun {a b} (h : a < b) => by omega) h

/-! ### Octads -/
def Sub (s w : Nat) : Prop := w &&& s = s
instance (s w : Nat) : Decidable (Sub s w) := inferInstanceAs (Decidable (_ = _))
theorem sub_bits {s w : Nat} : Sub s w ↔ ∀ i, s.testBit i = true → w.testBit i = true := by
  unfold Sub
  constructor
  · intro h i hi
    rw [← h, Nat.testBit_and, Bool.and_eq_true] at hi
    exact hi.1
  · intro h
    apply Nat.eq_of_testBit_eq
    intro i
    rw [Nat.testBit_and]
    have := h i
    cases hs : s.testBit i <;> simp_all
theorem sub_wt {s w : Nat} (h : Sub s w) : wt s ≤ wt w := wt_mono fun i _ => sub_bits.1 h i
theorem sub_of_wt {s w : Nat} (hs : s < 16777216) (h : wt s ≤ wt (w &&& s)) : Sub s w := by
  have h1 := sm_tight (n := 24) (f := bt (w &&& s)) (g := bt s) (fun i _ => by
    unfold bt; rw [Nat.testBit_and]; cases w.testBit i <;> simp) h
  refine sub_bits.2 fun i hi => ?_
  have h2 := h1 i (bit_lt hs hi)
  rw [bt_one.2 hi, bt_one, Nat.testBit_and, Bool.and_eq_true] at h2
  exact h2.1
theorem sub_eq {s w : Nat} (hs : s < 16777216) (hw : w < 16777216) (h : Sub s w) (hwt : wt w ≤ wt s) : s = w := by
  have h2 : Sub w s := sub_of_wt hw (by unfold Sub at h; rw [Nat.and_comm, h]; exact hwt)
  refine w_ext hs hw fun i _ => ?_
  have a := sub_bits.1 h i; have b := sub_bits.1 h2 i
  cases h3 : s.testBit i <;> cases h4 : w.testBit i <;> simp_all
def Oct (w : Nat) : Prop := Cod w ∧ wt w = 8
theorem oct_lt {w : Nat} (h : Oct w) : w < 16777216 := h.1.1
theorem oct_ne {a b : Nat} (ha : Oct a) (hb : Oct b) (h : a ≠ b) : wt (a &&& b) ≤ 4 := by
  have h1 := cod_xor ha.1 hb.1
  have h2 := wt_xor a b
  have h3 := ha.2; have h4 := hb.2
  rcases cod_wt h1 (by
    intro e
    apply h
    refine w_ext (oct_lt ha) (oct_lt hb) fun i _ => ?_
    have := congrArg (Nat.testBit · i) e
    simp only [Nat.testBit_xor, Nat.zero_testBit] at this
    revert this
    cases a.testBit i <;> cases b.testBit i <;> decide) with h | h | h | h <;> omega
theorem sub_and {s a b : Nat} (ha : Sub s a) (hb : Sub s b) : Sub s (a &&& b) := by
  unfold Sub at *; rw [Nat.and_assoc, hb, ha]
theorem oct_unique {s a b : Nat} (ha : Oct a) (hb : Oct b) (h1 : Sub s a) (h2 : Sub s b) (h5 : 5 ≤ wt s) : a = b := by
  by_cases h : a = b
  · exact h
  · have := oct_ne ha hb h; have := sub_wt (sub_and h1 h2); omega
/-- Through five places there is an octad. -/
theorem oct_exists {s : Nat} (hs : s < 16777216) (h5 : wt s = 5) : ∃ x, Oct x ∧ Sub s x := by
  obtain ⟨c, hc, h4⟩ := cover hs
  have h1 := wt_xor s c
  have h2 := cod_mod4 hc
  have h3 : wt (s &&& c) ≤ 5 := by rw [← h5]; exact wt_mono fun i _ h => by rw [Nat.testBit_and, Bool.and_eq_true] at h; exact h.1
  have h0 : c ≠ 0 := by rintro rfl; rw [Nat.xor_zero] at h4; omega
  have h8 := cod_wt hc h0
  exact ⟨c, ⟨hc, by omega⟩, sub_of_wt hs (by rw [Nat.and_comm]; omega)⟩

/-- All octads for which f says yes, in ascending order. (Not meant to be run.) -/
def isOct (w : Nat) : Bool := inCode w && wt w == 8
theorem isOct_iff {w : Nat} (hw : w < 16777216) : isOct w = true ↔ Oct w := by
  unfold isOct Oct Cod; simp [hw]
def octs (f : Nat → Bool) : List Nat := (List.range 16777216).filter fun w => isOct w && f w
theorem mem_octs {f : Nat → Bool} {w : Nat} : w ∈ octs f ↔ Oct w ∧ f w = true := by
  unfold octs
  rw [List.mem_filter, List.mem_range, Bool.and_eq_true]
  constructor
  · rintro ⟨h1, h2, h3⟩; exact ⟨(isOct_iff h1).1 h2, h3⟩
  · rintro ⟨h1, h2⟩; exact ⟨oct_lt h1, (isOct_iff (oct_lt h1)).2 h1, h2⟩
theorem octs_asc (f : Nat → Bool) : Asc (octs f) := (List.pairwise_lt_range).filter _
def yes : Nat → Bool := fun _ => true
theorem octs_filter (f : Nat → Bool) : octs f = (octs yes).filter f := by
  unfold octs yes
  rw [List.filter_filter]
  congr 1
  funext w
  rw [Bool.and_true, Bool.and_comm]
/-- How many octads have all places of s and none of t. -/
def hasf (s t w : Nat) : Bool := w &&& s == s && w &&& t == 0
def cnt (s t : Nat) : Nat := (octs (hasf s t)).length
theorem cnt_ls (s t : Nat) : cnt s t = ls (octs yes) (fun x => if hasf s t x then 1 else 0) := by
  unfold cnt; rw [octs_filter, length_ls]
theorem hasf_iff {s t w : Nat} : hasf s t w = true ↔ Sub s w ∧ ∀ i, t.testBit i = true → w.testBit i = false := by
  unfold hasf Sub
  rw [Bool.and_eq_true, beq_iff_eq, beq_iff_eq]
  refine and_congr Iff.rfl ⟨fun h i hi => ?_, fun h => ?_⟩
  · have := congrArg (Nat.testBit · i) h
    simp only [Nat.testBit_and, Nat.zero_testBit, hi, Bool.and_true] at this
    exact this
  · apply Nat.eq_of_testBit_eq
    intro i
    rw [Nat.testBit_and, Nat.zero_testBit]
    have := h i
    cases ht : t.testBit i <;> simp_all
/-- A place more on one side or the other. -/
theorem cnt_split (s t p : Nat) : cnt s t = cnt (s ||| 1 <<< p) t + cnt s (t ||| 1 <<< p) := by
  rw [cnt_ls, cnt_ls, cnt_ls, ← ls_add]
  refine ls_congr fun x _ => ?_
  have e1 : hasf (s ||| 1 <<< p) t x = (hasf s t x && x.testBit p) := by
    rw [Bool.eq_iff_iff, Bool.and_eq_true, hasf_iff, hasf_iff, sub_bits, sub_bits]
    simp only [Nat.testBit_or, bit_one, Bool.or_eq_true, decide_eq_true_eq]
    constructor
    · rintro ⟨h1, h2⟩; exact ⟨⟨fun i hi => h1 i (.inl hi), h2⟩, h1 p (.inr rfl)⟩
    · rintro ⟨⟨h1, h2⟩, h3⟩; exact ⟨fun i hi => hi.elim (h1 i) (fun e => e ▸ h3), h2⟩
  have e2 : hasf s (t ||| 1 <<< p) x = (hasf s t x && !x.testBit p) := by
    rw [Bool.eq_iff_iff, Bool.and_eq_true, hasf_iff, hasf_iff]
    simp only [Nat.testBit_or, bit_one, Bool.or_eq_true, decide_eq_true_eq, Bool.not_eq_true']
    constructor
    · rintro ⟨h1, h2⟩; exact ⟨⟨h1, fun i hi => h2 i (.inl hi)⟩, h2 p (.inr rfl)⟩
    · rintro ⟨⟨h1, h2⟩, h3⟩; exact ⟨h1, fun i hi => hi.elim (h2 i) (fun e => e ▸ h3)⟩
  rw [e1, e2]
  cases hasf s t x <;> cases x.testBit p <;> rfl
/-- The octads through the places of s are counted by one place more. -/
theorem cnt_double (s : Nat) (L : Nat) (h : ∀ p, p < 24 → s.testBit p = false → cnt (s ||| 1 <<< p) 0 = L) : (24 - wt s) * L = (8 - wt s) * cnt s 0 := by
  have h1 : sm 24 (fun p => ls (octs yes) (fun x => if hasf s 0 x && x.testBit p && !s.testBit p then 1 else 0)) = sm 24 (fun p => (1 - bt s p) * L) := by
    refine sm_congr fun p hp => ?_
    cases hb : s.testBit p with
    | true => rw [bt_one.2 hb]; simp [ls_const]
    | false =>
      rw [bt_zero.2 hb, Nat.sub_zero, Nat.one_mul, ← h p hp hb, cnt_ls]
      refine ls_congr fun x _ => ?_
      have e1 : hasf (s ||| 1 <<< p) 0 x = (hasf s 0 x && x.testBit p) := by
        rw [Bool.eq_iff_iff, Bool.and_eq_true, hasf_iff, hasf_iff, sub_bits, sub_bits]
        simp only [Nat.testBit_or, bit_one, Bool.or_eq_true, decide_eq_true_eq]
        constructor
        · rintro ⟨h1, h2⟩; exact ⟨⟨fun i hi => h1 i (.inl hi), h2⟩, h1 p (.inr rfl)⟩
        · rintro ⟨⟨h1, h2⟩, h3⟩; exact ⟨fun i hi => hi.elim (h1 i) (fun e => e ▸ h3), h2⟩
      rw [e1]; simp
  have h2 : sm 24 (fun p => (1 - bt s p) * L) = (24 - wt s) * L := by
    have e : ∀ p, p < 24 → (1 - bt s p) * L = L * (1 - bt s p) := fun p _ => Nat.mul_comm _ _
    have e2 := sm_add 24 (fun p => 1 - bt s p) (bt s)
    have e3 : sm 24 (fun p => 1 - bt s p + bt s p) = 24 := by
      rw [sm_congr (g := fun _ => 1) (fun p _ => by have := bt_le s p; omega), sm_const]
    have e5 : wt s = sm 24 (bt s) := rfl
    have e4 : sm 24 (fun p => 1 - bt s p) = 24 - wt s := by omega
    rw [sm_congr e, sm_mul, e4, Nat.mul_comm]
  have h3 : ls (octs yes) (fun x => sm 24 (fun p => if hasf s 0 x && x.testBit p && !s.testBit p then 1 else 0)) = (8 - wt s) * cnt s 0 := by
    rw [cnt_ls, ← ls_mul]
    refine ls_congr fun x hx => ?_
    have hox := (mem_octs.1 hx).1
    cases hh : hasf s 0 x with
    | false => simp [sm_const]
    | true =>
      have hsub := (hasf_iff.1 hh).1
      have e1 : wt x = wt s + sm 24 (fun p => if (true && x.testBit p && !s.testBit p) = true then 1 else 0) := by
        unfold wt
        rw [← sm_add]
        refine sm_congr fun p _ => ?_
        have := sub_bits.1 hsub p
        unfold bt
        cases h1 : x.testBit p <;> cases h2 : s.testBit p <;> simp_all
      have := hox.2
      simp only [if_true, Nat.mul_one]
      omega
  rw [← h2, ← h1, ← ls_sm, h3]
theorem cnt5 {s : Nat} (hs : s < 16777216) (h : wt s = 5) : cnt s 0 = 1 := by
  obtain ⟨x, hx, hsub⟩ := oct_exists hs h
  have e : octs (hasf s 0) = [x] := by
    refine asc_ext (octs_asc _) (by simp [Asc]) fun y => ?_
    rw [mem_octs, hasf_iff, List.mem_singleton]
    constructor
    · rintro ⟨h1, h2, _⟩; exact oct_unique h1 hx h2 hsub (by omega)
    · rintro rfl; exact ⟨hx, hsub, by simp⟩
  unfold cnt; rw [e]; rfl
theorem cnt4 {s : Nat} (hs : s < 16777216) (h : wt s = 4) : cnt s 0 = 5 := by
  have := cnt_double s 1 (fun p hp hb => cnt5 (or_lt hs (one_shl_lt hp)) (by rw [wt_put hp hb, h]))
  rw [h] at this; omega
theorem cnt3 {s : Nat} (hs : s < 16777216) (h : wt s = 3) : cnt s 0 = 21 := by
  have := cnt_double s 5 (fun p hp hb => cnt4 (or_lt hs (one_shl_lt hp)) (by rw [wt_put hp hb, h]))
  rw [h] at this; omega
theorem cnt2 {s : Nat} (hs : s < 16777216) (h : wt s = 2) : cnt s 0 = 77 := by
  have := cnt_double s 21 (fun p hp hb => cnt3 (or_lt hs (one_shl_lt hp)) (by rw [wt_put hp hb, h]))
  rw [h] at this; omega
theorem cnt1 {s : Nat} (hs : s < 16777216) (h : wt s = 1) : cnt s 0 = 253 := by
  have := cnt_double s 77 (fun p hp hb => cnt2 (or_lt hs (one_shl_lt hp)) (by rw [wt_put hp hb, h]))
  rw [h] at this; omega
theorem wt_0 : wt 0 = 0 := by decide
theorem cnt0 : cnt 0 0 = 759 := by
  have := cnt_double 0 253 (fun p hp hb => cnt1 (or_lt (by decide) (one_shl_lt hp)) (by rw [wt_put hp hb, wt_0]))
  rw [wt_0] at this; omega
/-- Through more than five places there is at most one octad. -/
theorem cnt_more {s : Nat} (h : 5 ≤ wt s) : cnt s 0 ≤ 1 := by
  have hu : ∀ x y, x ∈ octs (hasf s 0) → y ∈ octs (hasf s 0) → x = y := by
    intro x y hx hy
    rw [mem_octs, hasf_iff] at hx hy
    exact oct_unique hx.1 hy.1 hx.2.1 hy.2.1 h
  have hn := asc_nodup (octs_asc (hasf s 0))
  unfold cnt
  match hl : octs (hasf s 0) with
  | [] => simp
  | [_] => simp
  | a :: b :: r =>
    rw [hl] at hu hn
    have := hu a b (by simp) (by simp)
    simp [this] at hn
attribute [irreducible] octs
end Go.Proofs.Ytmboaaopmjmdnaa
