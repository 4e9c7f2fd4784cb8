/- How octads meet; the triangle; dodecads; the kinds of two sextets. No program here. -/
import Derived.Test.YtmboaaopmjmdnaaM6
namespace Go.Proofs.Ytmboaaopmjmdnaa

theorem sm_swap (n m : Nat) (F : Nat → Nat → Nat) : sm n (fun i => sm m (F i)) = sm m (fun k => sm n (fun i => F i k)) := by
  induction n with
  | zero => simp only [sm]; exact (sm_all0 (fun _ _ => rfl)).symm
  | succ n ih => simp only [sm]; rw [ih, ← sm_add]

/-! ### Octads that meet an octad -/
def meets (w j : Nat) : Nat := ((octs yes).filter fun x => wt (x &&& w) == j).length
theorem meets_ls (w j : Nat) : meets w j = ls (octs yes) (fun x => if wt (x &&& w) = j then 1 else 0) := by
  unfold meets; rw [length_ls]; refine ls_congr fun x _ => ?_
  by_cases h : wt (x &&& w) = j <;> simp [h]
theorem bt_has1 (p x : Nat) : bt x p = if hasf (1 <<< p) 0 x then 1 else 0 := by
  have : hasf (1 <<< p) 0 x = x.testBit p := by
    rw [Bool.eq_iff_iff, hasf_iff, sub_bits]
    constructor
    · rintro ⟨h1, _⟩; exact h1 p (by rw [bit_one]; simp)
    · intro h
      refine ⟨fun i hi => ?_, by simp⟩
      rw [bit_one] at hi
      have : p = i := by simpa using hi
      exact this ▸ h
  rw [this]; unfold bt; cases x.testBit p <;> rfl
theorem ls_bt {p : Nat} (hp : p < 24) : ls (octs yes) (fun x => bt x p) = 253 := by
  rw [ls_congr (fun x _ => bt_has1 p x), ← cnt_ls]
  exact cnt1 (one_shl_lt hp) (wt_one hp)
theorem ls_bt2 {p q : Nat} (hp : p < 24) (hq : q < 24) (h : p ≠ q) : ls (octs yes) (fun x => bt x p * bt x q) = 77 := by
  have hb : (1 <<< p).testBit q = false := by rw [bit_one]; simpa using h
  have e : ∀ x ∈ octs yes, bt x p * bt x q = if hasf (1 <<< p ||| 1 <<< q) 0 x then 1 else 0 := by
    intro x _
    have : hasf (1 <<< p ||| 1 <<< q) 0 x = (x.testBit p && x.testBit q) := by
      rw [Bool.eq_iff_iff, hasf_iff, sub_bits, Bool.and_eq_true]
      simp only [Nat.testBit_or, bit_one, Bool.or_eq_true, decide_eq_true_eq]
      constructor
      · rintro ⟨h1, _⟩; exact ⟨h1 p (.inl rfl), h1 q (.inr rfl)⟩
      · rintro ⟨h1, h2⟩; exact ⟨fun i hi => hi.elim (fun e => e ▸ h1) (fun e => e ▸ h2), by simp⟩
    rw [this]; unfold bt; cases x.testBit p <;> cases x.testBit q <;> rfl
  rw [ls_congr e, ← cnt_ls]
  exact cnt2 (or_lt (one_shl_lt hp) (one_shl_lt hq)) (by rw [wt_put hq hb, wt_one hp])
theorem bt_and (a b p : Nat) : bt (a &&& b) p = bt b p * bt a p := by
  unfold bt; rw [Nat.testBit_and]; cases a.testBit p <;> cases b.testBit p <;> rfl
theorem meet_sum1 {w : Nat} (h : wt w = 8) : ls (octs yes) (fun x => wt (x &&& w)) = 2024 := by
  have e1 : ls (octs yes) (fun x => wt (x &&& w)) = sm 24 (fun p => ls (octs yes) (fun x => bt (x &&& w) p)) := ls_sm _ 24 _
  have e2 : ∀ p, p < 24 → ls (octs yes) (fun x => bt (x &&& w) p) = 253 * bt w p := fun p hp => by
    rw [ls_congr (fun x _ => bt_and x w p), ls_mul, ls_bt hp, Nat.mul_comm]
  rw [e1, sm_congr e2, sm_mul]
  have : sm 24 (bt w) = 8 := h
  omega
theorem sm_times (n : Nat) (f : Nat → Nat) (c : Nat) : sm n f * c = sm n (fun i => f i * c) := by
  rw [Nat.mul_comm, ← sm_mul]; exact sm_congr fun i _ => Nat.mul_comm _ _
theorem meet_sum2 {w : Nat} (h : wt w = 8) : ls (octs yes) (fun x => wt (x &&& w) * wt (x &&& w)) = 6336 := by
  have hw : sm 24 (bt w) = 8 := h
  have e0 : ∀ x ∈ octs yes, wt (x &&& w) * wt (x &&& w) = sm 24 (fun p => sm 24 (fun q => (bt w p * bt w q) * (bt x p * bt x q))) := by
    intro x _
    have : wt (x &&& w) = sm 24 (fun p => bt w p * bt x p) := sm_congr fun p _ => bt_and x w p
    rw [this, sm_times]
    refine sm_congr fun p _ => ?_
    rw [← sm_mul]
    refine sm_congr fun q _ => ?_
    ac_rfl
  rw [ls_congr e0, ls_sm]
  have e1 : ∀ p, p < 24 → ls (octs yes) (fun x => sm 24 (fun q => (bt w p * bt w q) * (bt x p * bt x q))) = 792 * bt w p := by
    intro p hp
    rw [ls_sm]
    have e2 : ∀ q, q < 24 → ls (octs yes) (fun x => (bt w p * bt w q) * (bt x p * bt x q)) = bt w p * (77 * bt w q) + (if q = p then 176 * bt w p else 0) := by
      intro q hq
      rw [ls_mul]
      by_cases e : q = p
      · subst e
        have : ∀ x ∈ octs yes, bt x q * bt x q = bt x q := fun x _ => by unfold bt; cases x.testBit q <;> rfl
        rw [ls_congr this, ls_bt hq, if_pos rfl]
        have := bt_le w q
        match hb : bt w q, this with
        | 0, _ => rfl
        | 1, _ => rfl
      · rw [ls_bt2 hp hq (fun h => e h.symm), if_neg e, Nat.add_zero]
        rw [Nat.mul_assoc, Nat.mul_comm (bt w q)]
    rw [sm_congr e2, sm_add, sm_mul, sm_mul, hw]
    have e3 : sm 24 (fun q => if q = p then 176 * bt w p else 0) = 176 * bt w p := by
      have : ∀ n, sm n (fun q => if q = p then 176 * bt w p else 0) = if p < n then 176 * bt w p else 0 := by
        intro n
        induction n with
        | zero => simp [sm]
        | succ n ih =>
          simp only [sm]
          rw [ih]
          split <;> split <;> split <;> omega
      rw [this, if_pos hp]
    rw [e3]; omega
  rw [sm_congr e1, sm_mul, hw]
theorem meet_8 {w : Nat} (h : Oct w) : meets w 8 = 1 := by
  have e : (octs yes).filter (fun x => wt (x &&& w) == 8) = [w] := by
    refine asc_ext ((octs_asc yes).filter _) (by simp [Asc]) fun x => ?_
    rw [List.mem_filter, mem_octs, beq_iff_eq, List.mem_singleton]
    constructor
    · rintro ⟨⟨h1, _⟩, h2⟩
      by_cases e : x = w
      · exact e
      · have := oct_ne h1 h e; omega
    · rintro rfl
      refine ⟨⟨h, rfl⟩, ?_⟩
      rw [Nat.and_self]; exact h.2
  unfold meets; rw [e]; rfl
/-- An octad is met in 0, 2, 4 or 8 places, by so many. -/
theorem meets_all {w : Nat} (h : Oct w) (j : Nat) (hj : j < 9) : meets w j = [30, 0, 448, 0, 280, 0, 0, 0, 1].getD j 0 := by
  have s1 := meet_sum1 h.2
  have s2 := meet_sum2 h.2
  have s0 : (octs yes).length = 759 := by
    have e : octs yes = octs (hasf 0 0) := by
      refine asc_ext (octs_asc _) (octs_asc _) fun x => ?_
      rw [mem_octs, mem_octs, hasf_iff]; simp [Sub, yes]
    rw [e]; exact cnt0
  have m8 := meet_8 h
  have hv : ∀ x ∈ octs yes, wt (x &&& w) = 0 ∨ wt (x &&& w) = 2 ∨ wt (x &&& w) = 4 ∨ wt (x &&& w) = 8 := by
    intro x hx
    have ho := (mem_octs.1 hx).1
    by_cases e : x = w
    · subst e; rw [Nat.and_self]; have := ho.2; omega
    · have h1 := oct_ne ho h e; have h2 := cod_meet ho.1 h.1; omega
  have a0 := meets_ls w 0; have a2 := meets_ls w 2; have a4 := meets_ls w 4; have a8 := meets_ls w 8
  have t0 : ls (octs yes) (fun x => ((if wt (x &&& w) = 0 then 1 else 0) + (if wt (x &&& w) = 2 then 1 else 0)) + ((if wt (x &&& w) = 4 then 1 else 0) + (if wt (x &&& w) = 8 then 1 else 0))) = 1 * (octs yes).length := by
    rw [← ls_const]; refine ls_congr fun x hx => ?_
    rcases hv x hx with e | e | e | e <;> rw [e] <;> rfl
  have t1 : ls (octs yes) (fun x => wt (x &&& w)) = ls (octs yes) (fun x => (2 * (if wt (x &&& w) = 2 then 1 else 0)) + (4 * (if wt (x &&& w) = 4 then 1 else 0) + 8 * (if wt (x &&& w) = 8 then 1 else 0))) := by
    refine ls_congr fun x hx => ?_
    rcases hv x hx with e | e | e | e <;> rw [e] <;> rfl
  have t2 : ls (octs yes) (fun x => wt (x &&& w) * wt (x &&& w)) = ls (octs yes) (fun x => (4 * (if wt (x &&& w) = 2 then 1 else 0)) + (16 * (if wt (x &&& w) = 4 then 1 else 0) + 64 * (if wt (x &&& w) = 8 then 1 else 0))) := by
    refine ls_congr fun x hx => ?_
    rcases hv x hx with e | e | e | e <;> rw [e] <;> rfl
  simp only [ls_add, ls_mul] at t0 t1 t2
  rw [← a0, ← a2, ← a4, ← a8] at t0
  rw [← a2, ← a4, ← a8] at t1 t2
  rw [s0] at t0
  rw [s1] at t1
  rw [s2] at t2
  have odd : ∀ i, i ≠ 0 → i ≠ 2 → i ≠ 4 → i ≠ 8 → meets w i = 0 := by
    intro i h0 h2 h4 h8
    rw [meets_ls, ls_congr (g := fun _ => 0) (fun x hx => by rcases hv x hx with e | e | e | e <;> rw [e] <;> rw [if_neg (by omega)]), ls_const]
    omega
  match j, hj with
  | 0, _ => show meets w 0 = 30; omega
  | 1, _ => exact odd 1 (by decide) (by decide) (by decide) (by decide)
  | 2, _ => show meets w 2 = 448; omega
  | 3, _ => exact odd 3 (by decide) (by decide) (by decide) (by decide)
  | 4, _ => show meets w 4 = 280; omega
  | 5, _ => exact odd 5 (by decide) (by decide) (by decide) (by decide)
  | 6, _ => exact odd 6 (by decide) (by decide) (by decide) (by decide)
  | 7, _ => exact odd 7 (by decide) (by decide) (by decide) (by decide)
  | 8, _ => exact m8

/-! ### The triangle -/
def triN (k : Nat) : Nat → Nat
  | 0 => [759, 253, 77, 21, 5, 1, 1, 1, 1].getD k 0
  | j + 1 => triN k j - triN (k + 1) j
theorem wt_pos {t : Nat} (h : 0 < wt t) : ∃ p, p < 24 ∧ t.testBit p = true := by
  have : ∀ n, 0 < sm n (bt t) → ∃ p, p < n ∧ t.testBit p = true := by
    intro n
    induction n with
    | zero => intro h; simp [sm] at h
    | succ n ih =>
      intro h
      simp only [sm] at h
      cases hb : t.testBit n with
      | true => exact ⟨n, by omega, hb⟩
      | false =>
        rw [bt_zero.2 hb] at h
        obtain ⟨p, hp, h'⟩ := ih (by omega)
        exact ⟨p, by omega, h'⟩
  exact this 24 h
theorem triangle {w : Nat} (h : Oct w) : ∀ j s t, s < 16777216 → t < 16777216 → Sub s w → Sub t w → s &&& t = 0 → wt t = j → cnt s t = triN (wt s) j := by
  intro j
  induction j with
  | zero =>
    intro s t hs ht h1 _ _ h4
    have := wt_zero ht h4
    subst this
    have hle : wt s ≤ 8 := by have := sub_wt h1; have := h.2; omega
    simp only [triN]
    match hk : wt s, hle with
    | 0, _ => have := wt_zero hs hk; subst this; exact cnt0
    | 1, _ => exact cnt1 hs hk
    | 2, _ => exact cnt2 hs hk
    | 3, _ => exact cnt3 hs hk
    | 4, _ => exact cnt4 hs hk
    | 5, _ => exact cnt5 hs hk
    | k + 6, hk' =>
      have h6 := cnt_more (s := s) (by omega)
      have h7 : 0 < cnt s 0 := by
        unfold cnt
        exact List.length_pos_of_mem (mem_octs.2 ⟨h, hasf_iff.2 ⟨h1, by simp⟩⟩)
      have : [759, 253, 77, 21, 5, 1, 1, 1, 1].getD (k + 6) 0 = 1 := by
        match k, hk' with
        | 0, _ => rfl
        | 1, _ => rfl
        | 2, _ => rfl
      rw [this]; omega
  | succ j ih =>
    intro s t hs ht h1 h2 h3 h4
    obtain ⟨p, hp, hb⟩ := wt_pos (t := t) (by omega)
    have hsp : s.testBit p = false := by
      have := and0_bits.1 (and0_comm h3) p hb; exact this
    have e : t = (t ^^^ 1 <<< p) ||| 1 <<< p := by
      apply Nat.eq_of_testBit_eq
      intro i
      rw [Nat.testBit_or, Nat.testBit_xor, bit_one]
      by_cases hip : p = i
      · subst hip; simp [hb]
      · simp [hip]
    have hb' : (t ^^^ 1 <<< p).testBit p = false := by rw [Nat.testBit_xor, bit_one, hb]; simp
    have ht' : t ^^^ 1 <<< p < 16777216 := xor_lt ht (one_shl_lt hp)
    have hsub : ∀ i, (t ^^^ 1 <<< p).testBit i = true → t.testBit i = true := by
      intro i hi
      rw [e, Nat.testBit_or, hi]; rfl
    have hw' : wt (t ^^^ 1 <<< p) = j := by
      have := wt_put hp hb'
      rw [← e] at this; omega
    have d' : s &&& (t ^^^ 1 <<< p) = 0 := by
      rw [and0_bits]
      intro i hi
      have := and0_bits.1 h3 i hi
      cases hx : (t ^^^ 1 <<< p).testBit i with
      | false => rfl
      | true => rw [hsub i hx] at this; cases this
    have s' : Sub (t ^^^ 1 <<< p) w := sub_bits.2 fun i hi => sub_bits.1 h2 i (hsub i hi)
    have hs2 : s ||| 1 <<< p < 16777216 := or_lt hs (one_shl_lt hp)
    have hs2' : Sub (s ||| 1 <<< p) w := sub_bits.2 fun i hi => by
      rw [Nat.testBit_or, Bool.or_eq_true, bit_one] at hi
      rcases hi with hi | hi
      · exact sub_bits.1 h1 i hi
      · have : p = i := by simpa using hi
        subst this; exact sub_bits.1 h2 p hb
    have d2 : (s ||| 1 <<< p) &&& (t ^^^ 1 <<< p) = 0 := by
      rw [and0_bits]
      intro i hi
      rw [Nat.testBit_or, Bool.or_eq_true, bit_one] at hi
      rcases hi with hi | hi
      · exact and0_bits.1 d' i hi
      · have : p = i := by simpa using hi
        subst this; exact hb'
    have c1 := ih s _ hs ht' h1 s' d' hw'
    have c2 := ih _ _ hs2 ht' hs2' s' d2 hw'
    rw [wt_put hp hsp] at c2
    have c3 := cnt_split s (t ^^^ 1 <<< p) p
    rw [← e, c1, c2] at c3
    simp only [triN]
    omega

/-! ### The kinds of two sextets -/
/-- In how many of the six rows the number m stands. -/
def hits (M : Nat → Nat → Nat) (m i : Nat) : Nat := sm 6 fun k => if M i k = m then 1 else 0
def rowsWith (M : Nat → Nat → Nat) (m : Nat) : Nat := sm 6 fun i => if 0 < hits M m i then 1 else 0
theorem hits_pos {M : Nat → Nat → Nat} {m i : Nat} : (∃ k, k < 6 ∧ M i k = m) ↔ 0 < hits M m i := by
  unfold hits
  constructor
  · rintro ⟨k, hk, e⟩
    have := sm_one (n := 6) (f := fun k => if M i k = m then 1 else 0) hk
    simp only [e, if_true] at this
    omega
  · intro h
    rcases Classical.em (∃ k, k < 6 ∧ M i k = m) with h' | h'
    · exact h'
    · rw [sm_all0 (fun k hk => by rw [if_neg (fun e => h' ⟨k, hk, e⟩)])] at h; omega
theorem row_bound {M : Nat → Nat → Nat} {m i : Nat} : m * hits M m i ≤ sm 6 (M i) := by
  unfold hits
  rw [← sm_mul]
  refine sm_le fun k _ => ?_
  split
  · omega
  · omega
/-- Where no row and no column has m twice, as many rows as columns have it. -/
theorem rows_eq {M : Nat → Nat → Nat} {m : Nat} (h1 : ∀ i, i < 6 → hits M m i ≤ 1) (h2 : ∀ k, k < 6 → hits (fun a b => M b a) m k ≤ 1) : rowsWith M m = rowsWith (fun a b => M b a) m := by
  have e1 : rowsWith M m = sm 6 (hits M m) := by
    refine sm_congr fun i hi => ?_
    have := h1 i hi
    split <;> omega
  have e2 : rowsWith (fun a b => M b a) m = sm 6 (hits (fun a b => M b a) m) := by
    refine sm_congr fun i hi => ?_
    have := h2 i hi
    split <;> omega
  rw [e1, e2]
  exact sm_swap 6 6 (fun i k => if M i k = m then 1 else 0)
theorem rows_six {M : Nat → Nat → Nat} {m : Nat} (h : ∀ i, i < 6 → ∃ k, k < 6 ∧ M i k = m) : rowsWith M m = 6 := by
  unfold rowsWith
  rw [sm_congr (g := fun _ => 1) (fun i hi => if_pos (hits_pos.1 (h i hi))), sm_const]
/-- The table of two sextets: rows and columns have the sum 4, and of each two rows and two columns the four numbers are even together. -/
structure Tab (M : Nat → Nat → Nat) : Prop where
  row : ∀ i, i < 6 → sm 6 (M i) = 4
  col : ∀ k, k < 6 → sm 6 (fun i => M i k) = 4
  even : ∀ i j k l, i < 6 → j < 6 → k < 6 → l < 6 → i ≠ j → k ≠ l → (M i k + M i l + M j k + M j l) % 2 = 0
theorem Tab.flip {M : Nat → Nat → Nat} (h : Tab M) : Tab (fun a b => M b a) :=
  ⟨h.col, h.row, fun i j k l hi hj hk hl h1 h2 => by have := h.even k l i j hk hl hi hj h2 h1; omega⟩
/-- A row of even numbers makes all rows even. -/
theorem Tab.all_even {M : Nat → Nat → Nat} (h : Tab M) {i : Nat} (hi : i < 6) (he : ∀ k, k < 6 → M i k % 2 = 0) : ∀ j, j < 6 → ∀ k, k < 6 → M j k % 2 = 0 := by
  intro j hj
  by_cases hij : i = j
  · subst hij; exact he
  · have hp : ∀ k l, k < 6 → l < 6 → k ≠ l → M j k % 2 = M j l % 2 := fun k l hk hl hkl => by
      have := h.even i j k l hi hj hk hl hij hkl
      have := he k hk; have := he l hl; omega
    have hr := h.row j hj
    simp only [sm] at hr
    have a := hp 0 1 (by decide) (by decide) (by decide)
    have b := hp 0 2 (by decide) (by decide) (by decide)
    have c := hp 0 3 (by decide) (by decide) (by decide)
    have d := hp 0 4 (by decide) (by decide) (by decide)
    have e := hp 0 5 (by decide) (by decide) (by decide)
    intro k hk
    match k, hk with
    | 0, _ => omega
    | 1, _ => omega
    | 2, _ => omega
    | 3, _ => omega
    | 4, _ => omega
    | 5, _ => omega
theorem Tab.rows {M : Nat → Nat → Nat} (h : Tab M) {m : Nat} (hm : ∀ i k, i < 6 → k < 6 → M i k ≤ m) : rowsWith M m = rowsWith (fun a b => M b a) m := by
  have hf := h.flip
  have hb : ∀ i, i < 6 → m * hits M m i ≤ 4 := fun i hi => by have := @row_bound M m i; have := h.row i hi; omega
  have hb' : ∀ k, k < 6 → m * hits (fun a b => M b a) m k ≤ 4 := fun k hk => by have := @row_bound (fun a b => M b a) m k; have := hf.row k hk; omega
  by_cases h3 : 3 ≤ m
  · refine rows_eq (fun i hi => ?_) (fun k hk => ?_)
    · have := hb i hi
      rcases Nat.lt_or_ge (hits M m i) 2 with h' | h'
      · omega
      · have := Nat.mul_le_mul h3 h'; omega
    · have := hb' k hk
      rcases Nat.lt_or_ge (hits (fun a b => M b a) m k) 2 with h' | h'
      · omega
      · have := Nat.mul_le_mul h3 h'; omega
  · -- a table of even numbers with none greater than 2 has a 2 in each row
    have evs : ∀ {N : Nat → Nat → Nat}, Tab N → (∀ i k, i < 6 → k < 6 → N i k ≤ 2) → (∀ j, j < 6 → ∀ k, k < 6 → N j k % 2 = 0) → rowsWith N 2 = 6 := by
      intro N hN hle hev
      refine rows_six fun i hi => ?_
      have hr := hN.row i hi
      simp only [sm] at hr
      rcases Classical.em (∃ k, k < 6 ∧ N i k = 2) with h' | h'
      · exact h'
      · have z : ∀ k, k < 6 → N i k = 0 := fun k hk => by
          have := hle i k hi hk; have := hev i hi k hk
          have : N i k ≠ 2 := fun e => h' ⟨k, hk, e⟩
          omega
        have := z 0 (by decide); have := z 1 (by decide); have := z 2 (by decide); have := z 3 (by decide); have := z 4 (by decide); have := z 5 (by decide)
        omega
    have two : ∀ {N : Nat → Nat → Nat}, Tab N → ∀ i, i < 6 → 2 ≤ hits N 2 i → ∀ k, k < 6 → N i k % 2 = 0 := by
      intro N hN i hi hh k hk
      have hr := hN.row i hi
      unfold hits at hh
      simp only [sm] at hr hh
      have key : ∀ x : Nat, 2 * (if x = 2 then 1 else 0) ≤ x := fun x => by split <;> omega
      have k0 := key (N i 0); have k1 := key (N i 1); have k2 := key (N i 2); have k3 := key (N i 3); have k4 := key (N i 4); have k5 := key (N i 5)
      have ev : ∀ x : Nat, x = 2 * (if x = 2 then 1 else 0) → x % 2 = 0 := fun x hx => by omega
      apply ev
      match k, hk with
      | 0, _ => omega
      | 1, _ => omega
      | 2, _ => omega
      | 3, _ => omega
      | 4, _ => omega
      | 5, _ => omega
    have hm2 : m = 0 ∨ m = 1 ∨ m = 2 := by omega
    rcases hm2 with rfl | rfl | rfl
    · have hr := h.row 0 (by decide)
      simp only [sm] at hr
      have := hm 0 0 (by decide) (by decide); have := hm 0 1 (by decide) (by decide); have := hm 0 2 (by decide) (by decide)
      have := hm 0 3 (by decide) (by decide); have := hm 0 4 (by decide) (by decide); have := hm 0 5 (by decide) (by decide)
      omega
    · have one : ∀ {N : Nat → Nat → Nat}, Tab N → (∀ i k, i < 6 → k < 6 → N i k ≤ 1) → rowsWith N 1 = 6 := by
        intro N hN hle
        refine rows_six fun i hi => ?_
        have hr := hN.row i hi
        simp only [sm] at hr
        rcases Classical.em (∃ k, k < 6 ∧ N i k = 1) with h' | h'
        · exact h'
        · have z : ∀ k, k < 6 → N i k = 0 := fun k hk => by
            have := hle i k hi hk
            have : N i k ≠ 1 := fun e => h' ⟨k, hk, e⟩
            omega
          have := z 0 (by decide); have := z 1 (by decide); have := z 2 (by decide); have := z 3 (by decide); have := z 4 (by decide); have := z 5 (by decide)
          omega
      rw [one h hm, one hf (fun i k hi hk => hm k i hk hi)]
    · by_cases hr2 : ∃ i, i < 6 ∧ 2 ≤ hits M 2 i
      · obtain ⟨i, hi, hh⟩ := hr2
        have hev := h.all_even hi (two h i hi hh)
        rw [evs h hm hev, evs hf (fun i k hi hk => hm k i hk hi) (fun j hj k hk => hev k hk j hj)]
      · by_cases hc2 : ∃ k, k < 6 ∧ 2 ≤ hits (fun a b => M b a) 2 k
        · obtain ⟨k, hk, hh⟩ := hc2
          have hev := hf.all_even hk (two hf k hk hh)
          rw [evs h hm (fun j hj k hk => hev k hk j hj), evs hf (fun i k hi hk => hm k i hk hi) hev]
        · refine rows_eq (fun i hi => ?_) (fun k hk => ?_)
          · rcases Nat.lt_or_ge (hits M 2 i) 2 with h' | h'
            · omega
            · exact absurd ⟨i, hi, h'⟩ hr2
          · rcases Nat.lt_or_ge (hits (fun a b => M b a) 2 k) 2 with h' | h'
            · omega
            · exact absurd ⟨k, hk, h'⟩ hc2
/-- The table of two sextets, as a function. -/
def tabF (a b : List Nat) (i k : Nat) : Nat := wt (a.getD i 0 &&& b.getD k 0)
theorem ls_sm6 {l : List Nat} (h : l.length = 6) (g : Nat → Nat) : ls l g = sm 6 (fun k => g (l.getD k 0)) := by
  match l, h with
  | [a, b, c, d, e, f], _ => simp [ls, sm]; omega
theorem getD_mem {l : List Nat} {i : Nat} (h : i < l.length) : l.getD i 0 ∈ l := by
  rw [List.getD_eq_getElem?_getD, List.getElem?_eq_getElem h]; exact List.getElem_mem _
theorem getD_ne {l : List Nat} (hl : Asc l) {i j : Nat} (hi : i < l.length) (hj : j < l.length) (h : i ≠ j) : l.getD i 0 ≠ l.getD j 0 := by
  rw [List.getD_eq_getElem?_getD, List.getElem?_eq_getElem hi, List.getD_eq_getElem?_getD, List.getElem?_eq_getElem hj]
  exact fun e => h ((List.getElem_inj (asc_nodup hl)).1 e)
theorem tab_tab {t u : Nat} (ht : t < 16777216) (h4 : wt t = 4) (hu : u < 16777216) (hu4 : wt u = 4) : Tab (tabF (sext t) (sext u)) := by
  have l1 := sext_len ht h4
  have l2 := sext_len hu hu4
  refine ⟨fun i hi => ?_, fun k hk => ?_, fun i j k l hi hj hk hl hij hkl => ?_⟩
  · have h := sext_share hu hu4 ((sext t).getD i 0)
    rw [ls_sm6 l2, sext_wt ht h4 (getD_mem (by omega))] at h
    exact h
  · have h := sext_share ht h4 ((sext u).getD k 0)
    rw [ls_sm6 l1, sext_wt hu hu4 (getD_mem (by omega))] at h
    rw [← h]
    exact sm_congr fun i _ => by unfold tabF; rw [Nat.and_comm]
  · have o1 := (sext_two ht h4 (getD_mem (by omega)) (getD_mem (by omega)) (getD_ne (sext_asc t) (by omega : i < _) (by omega : j < _) hij))
    have o2 := (sext_two hu hu4 (getD_mem (by omega)) (getD_mem (by omega)) (getD_ne (sext_asc u) (by omega : k < _) (by omega : l < _) hkl))
    have hm := cod_meet o1.2.1 o2.2.1
    unfold tabF
    have e : wt (((sext t).getD i 0 ^^^ (sext t).getD j 0) &&& ((sext u).getD k 0 ^^^ (sext u).getD l 0)) =
        wt ((sext t).getD i 0 &&& (sext u).getD k 0) + wt ((sext t).getD i 0 &&& (sext u).getD l 0) + wt ((sext t).getD j 0 &&& (sext u).getD k 0) + wt ((sext t).getD j 0 &&& (sext u).getD l 0) := by
      unfold wt
      rw [← sm_add, ← sm_add, ← sm_add]
      refine sm_congr fun p _ => ?_
      have d1 := and0_bits.1 o1.1 p
      have d2 := and0_bits.1 o2.1 p
      unfold bt
      simp only [Nat.testBit_and, Nat.testBit_xor]
      revert d1 d2
      cases ((sext t).getD i 0).testBit p <;> cases ((sext t).getD j 0).testBit p <;> cases ((sext u).getD k 0).testBit p <;> cases ((sext u).getD l 0).testBit p <;> simp
    omega
end Go.Proofs.Ytmboaaopmjmdnaa
