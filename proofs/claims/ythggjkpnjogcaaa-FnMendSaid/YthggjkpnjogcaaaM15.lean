/- Plain laws of sextets: their octads, what holds them, their cover, their kinds. No program here. -/
import Derived.Test.YthggjkpnjogcaaaM14
import Derived.Test.YthggjkpnjogcaaaM7
namespace Go.Proofs.Ythggjkpnjogcaaa

theorem asc_at {l : List Nat} (h : Asc l) {i k x y : Nat} (hik : i < k) (hx : l[i]? = some x) (hy : l[k]? = some y) : x < y := by
  obtain ⟨h1, rfl⟩ := List.getElem?_eq_some_iff.1 hx
  obtain ⟨h2, rfl⟩ := List.getElem?_eq_some_iff.1 hy
  exact List.pairwise_iff_getElem.1 h i k h1 h2 hik
theorem ls_take {l : List Nat} {k x : Nat} (h : l[k]? = some x) (g : Nat → Nat) : ls (l.take (k + 1)) g = ls (l.take k) g + g x := by
  unfold ls; rw [List.take_add_one, h]; simp
theorem mem_take {l : List Nat} {n y : Nat} (h : y ∈ l.take n) : ∃ k, k < n ∧ k < l.length ∧ y = l.getD k 0 := by
  obtain ⟨k, hk, e⟩ := List.getElem_of_mem h
  rw [List.length_take] at hk
  rw [List.getElem_take] at e
  refine ⟨k, by omega, by omega, ?_⟩
  rw [List.getD_eq_getElem?_getD, List.getElem?_eq_getElem (by omega), ← e]; rfl
theorem prS_mem {l : List Nat} {n x : Nat} (h : x ∈ prS l n) : ∃ i k, k < i ∧ i < n ∧ x = l.getD i 0 ^^^ l.getD k 0 := by
  induction n with
  | zero => cases h
  | succ n ih =>
    have h' : x ∈ prS l n ++ (l.take n).map fun y => l.getD n 0 ^^^ y := h
    rw [List.mem_append, List.mem_map] at h'
    rcases h' with h' | ⟨y, hy, rfl⟩
    · obtain ⟨i, k, h1, h2, h3⟩ := ih h'
      exact ⟨i, k, h1, by omega, h3⟩
    · obtain ⟨k, hk, _, rfl⟩ := mem_take hy
      exact ⟨n, k, hk, by omega, rfl⟩
theorem prS_nodup {l : List Nat} (ha : Asc l) (hd : ∀ y ∈ l, ∀ z ∈ l, y ≠ z → y &&& z = 0) (h0 : ∀ y ∈ l, 0 < wt y) : ∀ n, n ≤ l.length → (prS l n).Nodup := by
  intro n
  induction n with
  | zero => intro _; exact List.nodup_nil
  | succ n ih =>
    intro hn
    show (prS l n ++ (l.take n).map fun y => l.getD n 0 ^^^ y).Nodup
    unfold List.Nodup
    rw [List.pairwise_append]
    refine ⟨ih (by omega), ?_, ?_⟩
    · rw [List.pairwise_map]
      refine ((asc_nodup ha).sublist (List.take_sublist n l)).imp fun {a b} hab e => hab ?_
      have := congrArg (l.getD n 0 ^^^ ·) e
      simpa only [xor_self_l] using this
    · intro a hA b hB e
      obtain ⟨i, k, h1, h2, rfl⟩ := prS_mem hA
      obtain ⟨y, hy, rfl⟩ := List.mem_map.1 hB
      obtain ⟨j, hj, _, rfl⟩ := mem_take hy
      have m : ∀ i, i < l.length → l.getD i 0 ∈ l := fun i hi => getD_mem hi
      obtain ⟨p, _, hp⟩ := wt_pos (h0 _ (m n (by omega)))
      have z : ∀ i, i < n → (l.getD i 0).testBit p = false := fun i hi =>
        and0_bits.1 (hd _ (m n (by omega)) _ (m i (by omega)) (getD_ne ha (by omega) (by omega) (by omega))) p hp
      have := congrArg (Nat.testBit · p) e
      simp only [Nat.testBit_xor, z i h2, z k (by omega), z j hj, hp] at this
      cases this

/-- The octads of a sextet, in ascending order. -/
def sos (t : Nat) : List Nat := (List.range 16777216).filter fun y => (prS (sext t) 6).contains y
theorem sos_asc (t : Nat) : Asc (sos t) := (List.pairwise_lt_range).filter _
section
variable {t : Nat} (ht : t < 16777216) (h4 : wt t = 4)
include ht h4
theorem pr_two {x : Nat} (h : x ∈ prS (sext t) 6) : ∃ y z, y ∈ sext t ∧ z ∈ sext t ∧ y ≠ z ∧ x = y ^^^ z := by
  obtain ⟨i, k, h1, h2, rfl⟩ := prS_mem h
  have hl := sext_len ht h4
  exact ⟨_, _, getD_mem (by omega), getD_mem (by omega), getD_ne (sext_asc t) (by omega) (by omega) (by omega), rfl⟩
theorem pr_oct {x : Nat} (h : x ∈ prS (sext t) 6) : Oct x := by
  obtain ⟨y, z, hy, hz, hne, rfl⟩ := pr_two ht h4 h
  exact (sext_two ht h4 hy hz hne).2
theorem mem_sos {x : Nat} : x ∈ sos t ↔ x ∈ prS (sext t) 6 := by
  unfold sos
  rw [List.mem_filter, List.mem_range, List.contains_iff_mem]
  exact ⟨fun h => h.2, fun h => ⟨oct_lt (pr_oct ht h4 h), h⟩⟩
theorem sos_srt : srt (nl (prS (sext t) 6)) = nl (sos t) := by
  refine srt_eq (prS_nodup (sext_asc t) (fun y hy z hz hne => (sext_two ht h4 hy hz hne).1) (fun y hy => by rw [sext_wt ht h4 hy]; omega) 6 (by rw [sext_len ht h4]; exact Nat.le_refl _)) (sos_asc t) fun x => (mem_sos ht h4).symm
theorem sos_oct {x : Nat} (h : x ∈ sos t) : Oct x := pr_oct ht h4 ((mem_sos ht h4).1 h)
/-- A tetrad lies in an octad of the sextet or outside of it. -/
theorem sos_hold {x z : Nat} (h : x ∈ sos t) (hz : z ∈ sext t) : z &&& x = 0 ∨ z &&& x = z := by
  obtain ⟨a, b, ha, hb, hne, rfl⟩ := pr_two ht h4 ((mem_sos ht h4).1 h)
  have key : ∀ {u v : Nat}, u ∈ sext t → v ∈ sext t → u ≠ v → u &&& (u ^^^ v) = u := fun hu hv hne => by
    have := (sext_two ht h4 hu hv hne).1
    apply Nat.eq_of_testBit_eq
    intro i
    have := and0_bits.1 this i
    rw [Nat.testBit_and, Nat.testBit_xor]
    cases h1 : Nat.testBit _ i
    · rfl
    · rw [this h1]; rfl
  by_cases e1 : z = a
  · subst e1; exact .inr (key ha hb hne)
  · by_cases e2 : z = b
    · subst e2; rw [Nat.xor_comm]; exact .inr (key hb ha (fun e => hne e.symm))
    · left
      have d1 := (sext_two ht h4 hz ha e1).1
      have d2 := (sext_two ht h4 hz hb e2).1
      rw [and0_bits]
      intro i hi
      rw [Nat.testBit_xor, and0_bits.1 d1 i hi, and0_bits.1 d2 i hi]; rfl
/-- Just two tetrads lie in it. -/
theorem sos_count {x : Nat} (h : x ∈ sos t) : ls (sext t) (fun z => if z &&& x = 0 then 0 else 1) = 2 := by
  have h1 := sext_share ht h4 x
  rw [(sos_oct ht h4 h).2, ls_congr (g := fun z => 4 * (if z &&& x = 0 then 0 else 1)) (fun z hz => by
    rcases sos_hold ht h4 h hz with e | e
    · rw [Nat.and_comm, e]; rfl
    · rw [Nat.and_comm, e, sext_wt ht h4 hz, if_neg (fun e => by have := sext_wt ht h4 hz; rw [e, wt_0] at this; omega)]), ls_mul] at h1
  omega
end
/-- All places of the first k numbers. -/
def orL (l : List Nat) (k : Nat) : Nat := (l.take k).foldl (· ||| ·) 0
theorem orL_succ {l : List Nat} {k x : Nat} (h : l[k]? = some x) : orL l (k + 1) = orL l k ||| x := by
  unfold orL; rw [List.take_add_one, h]; simp
theorem orL_zero (l : List Nat) : orL l 0 = 0 := by unfold orL; simp
theorem orL_bit (l : List Nat) (p : Nat) : ∀ k, (orL l k).testBit p = true ↔ ∃ y ∈ l.take k, y.testBit p = true := by
  have : ∀ (m : List Nat) (a : Nat), (m.foldl (· ||| ·) a).testBit p = true ↔ a.testBit p = true ∨ ∃ y ∈ m, y.testBit p = true := by
    intro m
    induction m with
    | nil => intro a; simp
    | cons x m ih => intro a; rw [List.foldl_cons, ih, Nat.testBit_or, Bool.or_eq_true]; simp [or_assoc]
  intro k
  rw [orL, this]
  simp
theorem orL_lt {l : List Nat} (h : ∀ y ∈ l, y < 16777216) (k : Nat) : orL l k < 16777216 := by
  refine lt_of_bits fun i hi => ?_
  cases hb : (orL l k).testBit i with
  | false => rfl
  | true =>
    obtain ⟨y, hy, h1⟩ := (orL_bit l i k).1 hb
    have := bit_lt (h y (List.mem_of_mem_take hy)) h1
    omega
def hasT (l : List Nat) (t k : Nat) : Bool := (l.take k).any (· == t)
theorem hasT_succ {l : List Nat} {t k x : Nat} (h : l[k]? = some x) : hasT l t (k + 1) = (hasT l t k || x == t) := by
  unfold hasT; rw [List.take_add_one, h]; simp
section
variable {t : Nat} (ht : t < 16777216) (h4 : wt t = 4)
include ht h4
theorem sext_new {k x : Nat} (h : (sext t)[k]? = some x) : orL (sext t) k &&& x = 0 := by
  rw [Nat.and_comm, and0_bits]
  intro p hp
  cases hb : (orL (sext t) k).testBit p with
  | false => rfl
  | true =>
    obtain ⟨y, hy, h1⟩ := (orL_bit _ p k).1 hb
    obtain ⟨i, hi, hil, rfl⟩ := mem_take hy
    have hx := List.mem_of_getElem? h
    have hlt := (List.getElem?_eq_some_iff.1 h).1
    have e : x = (sext t).getD k 0 := by rw [List.getD_eq_getElem?_getD, h]; rfl
    have hne : x ≠ (sext t).getD i 0 := by rw [e]; exact getD_ne (sext_asc t) hlt hil (by omega)
    have := and0_bits.1 (sext_two ht h4 hx (getD_mem hil) hne).1 p hp
    rw [this] at h1; cases h1
theorem sext_full : orL (sext t) 6 = 16777215 := by
  have hl := sext_len ht h4
  refine wt_all (orL_lt (fun y hy => sext_lt ht hy) 6) ?_
  have : wt (orL (sext t) 6) = sm 24 fun _ => 1 := by
    refine sm_congr fun p hp => bt_one.2 ((orL_bit _ p 6).2 ?_)
    have h := sext_cover ht h4 hp
    rw [List.take_of_length_le (by omega)]
    rcases Classical.em (∃ y ∈ sext t, y.testBit p = true) with h' | h'
    · exact h'
    · rw [ls_congr (g := fun _ => 0) (fun y hy => bt_zero.2 (by
        cases hb : y.testBit p with
        | false => rfl
        | true => exact absurd ⟨y, hy, hb⟩ h')), ls_const] at h
      omega
  rw [this, sm_const]
  exact Nat.le_refl _
theorem sext_found : hasT (sext t) t 6 = true := by
  unfold hasT
  rw [List.take_of_length_le (by rw [sext_len ht h4]; exact Nat.le_refl _), List.any_eq_true]
  exact ⟨t, sext_self ht, by simp⟩
theorem sext_at {k x : Nat} (h : (sext t)[k]? = some x) : x < 16777216 ∧ wt x = 4 ∧ sext x = sext t :=
  ⟨sext_lt ht (List.mem_of_getElem? h), sext_wt ht h4 (List.mem_of_getElem? h), sext_same ht h4 (List.mem_of_getElem? h)⟩
theorem sext_oct0 {k x y : Nat} (h : (sext t)[k]? = some x) (h0 : (sext t)[0]? = some y) (hk : 0 < k) : Oct (x ^^^ y) := by
  have hlt := (List.getElem?_eq_some_iff.1 h).1
  have := asc_at (sext_asc t) hk h0 h
  exact (sext_two ht h4 (List.mem_of_getElem? h) (List.mem_of_getElem? h0) (by omega)).2
end
/-! ### Tables -/
def tabTo (a b : List Nat) (n : Nat) : List Nat := (List.range n).map fun j => tabF a b (j / 6) (j % 6)
theorem tabTo_succ (a b : List Nat) (i k : Nat) (hk : k < 6) : tabTo a b (6 * i + k + 1) = tabTo a b (6 * i + k) ++ [tabF a b i k] := by
  unfold tabTo
  rw [List.range_succ, List.map_append, List.map_singleton, show (6 * i + k) / 6 = i from by omega, show (6 * i + k) % 6 = k from by omega]
theorem tabTo_len (a b : List Nat) (n : Nat) : (tabTo a b n).length = n := by simp [tabTo]
theorem tabTo_get (a b : List Nat) {n i k : Nat} (hk : k < 6) (h : 6 * i + k < n) : (tabTo a b n)[6 * i + k]? = some (tabF a b i k) := by
  unfold tabTo
  rw [List.getElem?_map, List.getElem?_range h, Option.map_some, show (6 * i + k) / 6 = i from by omega, show (6 * i + k) % 6 = k from by omega]
theorem tabF_flip (a b : List Nat) (i k : Nat) : tabF b a k i = tabF a b i k := by unfold tabF; rw [Nat.and_comm]
theorem tabF_at {a b : List Nat} {i k x y : Nat} (hx : a[i]? = some x) (hy : b[k]? = some y) : tabF a b i k = wt (x &&& y) := by
  unfold tabF; rw [List.getD_eq_getElem?_getD, List.getD_eq_getElem?_getD, hx, hy]; rfl
/-- The greatest of the first n numbers of the table. -/
def mostTo (F : Nat → Nat) : Nat → Nat
  | 0 => 0
  | n + 1 => max (mostTo F n) (F n)
theorem mostTo_le (F : Nat → Nat) {n j : Nat} (h : j < n) : F j ≤ mostTo F n := by
  induction n with
  | zero => omega
  | succ n ih =>
    rw [mostTo]
    by_cases e : j = n
    · subst e; omega
    · have := ih (by omega); omega
theorem mostTo_of {F : Nat → Nat} {n m : Nat} (h : ∀ j, j < n → F j ≤ m) : mostTo F n ≤ m := by
  induction n with
  | zero => exact Nat.zero_le _
  | succ n ih => rw [mostTo]; have := ih (fun j hj => h j (by omega)); have := h n (by omega); omega
def tabJ (M : Nat → Nat → Nat) (j : Nat) : Nat := M (j / 6) (j % 6)
def most (M : Nat → Nat → Nat) : Nat := mostTo (tabJ M) 36
theorem most_le (M : Nat → Nat → Nat) {i k : Nat} (hi : i < 6) (hk : k < 6) : M i k ≤ most M := by
  have := mostTo_le (tabJ M) (show 6 * i + k < 36 from by omega)
  unfold tabJ at this
  rwa [show (6 * i + k) / 6 = i from by omega, show (6 * i + k) % 6 = k from by omega] at this
theorem most_of {M : Nat → Nat → Nat} {m : Nat} (h : ∀ i k, i < 6 → k < 6 → M i k ≤ m) : most M ≤ m :=
  mostTo_of fun j hj => h _ _ (by omega) (by omega)
theorem most_flip (M : Nat → Nat → Nat) : most (fun a b => M b a) = most M :=
  Nat.le_antisymm (most_of fun _ _ hi hk => most_le M hk hi) (most_of fun _ _ hi hk => most_le (fun a b => M b a) hk hi)
def kind (M : Nat → Nat → Nat) : Nat := 10 * most M + rowsWith M (most M)
theorem kind_flip {M : Nat → Nat → Nat} (h : Tab M) : kind (fun a b => M b a) = kind M := by
  unfold kind
  rw [most_flip, h.rows (fun i k hi hk => most_le M hi hk)]
theorem rowsWith_le (M : Nat → Nat → Nat) (m : Nat) : rowsWith M m ≤ 6 := by
  have := sm_le (n := 6) (f := fun i => if 0 < hits M m i then 1 else 0) (g := fun _ => 1) (fun i _ => by split <;> omega)
  rw [sm_const] at this
  exact this
theorem Tab.most_four {M : Nat → Nat → Nat} (h : Tab M) : most M ≤ 4 := most_of fun i k hi hk => by
  have := sm_one (f := M i) hk; have := h.row i hi; omega
section
variable {t u : Nat} (ht : t < 16777216) (h4 : wt t = 4) (hu : u < 16777216) (hu4 : wt u = 4)
include ht h4 hu hu4
theorem kind_46 : kind (tabF (sext t) (sext u)) = 46 ↔ sext t = sext u := by
  have hT := tab_tab ht h4 hu hu4
  have lt6 := sext_len ht h4
  have lu6 := sext_len hu hu4
  constructor
  · intro h
    have h1 := hT.most_four
    have h2 := rowsWith_le (tabF (sext t) (sext u)) (most (tabF (sext t) (sext u)))
    unfold kind at h
    have h3 : most (tabF (sext t) (sext u)) = 4 := by omega
    rw [h3] at h h2
    have h5 : 0 < rowsWith (tabF (sext t) (sext u)) 4 := by omega
    have : ∃ i, i < 6 ∧ 0 < hits (tabF (sext t) (sext u)) 4 i := by
      rcases Classical.em (∃ i, i < 6 ∧ 0 < hits (tabF (sext t) (sext u)) 4 i) with h' | h'
      · exact h'
      · unfold rowsWith at h5
        rw [sm_all0 (fun i hi => if_neg (fun e => h' ⟨i, hi, e⟩))] at h5
        omega
    obtain ⟨i, hi, hh⟩ := this
    obtain ⟨k, hk, e⟩ := hits_pos.2 hh
    unfold tabF at e
    have mx := getD_mem (show i < (sext t).length by omega)
    have my := getD_mem (show k < (sext u).length by omega)
    generalize (sext t).getD i 0 = x at *
    generalize (sext u).getD k 0 = y at *
    have wx := sext_wt ht h4 mx
    have wy := sext_wt hu hu4 my
    have lx := sext_lt ht mx
    have ly := sext_lt hu my
    have s1 : Sub y x := sub_of_wt ly (by omega)
    have e1 := sub_eq ly lx s1 (by omega)
    subst e1
    rw [← sext_same ht h4 mx, ← sext_same hu hu4 my]
  · intro h
    rw [← h]
    have hT : Tab (tabF (sext t) (sext t)) := tab_tab ht h4 ht h4
    have hd : ∀ i, i < 6 → tabF (sext t) (sext t) i i = 4 := fun i hi => by
      unfold tabF; rw [Nat.and_self]; exact sext_wt ht h4 (getD_mem (by omega))
    have h1 := hT.most_four
    have h2 := most_le (tabF (sext t) (sext t)) (show 0 < 6 by decide) (show 0 < 6 by decide)
    rw [hd 0 (by decide)] at h2
    have h3 : most (tabF (sext t) (sext t)) = 4 := by omega
    unfold kind
    rw [h3, rows_six fun i hi => ⟨i, hi, hd i hi⟩]
end
attribute [irreducible] sos
end Go.Proofs.Ythggjkpnjogcaaa
