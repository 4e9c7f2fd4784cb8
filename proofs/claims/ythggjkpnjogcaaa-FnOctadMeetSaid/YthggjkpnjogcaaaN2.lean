/- Plain laws of octads: lists of places, dodecads as sums, the counts by common places. No program here. -/
import Derived.Test.YthggjkpnjogcaaaM7
import Derived.Test.YthggjkpnjogcaaaM2
namespace Go.Proofs.Ythggjkpnjogcaaa

theorem fold_nl (m : List Nat) : ∀ acc : Nat, m.Nodup → (∀ i ∈ m, i < 24 ∧ acc.testBit i = false) → ∃ s, (nl m).foldlM step acc = some s := by
  induction m with
  | nil => intro acc _ _; exact ⟨acc, rfl⟩
  | cons a m ih =>
    intro acc hn h
    rw [List.nodup_cons] at hn
    have ha := h a (by simp)
    have hs : step acc ((a : Nat) : Int) = some (acc ||| 1 <<< a) := by
      unfold step
      rw [if_pos ⟨by omega, by omega, by simpa using ha.2⟩]
      simp
    obtain ⟨s, e⟩ := ih (acc ||| 1 <<< a) hn.2 fun i hi => by
      refine ⟨(h i (by simp [hi])).1, ?_⟩
      rw [Nat.testBit_or, (h i (by simp [hi])).2, bit_one, decide_eq_false (by rintro rfl; exact hn.1 hi)]; rfl
    refine ⟨s, ?_⟩
    show (nl (a :: m)).foldlM step acc = some s
    rw [show nl (a :: m) = ((a : Nat) : Int) :: nl m from rfl, List.foldlM_cons, hs]
    exact e
theorem wordOf_nl {m : List Nat} (hn : m.Nodup) (h : ∀ i ∈ m, i < 24) : ∃ s, wordOf (nl m) = some s ∧ s < 16777216 ∧ wt s = m.length ∧ ∀ i, s.testBit i = true ↔ i ∈ m := by
  obtain ⟨s, e⟩ := fold_nl m 0 hn fun i hi => ⟨h i hi, by simp⟩
  obtain ⟨f1, f2, f3, _, _⟩ := wordOf_facts (nl m) s e
  refine ⟨s, e, f1, by rw [f2, nl_length], fun i => ?_⟩
  rw [f3]
  unfold nl
  rw [List.mem_map]
  constructor
  · rintro ⟨a, ha, e⟩
    have : a = i := Int.ofNat.inj e
    rwa [← this]
  · intro hi; exact ⟨i, hi, rfl⟩
/-- Part of the places of a word. -/
theorem wordOf_part {w : Nat} {m : List Nat} (h : m.Sublist (pl w)) : ∃ s, wordOf (nl m) = some s ∧ s < 16777216 ∧ wt s = m.length ∧ Sub s w := by
  have hp := (asc_nodup (pl_sorted w)).sublist h
  obtain ⟨s, h1, h2, h3, h4⟩ := wordOf_nl hp fun i hi => (mem_pl.1 (h.subset hi)).1
  exact ⟨s, h1, h2, h3, sub_bits.2 fun i hi => (mem_pl.1 (h.subset ((h4 i).1 hi))).2⟩
theorem oct_pick {w s : Nat} (ho : Oct w) (h5 : wt s = 5) (hs : s < 16777216) (hsub : Sub s w) : octs (hasf s 0) = [w] := by
  have hl : (octs (hasf s 0)).length = 1 := cnt5 hs h5
  have hm : w ∈ octs (hasf s 0) := mem_octs.2 ⟨ho, hasf_iff.2 ⟨hsub, by simp⟩⟩
  match h : octs (hasf s 0), hl with
  | [a], _ =>
    rw [h, List.mem_singleton] at hm
    rw [hm]
/-! ### Dodecads -/
def dodP (w a : Nat) : Bool := wt (a ^^^ w) == 8
/-- The least octad whose sum with w is one. -/
def dodF (w : Nat) : Option Nat := (octs yes).find? (dodP w)
theorem dod_hit {w k a : Nat} (hk : (octs yes)[k]? = some a) (hp : dodP w a = true) (hno : ∀ (j b : Nat), j < k → (octs yes)[j]? = some b → dodP w b = false) : dodF w = some a := by
  unfold dodF
  rw [List.find?_eq_some_iff_getElem]
  obtain ⟨h1, h2⟩ := List.getElem?_eq_some_iff.1 hk
  refine ⟨hp, k, h1, h2, fun j hj => ?_⟩
  rw [hno j _ hj (List.getElem?_eq_getElem (by omega))]; rfl
theorem dod_none {w : Nat} (hno : ∀ (j b : Nat), (octs yes)[j]? = some b → dodP w b = false) : dodF w = none := by
  unfold dodF
  rw [List.find?_eq_none]
  intro x hx
  obtain ⟨j, hj⟩ := List.mem_iff_getElem?.1 hx
  rw [hno j x hj]; decide
/-- The first one found is less than its partner. -/
theorem dod_less {w k a : Nat} (hw : Cod w) (hd : wt w = 12) (hk : (octs yes)[k]? = some a) (hp : dodP w a = true) (hno : ∀ (j b : Nat), j < k → (octs yes)[j]? = some b → dodP w b = false) :
    a < a ^^^ w ∧ Oct (a ^^^ w) := by
  have ha : Oct a := (mem_octs.1 (List.mem_of_getElem? hk)).1
  have h8 : wt (a ^^^ w) = 8 := by unfold dodP at hp; exact beq_iff_eq.1 hp
  have hb : Oct (a ^^^ w) := ⟨cod_xor ha.1 hw, h8⟩
  refine ⟨?_, hb⟩
  obtain ⟨m, hm⟩ := List.mem_iff_getElem?.1 (mem_octs.2 ⟨hb, rfl⟩ : a ^^^ w ∈ octs yes)
  have hpb : dodP w (a ^^^ w) = true := by unfold dodP; rw [xor_self_r, ha.2]; rfl
  have hge : ¬ m < k := fun h => by rw [hno m _ h hm] at hpb; cases hpb
  have hne : m ≠ k := fun e => by
    subst e
    rw [hk] at hm
    injection hm with hm
    have h0 := congrArg (· ^^^ a) hm
    simp only [Nat.xor_self] at h0
    rw [Nat.xor_comm a w, xor_self_r] at h0
    rw [← h0, wt_0] at hd
    cases hd
  have := List.pairwise_iff_getElem.1 (octs_asc yes) k m (List.getElem?_eq_some_iff.1 hk).1 (List.getElem?_eq_some_iff.1 hm).1 (by omega)
  rwa [(List.getElem?_eq_some_iff.1 hk).2, (List.getElem?_eq_some_iff.1 hm).2] at this
theorem dod_facts {w a : Nat} (hw : Cod w) (hd : wt w = 12) (h : dodF w = some a) : Oct a ∧ Oct (a ^^^ w) ∧ a < a ^^^ w ∧ wt (a &&& (a ^^^ w)) = 2 ∧ a ^^^ (a ^^^ w) = w := by
  have h' := h
  unfold dodF at h'
  rw [List.find?_eq_some_iff_getElem] at h'
  obtain ⟨hp, k, h1, h2, hno⟩ := h'
  have hk : (octs yes)[k]? = some a := by rw [List.getElem?_eq_getElem h1, h2]
  have ho : Oct a := (mem_octs.1 (List.mem_of_getElem? hk)).1
  obtain ⟨hl, hb⟩ := dod_less hw hd hk hp fun j b hj hjb => by
    have := hno j hj
    rw [(List.getElem?_eq_some_iff.1 hjb).2] at this
    simpa using this
  have hx : a ^^^ (a ^^^ w) = w := by rw [← Nat.xor_assoc, Nat.xor_self, Nat.zero_xor]
  have h3 := wt_xor a (a ^^^ w)
  rw [hx, hd, ho.2, hb.2] at h3
  exact ⟨ho, hb, hl, by omega, hx⟩
/-! ### Counting by common places -/
/-- How many of the first k octads have j places in common with w. -/
def meetTo (w k j : Nat) : Nat := (((octs yes).take k).filter fun x => wt (x &&& w) == j).length
theorem meetTo_succ {w k x j : Nat} (h : (octs yes)[k]? = some x) : meetTo w (k + 1) j = meetTo w k j + if wt (x &&& w) = j then 1 else 0 := by
  unfold meetTo
  rw [List.take_add_one, h, List.filter_append, List.length_append]
  by_cases e : wt (x &&& w) = j <;> simp [e]
theorem meetTo_all {w j n : Nat} (hn : (octs yes).length ≤ n) : meetTo w n j = meets w j := by
  unfold meetTo meets
  rw [List.take_of_length_le hn]
theorem meetTo_le (w k j : Nat) : meetTo w k j ≤ k := by
  unfold meetTo
  refine Nat.le_trans (List.length_filter_le _ _) ?_
  rw [List.length_take]; omega
def meetL (w k : Nat) : List Nat := (List.range 9).map (meetTo w k)
theorem meetL_len (w k : Nat) : (meetL w k).length = 9 := by simp [meetL]
theorem meetL_get (w k j : Nat) (hj : j < 9) : (meetL w k)[j]? = some (meetTo w k j) := by
  unfold meetL; rw [List.getElem?_map, List.getElem?_range hj]; rfl
theorem meetL_zero (w : Nat) : meetL w 0 = [0, 0, 0, 0, 0, 0, 0, 0, 0] := by
  unfold meetL meetTo; simp [List.range_succ]
theorem meetL_step {w k x : Nat} (h : (octs yes)[k]? = some x) : (meetL w k).set (wt (x &&& w)) (meetTo w k (wt (x &&& w)) + 1) = meetL w (k + 1) := by
  apply List.ext_getElem?
  intro j
  by_cases hj : j < 9
  · rw [List.getElem?_set, meetL_get w (k + 1) j hj, meetTo_succ h, meetL_len, meetL_get w k j hj]
    by_cases e : wt (x &&& w) = j
    · subst e; rw [if_pos rfl, if_pos hj, if_pos rfl]
    · rw [if_neg e, if_neg e]; rfl
  · rw [List.getElem?_eq_none (by rw [List.length_set, meetL_len]; omega), List.getElem?_eq_none (by rw [meetL_len]; omega)]
theorem meetL_all {w n : Nat} (ho : Oct w) (hn : (octs yes).length ≤ n) : meetL w n = [30, 0, 448, 0, 280, 0, 0, 0, 1] := by
  apply List.ext_getElem?
  intro j
  by_cases hj : j < 9
  · rw [meetL_get w n j hj, meetTo_all hn, meets_all ho j hj, List.getD_eq_getElem?_getD, List.getElem?_eq_getElem (by simpa using hj)]; rfl
  · rw [List.getElem?_eq_none (by rw [meetL_len]; omega), List.getElem?_eq_none (by simp; omega)]
theorem meet_wt {w x : Nat} (ho : Oct w) : wt (x &&& w) < 9 := by
  have := wt_mono (a := x &&& w) (b := w) (fun i _ hi => by rw [Nat.testBit_and, Bool.and_eq_true] at hi; exact hi.2)
  have := ho.2
  omega
attribute [irreducible] dodF meetL
end Go.Proofs.Ythggjkpnjogcaaa
