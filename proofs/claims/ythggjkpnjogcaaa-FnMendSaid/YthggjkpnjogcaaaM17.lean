/- The nearest words of the code, found word by word. No program here. -/
import Derived.Test.YthggjkpnjogcaaaM11
import Derived.Test.YthggjkpnjogcaaaM6
namespace Go.Proofs.Ythggjkpnjogcaaa

/-- How near the nearest of the first k words is. -/
def leastTo (w : Nat) : Nat → Nat
  | 0 => 25
  | k + 1 => min (leastTo w k) (wt (w ^^^ cw k))
def nrTo (w k : Nat) : List Nat := (wdTo k).filter fun x => wt (w ^^^ x) == leastTo w k
theorem leastTo_le (w : Nat) {j k : Nat} (h : j < k) : leastTo w k ≤ wt (w ^^^ cw j) := by
  induction k with
  | zero => omega
  | succ k ih =>
    rw [leastTo]
    by_cases e : j = k
    · subst e; omega
    · have := ih (by omega); omega
theorem leastTo_25 (w k : Nat) : leastTo w k ≤ 25 := by
  induction k with
  | zero => exact Nat.le_refl _
  | succ k ih => rw [leastTo]; omega
theorem leastTo_at (w k : Nat) : ∃ j, j < k + 1 ∧ leastTo w (k + 1) = wt (w ^^^ cw j) := by
  induction k with
  | zero => refine ⟨0, by omega, ?_⟩; rw [leastTo, leastTo]; have := wt_le (w ^^^ cw 0); omega
  | succ k ih =>
    obtain ⟨j, hj, e⟩ := ih
    by_cases h : leastTo w (k + 1) ≤ wt (w ^^^ cw (k + 1))
    · exact ⟨j, by omega, by rw [leastTo]; omega⟩
    · exact ⟨k + 1, by omega, by rw [leastTo]; omega⟩
theorem nrTo_len (w k : Nat) : (nrTo w k).length ≤ k := by
  unfold nrTo; exact Nat.le_trans (List.length_filter_le _ _) (by rw [wdTo_len]; exact Nat.le_refl _)
theorem nr_new {w k : Nat} (h : wt (w ^^^ cw k) < leastTo w k) : leastTo w (k + 1) = wt (w ^^^ cw k) ∧ nrTo w (k + 1) = [cw k] := by
  have h1 : leastTo w (k + 1) = wt (w ^^^ cw k) := by rw [leastTo]; omega
  refine ⟨h1, ?_⟩
  unfold nrTo
  rw [wdTo_succ, List.filter_append, h1]
  have e : (wdTo k).filter (fun x => wt (w ^^^ x) == wt (w ^^^ cw k)) = [] := by
    rw [List.filter_eq_nil_iff]
    intro x hx
    obtain ⟨j, hj, rfl⟩ := List.mem_map.1 hx
    have := leastTo_le w (List.mem_range.1 hj)
    rw [beq_iff_eq]; omega
  rw [e]
  simp
theorem nr_same {w k : Nat} (h : wt (w ^^^ cw k) = leastTo w k) : leastTo w (k + 1) = leastTo w k ∧ nrTo w (k + 1) = nrTo w k ++ [cw k] := by
  have h1 : leastTo w (k + 1) = leastTo w k := by rw [leastTo]; omega
  refine ⟨h1, ?_⟩
  unfold nrTo
  rw [wdTo_succ, List.filter_append, h1]
  simp [h]
theorem nr_more {w k : Nat} (h : leastTo w k < wt (w ^^^ cw k)) : leastTo w (k + 1) = leastTo w k ∧ nrTo w (k + 1) = nrTo w k := by
  have h1 : leastTo w (k + 1) = leastTo w k := by rw [leastTo]; omega
  refine ⟨h1, ?_⟩
  unfold nrTo
  rw [wdTo_succ, List.filter_append, h1]
  have : (wt (w ^^^ cw k) == leastTo w k) = false := by rw [beq_eq_false_iff_ne]; omega
  simp [this]
theorem nr_some {w k : Nat} (h : leastTo w k < 25) : 0 < (nrTo w k).length := by
  match k, h with
  | 0, h => rw [leastTo] at h; omega
  | k + 1, h =>
    obtain ⟨j, hj, e⟩ := leastTo_at w k
    refine List.length_pos_of_mem (a := cw j) ?_
    unfold nrTo
    rw [List.mem_filter, beq_iff_eq]
    exact ⟨List.mem_map.2 ⟨j, List.mem_range.2 hj, rfl⟩, e.symm⟩
/-- How far a word is from the code, and the words that are so near. -/
def farN (w : Nat) : Nat := leastTo w 4096
def nearN (w : Nat) : List Nat := nearL w (farN w)
theorem farN_eq (w : Nat) : leastTo w 4096 = farN w := rfl
theorem farN_is (w : Nat) : isFar w (farN w) := by
  obtain ⟨j, hj, e⟩ := leastTo_at w 4095
  refine ⟨⟨cw j, cod_cw j, e.symm⟩, fun c hc => ?_⟩
  obtain ⟨m, hm, rfl⟩ := cod_ex hc
  exact leastTo_le w hm
theorem near_srt (w : Nat) : srt (nl (nrTo w 4096)) = nl (nearN w) := by
  refine srt_eq (wd_nodup.filter _) (nearL_asc _ _) fun x => ?_
  unfold nrTo nearN
  rw [List.mem_filter, mem_wd, mem_nearL, beq_iff_eq]
  rfl
theorem nearN_len {w : Nat} (hw : w < 16777216) : farN w = 4 ∧ (nearN w).length = 6 ∨ farN w < 4 ∧ (nearN w).length = 1 := near_len hw (farN_is w)
theorem nearN_mem {w x : Nat} (h : x ∈ nearN w) : Cod x ∧ wt (w ^^^ x) = farN w := mem_nearL.1 h
theorem mend_of {w c : Nat} (hc : Cod c) (h : wt (w ^^^ c) ≤ 3) : farN w = wt (w ^^^ c) ∧ nearN w = [c] := by
  obtain ⟨h1, h2⟩ := near_one hc h
  have e := isFar_unique (farN_is w) h1
  exact ⟨e, by unfold nearN; rw [e]; exact h2⟩
theorem mend_turn {c e : Nat} (hc : Cod c) (he : wt e ≤ 3) : farN (c ^^^ e) = wt e ∧ nearN (c ^^^ e) = [c] := by
  have h : c ^^^ e ^^^ c = e := by rw [Nat.xor_comm c e]; exact xor_self_r e c
  have := mend_of (w := c ^^^ e) hc (by rw [h]; exact he)
  rwa [h] at this
theorem nearN_short {w : Nat} (hw : w < 16777216) (h : farN w ≤ 3) : ∃ c, nearN w = [c] ∧ Cod c ∧ wt (w ^^^ c) = farN w := by
  rcases nearN_len hw with ⟨h1, _⟩ | ⟨_, h2⟩
  · omega
  · match hm : nearN w, h2 with
    | [c], _ => exact ⟨c, rfl, nearN_mem (by rw [hm]; simp)⟩
theorem leastTo_zero (w : Nat) : leastTo w 0 = 25 := rfl
theorem nrTo_zero (w : Nat) : nrTo w 0 = [] := rfl
attribute [irreducible] farN nearN leastTo nrTo
end Go.Proofs.Ythggjkpnjogcaaa
