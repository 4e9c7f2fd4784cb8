/- The first places of an octad, word by word, and the rows of the triangle. No program here. -/
import Derived.Test.YtmboaaopmjmdnaaM7
import Derived.Test.YtmboaaopmjmdnaaM2
namespace Go.Proofs.Ytmboaaopmjmdnaa

/-- The word of a list of places. -/
def wd (Q : List Nat) : Nat := Q.foldl (fun a p => a ||| 1 <<< p) 0
theorem wd_from (Q : List Nat) : ∀ acc, acc < 16777216 → (∀ p ∈ Q, p < 24 ∧ acc.testBit p = false) → Q.Nodup → (nl Q).foldlM step acc = some (Q.foldl (fun a p => a ||| 1 <<< p) acc) := by
  induction Q with
  | nil => intro acc _ _ _; rfl
  | cons p Q ih =>
    intro acc ha hp hn
    obtain ⟨h1, h2⟩ := hp p (by simp)
    obtain ⟨hn1, hn2⟩ := List.nodup_cons.1 hn
    have hs : step acc (Int.ofNat p) = some (acc ||| 1 <<< p) := by
      unfold step
      rw [if_pos ⟨by simp, by simp; omega, by simpa using h2⟩]
      rfl
    show ((step acc (Int.ofNat p)).bind fun a => (nl Q).foldlM step a) = _
    rw [hs]
    refine ih _ (or_lt ha (one_shl_lt h1)) (fun q hq => ?_) hn2
    obtain ⟨h3, h4⟩ := hp q (by simp [hq])
    refine ⟨h3, ?_⟩
    rw [Nat.testBit_or, h4, bit_one]
    simp
    rintro rfl
    exact hn1 hq
theorem wd_word {Q : List Nat} (hn : Q.Nodup) (hl : ∀ p ∈ Q, p < 24) : wordOf (nl Q) = some (wd Q) := wd_from Q 0 (by omega) (fun p hp => ⟨hl p hp, by simp⟩) hn
theorem wd_facts {Q : List Nat} (hn : Q.Nodup) (hl : ∀ p ∈ Q, p < 24) : wd Q < 16777216 ∧ wt (wd Q) = Q.length ∧ ∀ i, (wd Q).testBit i = true ↔ i ∈ Q := by
  obtain ⟨h1, h2, h3, _, _⟩ := wordOf_facts _ _ (wd_word hn hl)
  refine ⟨h1, by rw [h2, nl_length], fun i => ?_⟩
  rw [h3]
  unfold nl
  rw [List.mem_map]
  constructor
  · rintro ⟨j, hj, e⟩
    obtain rfl : j = i := Int.ofNat.inj e
    exact hj
  · intro h; exact ⟨i, h, rfl⟩

section
variable {n : Nat}
theorem pl_nodup (n : Nat) : (pl n).Nodup := (pl_sorted n).imp (by intro a b h; omega)
theorem pl_small {p : Nat} (h : p ∈ pl n) : p < 24 := (mem_pl.1 h).1
theorem take_ok (n k : Nat) : ((pl n).take k).Nodup ∧ ∀ p ∈ (pl n).take k, p < 24 := ⟨(pl_nodup n).sublist (List.take_sublist _ _), fun _ h => pl_small (List.mem_of_mem_take h)⟩
theorem mid_ok (n k j : Nat) : (((pl n).drop k).take j).Nodup ∧ ∀ p ∈ ((pl n).drop k).take j, p < 24 :=
  ⟨(pl_nodup n).sublist ((List.take_sublist _ _).trans (List.drop_sublist _ _)), fun _ h => pl_small (List.mem_of_mem_drop (List.mem_of_mem_take h))⟩
/-- The word of the first k places; of the places from k up to i. -/
def hdW (n k : Nat) : Nat := wd ((pl n).take k)
def mdW (n k i : Nat) : Nat := wd (((pl n).drop k).take (i - k))
theorem hdW_lt (n k : Nat) : hdW n k < 16777216 := (wd_facts (take_ok n k).1 (take_ok n k).2).1
theorem mdW_lt (n k i : Nat) : mdW n k i < 16777216 := (wd_facts (mid_ok n k (i - k)).1 (mid_ok n k (i - k)).2).1
theorem hdW_word (n k : Nat) : wordOf (nl ((pl n).take k)) = some (hdW n k) := wd_word (take_ok n k).1 (take_ok n k).2
theorem mdW_word (n k i : Nat) : wordOf (nl (((pl n).drop k).take (i - k))) = some (mdW n k i) := wd_word (mid_ok n k (i - k)).1 (mid_ok n k (i - k)).2
theorem hdW_zero (n : Nat) : hdW n 0 = 0 := rfl
theorem hdW_wt {k : Nat} (h8 : wt n = 8) (hk : k ≤ 8) : wt (hdW n k) = k := by
  rw [hdW, (wd_facts (take_ok n k).1 (take_ok n k).2).2.1, List.length_take, pl_len]; omega
theorem mdW_wt {k i : Nat} (h8 : wt n = 8) (hi : i ≤ 8) (hk : k ≤ i) : wt (mdW n k i) = i - k := by
  rw [mdW, (wd_facts (mid_ok n k (i - k)).1 (mid_ok n k (i - k)).2).2.1, List.length_take, List.length_drop, pl_len]; omega
theorem hdW_bits (n k i : Nat) : (hdW n k).testBit i = true ↔ i ∈ (pl n).take k := (wd_facts (take_ok n k).1 (take_ok n k).2).2.2 i
theorem mdW_bits (n k i j : Nat) : (mdW n k i).testBit j = true ↔ j ∈ ((pl n).drop k).take (i - k) := (wd_facts (mid_ok n k (i - k)).1 (mid_ok n k (i - k)).2).2.2 j
theorem hdW_sub (n k : Nat) : Sub (hdW n k) n := sub_bits.2 fun i hi => (mem_pl.1 (List.mem_of_mem_take ((hdW_bits n k i).1 hi))).2
theorem mdW_sub (n k i : Nat) : Sub (mdW n k i) n := sub_bits.2 fun j hj => (mem_pl.1 (List.mem_of_mem_drop (List.mem_of_mem_take ((mdW_bits n k i j).1 hj)))).2
theorem hd_md (n k i : Nat) : hdW n k &&& mdW n k i = 0 := by
  rw [and0_bits]
  intro j hj
  cases hx : (mdW n k i).testBit j with
  | false => rfl
  | true =>
    have h1 := (hdW_bits n k j).1 hj
    have h2 := List.mem_of_mem_take ((mdW_bits n k i j).1 hx)
    have hn := pl_nodup n
    rw [← List.take_append_drop k (pl n), List.nodup_append] at hn
    exact absurd rfl (hn.2.2 j h1 j h2)
theorem hd_or (n : Nat) {k i : Nat} (hk : k ≤ i) : hdW n i = hdW n k ||| mdW n k i := by
  apply Nat.eq_of_testBit_eq
  intro j
  have e : (pl n).take i = (pl n).take k ++ ((pl n).drop k).take (i - k) := by
    have := List.take_add (l := pl n) (i := k) (j := i - k)
    rwa [show k + (i - k) = i from by omega] at this
  rw [Bool.eq_iff_iff, Nat.testBit_or, Bool.or_eq_true, hdW_bits, hdW_bits, mdW_bits, e, List.mem_append]
/-- How the reference asks. -/
theorem hd_test (n x : Nat) {k i : Nat} (hk : k ≤ i) : (x &&& hdW n i == hdW n k) = hasf (hdW n k) (mdW n k i) x := by
  have h0 := hd_md n k i
  rw [hd_or n hk]
  generalize hdW n k = s at *
  generalize mdW n k i = t at *
  unfold hasf
  rw [Bool.eq_iff_iff, Bool.and_eq_true, beq_iff_eq, beq_iff_eq, beq_iff_eq]
  constructor
  · intro h
    constructor
    · have e : x &&& s = (x &&& (s ||| t)) &&& s := by
        apply Nat.eq_of_testBit_eq; intro i
        simp only [Nat.testBit_and, Nat.testBit_or]
        cases x.testBit i <;> cases s.testBit i <;> cases t.testBit i <;> rfl
      rw [e, h, Nat.and_self]
    · have e : x &&& t = (x &&& (s ||| t)) &&& t := by
        apply Nat.eq_of_testBit_eq; intro i
        simp only [Nat.testBit_and, Nat.testBit_or]
        cases x.testBit i <;> cases s.testBit i <;> cases t.testBit i <;> rfl
      rw [e, h, h0]
  · rintro ⟨h1, h2⟩
    rw [Nat.and_or_distrib_left, h1, h2, Nat.or_zero]
theorem hd_succ (n : Nat) {k p : Nat} (hp : (pl n)[k]? = some p) : p < 24 ∧ hdW n (k + 1) = hdW n k + 1 <<< p := by
  have hp2 := pl_small (List.mem_of_getElem? hp)
  refine ⟨hp2, ?_⟩
  have e : hdW n (k + 1) = hdW n k ||| 1 <<< p := by
    unfold hdW wd
    rw [List.take_add_one, hp, List.foldl_append]
    rfl
  rw [e]
  refine or_add (hdW_lt n k) hp2 ?_
  cases hx : (hdW n k).testBit p with
  | false => rfl
  | true =>
    have h1 := (hdW_bits n k p).1 hx
    obtain ⟨j, hj, ej⟩ := List.mem_iff_getElem.1 h1
    rw [List.length_take] at hj
    rw [List.getElem_take] at ej
    obtain ⟨hk2, ek⟩ := List.getElem?_eq_some_iff.1 hp
    have := (List.getElem_inj (pl_nodup n)).1 (ej.trans ek.symm)
    omega
theorem tri_cnt {k i : Nat} (h : Oct n) (hi : i ≤ 8) (hk : k ≤ i) : cnt (hdW n k) (mdW n k i) = triN k (i - k) := by
  have := triangle h (i - k) (hdW n k) (mdW n k i) (hdW_lt n k) (mdW_lt n k i) (hdW_sub n k) (mdW_sub n k i) (hd_md n k i) (mdW_wt h.2 hi hk)
  rwa [hdW_wt h.2 (by omega)] at this
end

/-- A row of the triangle, its first j numbers; the row. -/
def trowTo (i j : Nat) : List Nat := (List.range j).map fun k => triN k (i - k)
def trow (i : Nat) : List Nat := trowTo i (i + 1)
theorem trowTo_zero (i : Nat) : trowTo i 0 = [] := rfl
theorem trowTo_succ (i j : Nat) : trowTo i (j + 1) = trowTo i j ++ [triN j (i - j)] := by unfold trowTo; rw [List.range_succ]; simp
theorem trowTo_all (i : Nat) : trowTo i (i + 1) = trow i := rfl
theorem trow_len (i : Nat) : (trow i).length = i + 1 := by simp [trow, trowTo]
theorem trow_get {i k : Nat} (h : k ≤ i) : (trow i)[k]? = some (triN k (i - k)) := by
  unfold trow trowTo
  rw [List.getElem?_map, List.getElem?_range (by omega)]; rfl
attribute [irreducible] hdW mdW wd trowTo trow
end Go.Proofs.Ytmboaaopmjmdnaa
