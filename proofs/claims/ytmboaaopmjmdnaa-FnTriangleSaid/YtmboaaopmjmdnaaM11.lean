/- The octads among the words of the messages; merging. No program here. -/
import Derived.Test.YtmboaaopmjmdnaaM10
import Derived.Test.YtmboaaopmjmdnaaM0
namespace Go.Proofs.Ytmboaaopmjmdnaa

/-- The octads among the first k words for which f says yes. -/
def octTo (f : Nat → Bool) (k : Nat) : List Nat := (wdTo k).filter fun x => decide (wt x = 8) && f x
theorem octTo_yes (f : Nat → Bool) (k : Nat) (h : wt (cw k) = 8) (hf : f (cw k) = true) : octTo f (k + 1) = octTo f k ++ [cw k] := by
  unfold octTo; rw [wdTo_succ, List.filter_append]; simp [h, hf]
theorem octTo_no (f : Nat → Bool) (k : Nat) (h : wt (cw k) ≠ 8 ∨ f (cw k) = false) : octTo f (k + 1) = octTo f k := by
  unfold octTo; rw [wdTo_succ, List.filter_append]
  rcases h with h | h <;> simp [h]
theorem octTo_len (f : Nat → Bool) (k : Nat) : (octTo f k).length ≤ k := by
  have := List.length_filter_le (fun x => decide (wt x = 8) && f x) (wdTo k)
  rw [wdTo_len] at this; exact this
theorem wd_nodup : (wdTo 4096).Nodup := by
  unfold wdTo
  rw [List.nodup_iff_pairwise_ne, List.pairwise_map]
  refine List.Pairwise.imp_of_mem ?_ (List.nodup_iff_pairwise_ne.1 (List.nodup_range (n := 4096)))
  intro a b ha hb hne h
  exact hne (cw_inj (List.mem_range.1 ha) (List.mem_range.1 hb) h)
theorem mem_wd (x : Nat) : x ∈ wdTo 4096 ↔ Cod x := by
  unfold wdTo
  rw [List.mem_map]
  constructor
  · rintro ⟨m, _, rfl⟩; exact cod_cw m
  · intro h
    obtain ⟨m, hm, e⟩ := cod_ex h
    exact ⟨m, List.mem_range.2 hm, e⟩
theorem octTo_all (f : Nat → Bool) : srt (nl (octTo f 4096)) = nl (octs f) := by
  refine srt_eq (wd_nodup.filter _) (octs_asc f) fun x => ?_
  unfold octTo
  rw [List.mem_filter, mem_wd, mem_octs]
  unfold Oct
  simp [and_assoc]
theorem wd_getD (k : Nat) (hk : k < 4096) : (wdTo 4096)[k]? = some (cw k) := by
  unfold wdTo; rw [List.getElem?_map, List.getElem?_range hk]; rfl

/-! ### Sorting by halves -/
def Up (l : List Int) : Prop := List.Pairwise (fun x y => x ≤ y) l
theorem srt_up (l : List Int) : Up (srt l) := by
  have h := List.pairwise_mergeSort (le := fun x y => decide (x ≤ y)) (by intro a b c h1 h2; simp at h1 h2 ⊢; omega) (by intro a b; simp; omega) l
  exact List.Pairwise.imp (by intro a b h; simpa using h) h
theorem srt_perm (l : List Int) : (srt l).Perm l := List.mergeSort_perm _ _
theorem srt_of {l t : List Int} (ht : Up t) (hp : t.Perm l) : srt l = t := by
  refine List.Perm.eq_of_pairwise (le := fun a b : Int => a ≤ b) ?_ (srt_up l) ht ((srt_perm l).trans hp.symm)
  intro a b _ _ h1 h2; omega
theorem srt_short (l : List Int) (h : l.length < 2) : srt l = l := by
  refine srt_of ?_ (List.Perm.refl _)
  match l, h with
  | [], _ => exact List.Pairwise.nil
  | [a], _ => exact List.pairwise_singleton _ _
  | a :: b :: t, h => simp at h; omega
/-- Two ascending lists made into one: the first one's number first if it is not greater. -/
def mrg : List Int → List Int → List Int
  | [], b => b
  | a, [] => a
  | x :: a, y :: b => if x ≤ y then x :: mrg a (y :: b) else y :: mrg (x :: a) b
termination_by a b => a.length + b.length
theorem mrg_nil_left (b : List Int) : mrg [] b = b := by unfold mrg; rfl
theorem mrg_nil_right (a : List Int) : mrg a [] = a := by cases a <;> unfold mrg <;> rfl
theorem mrg_cons (x y : Int) (a b : List Int) : mrg (x :: a) (y :: b) = if x ≤ y then x :: mrg a (y :: b) else y :: mrg (x :: a) b := by rw [mrg]
theorem mrg_perm : ∀ (n : Nat) (a b : List Int), a.length + b.length = n → (mrg a b).Perm (a ++ b) := by
  intro n
  induction n with
  | zero =>
    intro a b h
    obtain rfl : a = [] := List.eq_nil_of_length_eq_zero (by omega)
    obtain rfl : b = [] := List.eq_nil_of_length_eq_zero (by omega)
    rw [mrg_nil_left]; exact List.Perm.refl _
  | succ n ih =>
    intro a b h
    match a, b with
    | [], b => rw [mrg_nil_left]; exact List.Perm.refl _
    | x :: a, [] => rw [mrg_nil_right]; simp
    | x :: a, y :: b =>
      rw [mrg_cons]
      simp only [List.length_cons] at h
      split
      · exact (ih a (y :: b) (by simp only [List.length_cons]; omega)).cons x
      · refine ((ih (x :: a) b (by simp only [List.length_cons]; omega)).cons y).trans ?_
        exact List.perm_middle.symm
theorem mrg_mem {z : Int} {a b : List Int} (h : z ∈ mrg a b) : z ∈ a ∨ z ∈ b := by
  have := (mrg_perm _ a b rfl).mem_iff.1 h
  exact List.mem_append.1 this
theorem mrg_up : ∀ (n : Nat) (a b : List Int), a.length + b.length = n → Up a → Up b → Up (mrg a b) := by
  intro n
  induction n with
  | zero =>
    intro a b h ha hb
    obtain rfl : a = [] := List.eq_nil_of_length_eq_zero (by omega)
    rw [mrg_nil_left]; exact hb
  | succ n ih =>
    intro a b h ha hb
    match a, b with
    | [], b => rw [mrg_nil_left]; exact hb
    | x :: a, [] => rw [mrg_nil_right]; exact ha
    | x :: a, y :: b =>
      rw [mrg_cons]
      simp only [List.length_cons] at h
      obtain ⟨ha1, ha2⟩ := List.pairwise_cons.1 ha
      obtain ⟨hb1, hb2⟩ := List.pairwise_cons.1 hb
      split
      · rename_i hxy
        refine List.pairwise_cons.2 ⟨fun z hz => ?_, ih a (y :: b) (by simp only [List.length_cons]; omega) ha2 hb⟩
        rcases mrg_mem hz with hz | hz
        · exact ha1 z hz
        · rcases List.mem_cons.1 hz with rfl | hz
          · exact hxy
          · have := hb1 z hz; omega
      · rename_i hxy
        refine List.pairwise_cons.2 ⟨fun z hz => ?_, ih (x :: a) b (by simp only [List.length_cons]; omega) ha hb2⟩
        rcases mrg_mem hz with hz | hz
        · rcases List.mem_cons.1 hz with rfl | hz
          · omega
          · have := ha1 z hz; omega
        · exact hb1 z hz
theorem mrg_srt (l : List Int) (n : Nat) : mrg (srt (l.take n)) (srt (l.drop n)) = srt l := by
  refine (srt_of (mrg_up _ _ _ rfl (srt_up _) (srt_up _)) ?_).symm
  refine (mrg_perm _ _ _ rfl).trans ?_
  refine ((srt_perm _).append (srt_perm _)).trans ?_
  rw [List.take_append_drop]
/-- One step of the merge, seen from the two places reached. -/
theorem mrg_a {a b : List Int} {i k : Nat} {x : Int} (hx : a[i]? = some x) (hy : ∀ y, b[k]? = some y → x ≤ y) : mrg (a.drop i) (b.drop k) = x :: mrg (a.drop (i + 1)) (b.drop k) := by
  have hi : i < a.length := (List.getElem?_eq_some_iff.1 hx).1
  have e : a.drop i = x :: a.drop (i + 1) := by
    rw [List.drop_eq_getElem_cons hi]
    congr 1
    exact (List.getElem?_eq_some_iff.1 hx).2
  rw [e]
  by_cases hk : k < b.length
  · rw [List.drop_eq_getElem_cons hk, mrg_cons, if_pos (hy _ (List.getElem?_eq_getElem hk))]
  · rw [List.drop_of_length_le (l := b) (i := k) (by omega), mrg_nil_right, mrg_nil_right]
theorem mrg_b {a b : List Int} {i k : Nat} {y : Int} (hy : b[k]? = some y) (hx : ∀ x, a[i]? = some x → y < x) : mrg (a.drop i) (b.drop k) = y :: mrg (a.drop i) (b.drop (k + 1)) := by
  have hk : k < b.length := (List.getElem?_eq_some_iff.1 hy).1
  have e : b.drop k = y :: b.drop (k + 1) := by
    rw [List.drop_eq_getElem_cons hk]
    congr 1
    exact (List.getElem?_eq_some_iff.1 hy).2
  rw [e]
  by_cases hi : i < a.length
  · have := hx _ (List.getElem?_eq_getElem hi)
    rw [List.drop_eq_getElem_cons hi, mrg_cons, if_neg (by omega)]
  · rw [List.drop_of_length_le (l := a) (i := i) (by omega), mrg_nil_left, mrg_nil_left]
theorem mrg_end {a b : List Int} {i k : Nat} (hi : a.length ≤ i) (hk : b.length ≤ k) : mrg (a.drop i) (b.drop k) = [] := by
  rw [List.drop_of_length_le hi, List.drop_of_length_le hk, mrg_nil_left]
theorem nl_take (l : List Nat) (n : Nat) : (nl l).take n = nl (l.take n) := by unfold nl; rw [List.map_take]
theorem nl_drop (l : List Nat) (n : Nat) : (nl l).drop n = nl (l.drop n) := by unfold nl; rw [List.map_drop]
end Go.Proofs.Ytmboaaopmjmdnaa
