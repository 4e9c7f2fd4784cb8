/- Sorted lists. No program here. -/
import Derived.Test.YtmboaaopmjmdnaaM5
namespace Go.Proofs.Ytmboaaopmjmdnaa
def srt (l : List Int) : List Int := l.mergeSort fun x y => decide (x ≤ y)
theorem srt_length (l : List Int) : (srt l).length = l.length := (List.mergeSort_perm l _).length_eq
/-- Sorting a list without repetition gives the ascending list of the same numbers. -/
theorem srt_eq {l t : List Nat} (hn : l.Nodup) (ht : Asc t) (hm : ∀ x, x ∈ l ↔ x ∈ t) : srt (nl l) = nl t := by
  have hp : l.Perm t := (List.perm_ext_iff_of_nodup hn (asc_nodup ht)).2 hm
  unfold srt nl
  refine List.Perm.eq_of_pairwise (le := fun a b => decide (a ≤ b) = true) ?_ (List.pairwise_mergeSort ?_ ?_ _) ?_ ?_
  · intro a b _ _ h1 h2; simp at h1 h2; omega
  · intro a b c h1 h2; simp at h1 h2 ⊢; omega
  · intro a b; simp; omega
  · rw [List.pairwise_map]
    refine List.Pairwise.imp ?_ ht
    intro a b hab; simp; omega
  · exact (List.mergeSort_perm _ _).trans (hp.map _)
end Go.Proofs.Ytmboaaopmjmdnaa
