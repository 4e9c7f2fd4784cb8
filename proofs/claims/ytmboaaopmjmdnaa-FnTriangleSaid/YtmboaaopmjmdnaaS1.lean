/- The library's sort, comparison and search of []int, in this claim's own words. -/
import Derived.Test.YtmboaaopmjmdnaaShelf
import Derived.Test.YtmboaaopmjmdnaaB1
import Derived.Test.YtmboaaopmjmdnaaM0
import Derived.Sort.OwnSortedInts
namespace Go.Proofs.Ytmboaaopmjmdnaa
open Go.RowKit Go.Sort

theorem Sl.cells_get {w : World} {B b o n cap : Nat} {l : List Int} (h : Sl w B (some ⟨b, o, none⟩) n cap l) (hn : 0 < n) : ∀ j, j < l.length → w.cell? ⟨b, o + j, none⟩ = some (.int .i64 (l.getD j 0)) := by
  obtain ⟨b', o', e, _, hc⟩ := h.at_ hn
  cases e
  intro j hj
  exact hc j (by have := h.len; omega)
theorem equalInts (B : Nat) (A1 A2 : Option Addr) (n1 n2 c1 c2 : Nat) (l1 l2 : List Int) (w : World) (h1 : Sl w B A1 n1 c1 l1) (h2 : Sl w B A2 n2 c2 l2) (hn : n1 ≤ 1048576) :
    Calls Try.prog 49 #[.slice A1 n1 c1, .slice A2 n2 c2] w fun e w' => e = .returned (.bool (decide (l1 = l2))) ∧ Below w.heap.size w w' := by
  have e1 := h1.len
  have e2 := h2.len
  by_cases hne : n1 = n2
  · subst hne
    by_cases h0 : n1 = 0
    · subst h0
      have z1 : l1 = [] := List.eq_nil_of_length_eq_zero e1
      have z2 : l2 = [] := List.eq_nil_of_length_eq_zero e2
      refine (Try.slices_Equal_int_empty A1 A2 c1 0 c2 w (by decide)).mono fun e w' ⟨he, hw⟩ => ⟨?_, hw ▸ Below.refl _ _⟩
      rw [he, z1, z2]; rfl
    · obtain ⟨b1, o1, r1, _, _⟩ := h1.at_ (by omega)
      obtain ⟨b2, o2, r2, _, _⟩ := h2.at_ (by omega)
      subst r1
      subst r2
      refine (Try.slices_Equal_int b1 o1 n1 c1 b2 o2 n1 c2 l1 l2 w (by omega) (by omega) (by omega) (by omega) (h1.cells_get (by omega)) (h2.cells_get (by omega))).mono fun e w' ⟨he, q, hw⟩ => ⟨?_, hw ▸ below_drewN (Below.refl _ _) q⟩
      rw [he, List.take_of_length_le (by omega), List.take_of_length_le (by omega)]
      by_cases hl : l1 = l2 <;> simp [hl]
  · refine (Try.slices_Equal_int_lens A1 A2 n1 c1 n2 c2 w hne).mono fun e w' ⟨he, hw⟩ => ⟨?_, hw ▸ Below.refl _ _⟩
    rw [he, decide_eq_false (fun e => hne (by rw [← e1, ← e2, e]))]
theorem sortInts (base : Nat) (A : Option Addr) (n c : Nat) (l : List Int) (w : World) (h : Own w base A n c l) (hn : n ≤ 1048576) :
    Calls Try.prog 55 #[.slice A n c] w fun e w' => e = .returned (.tuple #[]) ∧ Own w' base A n c (srt l) ∧ Only w w' A := by
  have e1 := h.length
  rcases h.2 with ⟨hv, h0⟩ | ⟨g, cap, cur, hv, hb, hg, hnc, hcm, hcs, htake⟩
  · subst h0
    have z1 : l = [] := List.eq_nil_of_length_eq_zero e1
    subst z1
    refine (Try.slices_Sort_int_none A c w).mono fun e w' ⟨he, hw⟩ => ⟨he, ?_, hw ▸ Only.refl _ _⟩
    subst hw
    rw [show srt [] = [] from by simp [srt]]
    exact h
  · simp only [Value.slice.injEq, true_and] at hv
    obtain ⟨rfl, rfl⟩ := hv
    subst e1
    rw [Nat.mul_one] at htake
    have hlt := (Array.getElem?_eq_some_iff.1 hg).1
    refine (Try.slices_Sort_int g 0 c l w (holds_of_blockI hg htake) hlt (by omega)).mono fun e w' ⟨he, m, os, hw⟩ => ⟨he, ?_, ?_⟩
    · subst hw
      exact ownsRow_sortedI (by rw [List.length_mergeSort]) hb hg hnc hcm hcs
    · subst hw
      exact grownBy_sortedI _
end Go.Proofs.Ytmboaaopmjmdnaa
