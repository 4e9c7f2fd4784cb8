/- Sorted lists of lines and tetrads, put together octad by octad. No program here. -/
import Derived.Test.YtmboaaopmjmdnaaM11
import Derived.Test.YtmboaaopmjmdnaaM8
namespace Go.Proofs.Ytmboaaopmjmdnaa

/-- The numbers of a list, each added to c, up to place k. -/
def adTo (c : Nat) (l : List Nat) (k : Nat) : List Nat := (l.take k).map (· ^^^ c)
theorem adTo_succ {c : Nat} {l : List Nat} {k x : Nat} (h : l[k]? = some x) : adTo c l (k + 1) = adTo c l k ++ [x ^^^ c] := by
  unfold adTo; rw [List.take_add_one, h, List.map_append]; rfl
theorem adTo_all (c : Nat) (l : List Nat) (n : Nat) (h : l.length ≤ n) : adTo c l n = l.map (· ^^^ c) := by
  unfold adTo; rw [List.take_of_length_le h]
theorem adTo_len (c : Nat) (l : List Nat) (k : Nat) : (adTo c l k).length ≤ k := by
  unfold adTo; rw [List.length_map, List.length_take]; omega
theorem ad_nodup {c : Nat} {l : List Nat} (h : l.Nodup) : (l.map (· ^^^ c)).Nodup := by
  unfold List.Nodup at *
  rw [List.pairwise_map]
  refine h.imp fun {x y} hab e => hab ?_
  have := congrArg (· ^^^ c) e
  simpa only [xor_self_r] using this
/-- Without c, and c added: the same where c lies inside. -/
theorem less_xor {x c : Nat} (h : Sub c x) : x ^^^ (x &&& c) = x ^^^ c := by
  unfold Sub at h; rw [h]
theorem lines_srt {b s : Nat} (hb : b < 16777216) (hs : s &&& b = 0) : srt (nl ((octs (hasf (b ||| s) 0)).map (· ^^^ b))) = nl (lns b s) := by
  refine srt_eq (ad_nodup (asc_nodup (octs_asc _))) (lns_asc b s) fun x => ?_
  rw [mem_lns hb, List.mem_map]
  constructor
  · rintro ⟨y, hy, rfl⟩
    rw [mem_octs, hasf_iff, sub_or] at hy
    obtain ⟨h1, ⟨h2, h4⟩, _⟩ := hy
    refine ⟨line_of h1 h2, sub_bits.2 fun i hi => ?_⟩
    have a := sub_bits.1 h4 i hi
    have c := and0_bits.1 hs i hi
    rw [Nat.testBit_xor, a, c]; rfl
  · rintro ⟨h1, h2⟩
    refine ⟨x ^^^ b, ?_, xor_self_r _ _⟩
    rw [mem_octs, hasf_iff, sub_or]
    refine ⟨h1.1, ⟨line_sub h1, sub_bits.2 fun i hi => ?_⟩, by simp⟩
    rw [line_bit h1, sub_bits.1 h2 i hi]; rfl
theorem oct_has {c x : Nat} (h : x ∈ octs (hasf c 0)) : Oct x ∧ Sub c x := by
  rw [mem_octs, hasf_iff] at h; exact ⟨h.1, h.2.1⟩
/-- The sextet of a tetrad, put together. -/
theorem sext_srt {t : Nat} (ht : t < 16777216) : srt (nl (t :: (octs (hasf t 0)).map (· ^^^ t))) = nl (sext t) := by
  have mm : ∀ x, x ∈ (octs (hasf t 0)).map (· ^^^ t) ↔ Oct (x ^^^ t) ∧ x &&& t = 0 := by
    intro x
    rw [List.mem_map]
    constructor
    · rintro ⟨y, hy, rfl⟩
      obtain ⟨h1, h2⟩ := oct_has hy
      refine ⟨by rw [xor_self_r]; exact h1, and0_bits.2 fun i hi => ?_⟩
      have a := sub_bits.1 h2 i
      rw [Nat.testBit_xor] at hi
      cases hti : t.testBit i <;> simp_all
    · rintro ⟨h1, h2⟩
      refine ⟨x ^^^ t, ?_, xor_self_r _ _⟩
      rw [mem_octs, hasf_iff]
      refine ⟨h1, sub_bits.2 fun i hi => ?_, by simp⟩
      have a := and0_bits.1 (and0_comm h2) i hi
      rw [Nat.testBit_xor, hi, a]; rfl
  refine srt_eq ?_ (sext_asc t) fun x => ?_
  · rw [List.nodup_cons]
    refine ⟨fun h => ?_, ad_nodup (asc_nodup (octs_asc _))⟩
    have := ((mm t).1 h).1
    rw [Nat.xor_self] at this
    have h8 := this.2
    rw [wt_0] at h8
    omega
  · rw [List.mem_cons, mem_sext ht, mm]
theorem sext_count {t : Nat} (ht : t < 16777216) (h4 : wt t = 4) : (octs (hasf t 0)).length = 5 := cnt4 ht h4
theorem base_count {b : Nat} (hb : b < 16777216) (h3 : wt b = 3) : (octs (hasf b 0)).length = 21 := cnt3 hb h3
theorem octs_len (f : Nat → Bool) : (octs f).length ≤ 759 := by
  rw [octs_filter]
  refine Nat.le_trans (List.length_filter_le _ _) ?_
  have h := cnt0
  unfold cnt at h
  have e : hasf 0 0 = yes := by funext x; simp [hasf, yes]
  rw [e] at h; omega
/-- No line has three points of w. -/
def thinL (w : Nat) (l : List Nat) : Bool := l.all fun y => decide (wt (y &&& w) ≤ 2)
theorem thinL_take {w : Nat} {l : List Nat} {k x : Nat} (h : l[k]? = some x) : thinL w (l.take (k + 1)) = (thinL w (l.take k) && decide (wt (x &&& w) ≤ 2)) := by
  unfold thinL; rw [List.take_add_one, h, List.all_append]; simp
theorem thinL_no {w : Nat} {l : List Nat} {k x : Nat} (h : l[k]? = some x) (hw : 2 < wt (x &&& w)) : thinL w l = false := by
  unfold thinL
  rw [List.all_eq_false]
  exact ⟨x, List.mem_of_getElem? h, by simp; omega⟩
theorem thinL_iff {b w : Nat} (hb : b < 16777216) : thinL w (lns b 0) = true ↔ Thin b w := by
  unfold thinL Thin
  rw [List.all_eq_true]
  constructor
  · intro h y hy
    have := h y ((mem_lns hb).2 ⟨hy, by unfold Sub; simp⟩)
    simpa using this
  · intro h y hy
    have := h y ((mem_lns hb).1 hy).1
    simpa using this
end Go.Proofs.Ytmboaaopmjmdnaa
