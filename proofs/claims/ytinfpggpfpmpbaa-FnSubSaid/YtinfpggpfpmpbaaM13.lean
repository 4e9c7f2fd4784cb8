/- Ovals out of octads that meet a base in two places. No program here. -/
import Derived.Test.YtinfpggpfpmpbaaM12
namespace Go.Proofs.Ytinfpggpfpmpbaa

/-- The octads that meet b just in t. -/
def justIn (b t x : Nat) : Bool := x &&& b == t
/-- Those octads without t, in ascending order. -/
def ovs (b t : Nat) : List Nat := (List.range 16777216).filter fun y => isOct (y ^^^ t) && justIn b t (y ^^^ t)
theorem ovs_asc (b t : Nat) : Asc (ovs b t) := (List.pairwise_lt_range).filter _
theorem mem_ovs {b t y : Nat} (ht : t < 16777216) : y ∈ ovs b t ↔ Oct (y ^^^ t) ∧ justIn b t (y ^^^ t) = true := by
  unfold ovs
  rw [List.mem_filter, List.mem_range, Bool.and_eq_true]
  constructor
  · rintro ⟨h1, h2, h3⟩; exact ⟨(isOct_iff (xor_lt h1 ht)).1 h2, h3⟩
  · rintro ⟨h1, h2⟩
    have := xor_lt (oct_lt h1) ht
    rw [xor_self_r] at this
    exact ⟨this, (isOct_iff (oct_lt h1)).2 h1, h2⟩
attribute [irreducible] ovs
theorem ovs_srt {b t : Nat} (ht : t < 16777216) : srt (nl ((octs (justIn b t)).map (· ^^^ t))) = nl (ovs b t) := by
  refine srt_eq (ad_nodup (asc_nodup (octs_asc _))) (ovs_asc b t) fun x => ?_
  rw [mem_ovs ht, List.mem_map]
  constructor
  · rintro ⟨y, hy, rfl⟩
    rw [xor_self_r]; exact mem_octs.1 hy
  · rintro h
    exact ⟨x ^^^ t, mem_octs.2 h, xor_self_r _ _⟩
theorem just_sub {b t x : Nat} (h : justIn b t x = true) : Sub t x := by
  unfold justIn at h
  rw [beq_iff_eq] at h
  exact sub_bits.2 fun i hi => by rw [← h, Nat.testBit_and, Bool.and_eq_true] at hi; exact hi.1
/-- Two places of a base, and the third one. -/
structure Two (b p q r : Nat) : Prop where
  hp : p < 24
  hq : q < 24
  hr : r < 24
  pq : p ≠ q
  pr : p ≠ r
  qr : q ≠ r
  eq : b = (1 <<< p ||| 1 <<< q) ||| 1 <<< r
theorem two_of {b p q : Nat} (hb : b < 16777216) (h3 : wt b = 3) (hp : b.testBit p = true) (hq : b.testBit q = true) (hpq : p ≠ q) : ∃ r, Two b p q r := by
  have hp24 := bit_lt hb hp
  have hq24 := bit_lt hb hq
  have ht2 : wt (1 <<< p ||| 1 <<< q) = 2 := by rw [wt_put hq24 (by rw [bit_one]; simpa using hpq), wt_one hp24]
  have htl := or_lt (one_shl_lt hp24) (one_shl_lt hq24)
  have hs : Sub (1 <<< p ||| 1 <<< q) b := sub_or.2 ⟨sub_one.2 hp, sub_one.2 hq⟩
  have hx := wt_xor b (1 <<< p ||| 1 <<< q)
  have he : wt (b &&& (1 <<< p ||| 1 <<< q)) = 2 := by unfold Sub at hs; rw [hs, ht2]
  obtain ⟨r, hr, e⟩ := wt_one_ex (xor_lt hb htl) (show wt (b ^^^ (1 <<< p ||| 1 <<< q)) = 1 by omega)
  have hrb : (b ^^^ (1 <<< p ||| 1 <<< q)).testBit r = true := by rw [e]; exact bit_shift r
  have hrt : (1 <<< p ||| 1 <<< q).testBit r = false := by
    cases hc : (1 <<< p ||| 1 <<< q).testBit r with
    | false => rfl
    | true =>
      have := sub_bits.1 hs r hc
      rw [Nat.testBit_xor, this, hc] at hrb
      cases hrb
  rw [Nat.testBit_or, Bool.or_eq_false_iff, bit_one, bit_one] at hrt
  refine ⟨r, hp24, hq24, hr, hpq, by simpa using hrt.1, by simpa using hrt.2, ?_⟩
  rw [← e]
  apply Nat.eq_of_testBit_eq
  intro i
  have := sub_bits.1 hs i
  rw [Nat.testBit_or, Nat.testBit_xor]
  cases h1 : b.testBit i <;> cases h2 : (1 <<< p ||| 1 <<< q).testBit i <;> simp_all
theorem Two.facts {b p q r : Nat} (h : Two b p q r) : 1 <<< p ||| 1 <<< q < 16777216 ∧ wt (1 <<< p ||| 1 <<< q) = 2 ∧ (1 <<< p ||| 1 <<< q).testBit r = false ∧ b < 16777216 ∧ wt b = 3 := by
  have h1 : (1 <<< p).testBit q = false := by rw [bit_one]; simpa using h.pq
  have h2 : (1 <<< p ||| 1 <<< q).testBit r = false := by
    rw [Nat.testBit_or, bit_one, bit_one]; simp [h.pr, h.qr]
  have l1 := or_lt (one_shl_lt h.hp) (one_shl_lt h.hq)
  have w1 : wt (1 <<< p ||| 1 <<< q) = 2 := by rw [wt_put h.hq h1, wt_one h.hp]
  refine ⟨l1, w1, h2, ?_, ?_⟩
  · rw [h.eq]; exact or_lt l1 (one_shl_lt h.hr)
  · rw [h.eq, wt_put h.hr h2, w1]
theorem Two.just {b p q r : Nat} (h : Two b p q r) : justIn b (1 <<< p ||| 1 <<< q) = hasf (1 <<< p ||| 1 <<< q) (1 <<< r) := by
  obtain ⟨_, _, h2, _, _⟩ := h.facts
  funext x
  rw [Bool.eq_iff_iff, hasf_iff]
  generalize ht : 1 <<< p ||| 1 <<< q = t at h2
  have hb : b = t ||| 1 <<< r := by rw [← ht]; exact h.eq
  unfold justIn
  rw [beq_iff_eq]
  constructor
  · intro e
    refine ⟨just_sub (b := b) (by unfold justIn; rw [beq_iff_eq]; exact e), fun i hi => ?_⟩
    rw [bit_one] at hi
    have hri : r = i := by simpa using hi
    subst hri
    have := congrArg (Nat.testBit · r) e
    simp only [Nat.testBit_and, hb, Nat.testBit_or, bit_shift, Bool.or_true, Bool.and_true, h2] at this
    exact this
  · rintro ⟨e1, e2⟩
    apply Nat.eq_of_testBit_eq
    intro i
    have a := sub_bits.1 e1 i
    have c := e2 i
    rw [Nat.testBit_and, hb, Nat.testBit_or]
    cases h3 : t.testBit i <;> cases h4 : x.testBit i <;> cases h5 : (1 <<< r).testBit i <;> simp_all
theorem Two.count {b p q r : Nat} (h : Two b p q r) : (octs (justIn b (1 <<< p ||| 1 <<< q))).length = 56 := by
  obtain ⟨l1, w1, h2, hb, h3⟩ := h.facts
  rw [h.just]
  have e := cnt_split (1 <<< p ||| 1 <<< q) 0 r
  rw [← h.eq, Nat.zero_or, cnt2 l1 w1, cnt3 hb h3] at e
  unfold cnt at e
  omega
theorem Two.ovs_len {b p q r : Nat} (h : Two b p q r) : (ovs b (1 <<< p ||| 1 <<< q)).length = 56 := by
  have := congrArg List.length (ovs_srt (b := b) h.facts.1)
  rw [srt_length, nl_length, nl_length, List.length_map, h.count] at this
  exact this.symm
end Go.Proofs.Ytinfpggpfpmpbaa
