/- Permutations of places: what the functions on them compute. No program here. -/
import Derived.Test.YtmboaaopmjmdnaaM1
namespace Go.Proofs.Ytmboaaopmjmdnaa

theorem isPerm_len {l : List Int} (h : isPerm l = true) : l.length = 24 := by
  unfold isPerm at h; simp only [Bool.and_eq_true, decide_eq_true_eq] at h; exact h.1
theorem isPerm_get {l : List Int} (h : isPerm l = true) {k : Nat} (hk : k < 24) : ∃ p : Nat, p < 24 ∧ l[k]? = some (p : Int) := by
  have hl := isPerm_len h
  have hf := wordOf_facts l _ (isPerm_word h)
  have hm : l[k]'(by omega) ∈ l := List.getElem_mem _
  obtain ⟨h0, h1⟩ := hf.2.2.2.1 _ hm
  refine ⟨(l[k]'(by omega)).toNat, by omega, ?_⟩
  rw [List.getElem?_eq_getElem (by omega), Int.toNat_of_nonneg h0]
theorem isPerm_inj {l : List Int} (h : isPerm l = true) {i j : Nat} {p : Int} (hi : l[i]? = some p) (hj : l[j]? = some p) : i = j := by
  have hf := wordOf_facts l _ (isPerm_word h)
  have hn := hf.2.2.2.2
  obtain ⟨h1, h2⟩ := List.getElem?_eq_some_iff.1 hi
  obtain ⟨h3, h4⟩ := List.getElem?_eq_some_iff.1 hj
  exact (List.getElem_inj hn).1 (h2.trans h4.symm)

/-- The places below k that stay. -/
def fixTo (l : List Int) : Nat → Nat
  | 0 => 0
  | k + 1 => if l[k]? = some (k : Int) then fixTo l k ||| 1 <<< k else fixTo l k
theorem fixTo_facts (l : List Int) (k : Nat) (hk : k ≤ 24) : fixTo l k < 16777216 ∧ ∀ i, k ≤ i → (fixTo l k).testBit i = false := by
  induction k with
  | zero => exact ⟨by simp [fixTo], fun i _ => by simp [fixTo]⟩
  | succ k ih =>
    obtain ⟨h1, h2⟩ := ih (by omega)
    simp only [fixTo]
    split
    · refine ⟨or_lt h1 (one_shl_lt (by omega)), fun i hi => ?_⟩
      rw [Nat.testBit_or, h2 i (by omega), bit_one]
      simp; omega
    · exact ⟨h1, fun i hi => h2 i (by omega)⟩

def fixRes (l : List Int) : Nat := if isPerm l then fixTo l 24 else 0
theorem fixRes_yes {l : List Int} (h : isPerm l = true) : fixRes l = fixTo l 24 := by unfold fixRes; rw [if_pos h]
theorem fixRes_no {l : List Int} (h : isPerm l = false) : fixRes l = 0 := by unfold fixRes; rw [h]; rfl
/-- The first k numbers of 'p, then q'. -/
def thenTo (p q : List Int) (k : Nat) : List Int := (p.take k).map fun x => q.getD x.toNat 0
theorem thenTo_succ {p q : List Int} {k a b : Nat} (hp : p[k]? = some (a : Int)) (hq : q[a]? = some (b : Int)) : thenTo p q (k + 1) = thenTo p q k ++ [(b : Int)] := by
  unfold thenTo
  rw [List.take_add_one, hp]
  simp [hq]
theorem thenTo_length (p q : List Int) (k : Nat) (hk : k ≤ p.length) : (thenTo p q k).length = k := by
  unfold thenTo; simp; omega

def thenRes (p q : List Int) : List Int := if (isPerm p && isPerm q) = true then thenTo p q 24 else []
theorem thenRes_yes {p q : List Int} (h : (isPerm p && isPerm q) = true) : thenRes p q = thenTo p q 24 := by unfold thenRes; rw [if_pos h]
theorem thenRes_no {p q : List Int} (h : (isPerm p && isPerm q) = false) : thenRes p q = [] := by unfold thenRes; rw [h]; rfl
theorem thenRes_len (p q : List Int) : (thenRes p q).length ≤ 24 := by
  unfold thenRes; split
  · rename_i h; simp only [Bool.and_eq_true] at h; rw [thenTo_length _ _ _ (by rw [isPerm_len h.1]; exact Nat.le_refl _)]; exact Nat.le_refl _
  · simp
/-- The turned list after k rounds. -/
def turnTo (l : List Int) : Nat → List Int
  | 0 => List.replicate 24 0
  | k + 1 => (turnTo l k).set (l.getD k 0).toNat (k : Int)
theorem turnTo_length (l : List Int) (k : Nat) : (turnTo l k).length = 24 := by
  induction k with
  | zero => simp [turnTo]
  | succ k ih => simp [turnTo, ih]
theorem turnTo_succ {l : List Int} {k p : Nat} (h : l[k]? = some (p : Int)) : turnTo l (k + 1) = (turnTo l k).set p (k : Int) := by
  simp [turnTo, List.getD_eq_getElem?_getD, h]

def turnRes (l : List Int) : List Int := if isPerm l then turnTo l 24 else []
theorem turnRes_len (l : List Int) : (turnRes l).length ≤ 24 := by
  unfold turnRes; split
  · rw [turnTo_length]; exact Nat.le_refl _
  · simp
/-- The moved word after k places. -/
def movTo (l : List Int) (w : Nat) : Nat → Nat
  | 0 => 0
  | k + 1 => if w.testBit k then movTo l w k ||| 1 <<< (l.getD k 0).toNat else movTo l w k
theorem movTo_lt {l : List Int} (h : isPerm l = true) (w k : Nat) (hk : k ≤ 24) : movTo l w k < 16777216 := by
  induction k with
  | zero => simp [movTo]
  | succ k ih =>
    simp only [movTo]
    obtain ⟨p, hp, e⟩ := isPerm_get h (k := k) (by omega)
    split
    · rw [List.getD_eq_getElem?_getD, e]
      exact or_lt (ih (by omega)) (one_shl_lt (by simpa using hp))
    · exact ih (by omega)
theorem movTo_bit {l : List Int} (h : isPerm l = true) (w k : Nat) (hk : k ≤ 24) (q : Nat) : (movTo l w k).testBit q = true ↔ ∃ i, i < k ∧ w.testBit i = true ∧ l[i]? = some (q : Int) := by
  induction k with
  | zero => simp [movTo]
  | succ k ih =>
    have ih := ih (by omega)
    obtain ⟨p, hp, e⟩ := isPerm_get h (k := k) (by omega)
    simp only [movTo]
    have hd : (l.getD k 0).toNat = p := by rw [List.getD_eq_getElem?_getD, e]; simp
    split
    · rename_i hb
      rw [hd, Nat.testBit_or, bit_one, Bool.or_eq_true, ih]
      constructor
      · rintro (⟨i, h1, h2, h3⟩ | h1)
        · exact ⟨i, by omega, h2, h3⟩
        · simp at h1; subst h1; exact ⟨k, by omega, hb, e⟩
      · rintro ⟨i, h1, h2, h3⟩
        by_cases hik : i = k
        · subst hik; rw [e] at h3; injection h3 with h3; right; simp; omega
        · left; exact ⟨i, by omega, h2, h3⟩
    · rename_i hb
      rw [ih]
      constructor
      · rintro ⟨i, h1, h2, h3⟩; exact ⟨i, by omega, h2, h3⟩
      · rintro ⟨i, h1, h2, h3⟩
        by_cases hik : i = k
        · subst hik; exact absurd h2 hb
        · exact ⟨i, by omega, h2, h3⟩
theorem movTo_new {l : List Int} (h : isPerm l = true) (w k p : Nat) (hk : k < 24) (hp : l[k]? = some (p : Int)) : (movTo l w k).testBit p = false := by
  cases hb : (movTo l w k).testBit p with
  | false => rfl
  | true =>
    obtain ⟨i, h1, _, h3⟩ := (movTo_bit h w k (by omega) p).1 hb
    have := isPerm_inj h h3 hp
    omega
theorem movTo_yes {l : List Int} {w k p : Nat} (hp : l[k]? = some (p : Int)) (hb : w.testBit k = true) : movTo l w (k + 1) = movTo l w k ||| 1 <<< p := by
  simp [movTo, hb, List.getD_eq_getElem?_getD, hp]
theorem movTo_no {l : List Int} {w k : Nat} (hb : w.testBit k = false) : movTo l w (k + 1) = movTo l w k := by
  simp [movTo, hb]

/-- The places of a word, those below k. -/
def plTo (w k : Nat) : List Nat := (List.range k).filter fun i => w.testBit i
def pl (w : Nat) : List Nat := plTo w 24
/-- A list of naturals as ints. -/
def nl (l : List Nat) : List Int := l.map Int.ofNat
theorem nl_length (l : List Nat) : (nl l).length = l.length := by simp [nl]
theorem nl_append (a b : List Nat) : nl (a ++ b) = nl a ++ nl b := by simp [nl]
theorem nl_get (l : List Nat) (j : Nat) : (nl l)[j]? = (l[j]?).map Int.ofNat := by simp [nl]
theorem plTo_yes {w k : Nat} (h : w.testBit k = true) : plTo w (k + 1) = plTo w k ++ [k] := by
  unfold plTo; rw [List.range_succ, List.filter_append]; simp [h]
theorem plTo_no {w k : Nat} (h : w.testBit k = false) : plTo w (k + 1) = plTo w k := by
  unfold plTo; rw [List.range_succ, List.filter_append]; simp [h]
theorem plTo_len (w k : Nat) : (plTo w k).length = sm k (bt w) := by
  induction k with
  | zero => rfl
  | succ k ih =>
    simp only [sm]
    cases h : w.testBit k with
    | true => rw [plTo_yes h, bt_one.2 h]; simp [ih]
    | false => rw [plTo_no h, bt_zero.2 h]; simp [ih]
theorem pl_len (w : Nat) : (pl w).length = wt w := plTo_len w 24
theorem mem_pl {w i : Nat} : i ∈ pl w ↔ i < 24 ∧ w.testBit i = true := by unfold pl plTo; simp
theorem pl_sorted (w : Nat) : (pl w).Pairwise (· < ·) := (List.pairwise_lt_range).filter _
/-- The moved word along the list of places. -/
def movL (l : List Int) (acc : Nat) : List Nat → Nat
  | [] => acc
  | i :: r => movL l (acc ||| 1 <<< (l.getD i 0).toNat) r
theorem movL_append (l : List Int) (a b : List Nat) : ∀ acc, movL l acc (a ++ b) = movL l (movL l acc a) b := by
  induction a with
  | nil => intro acc; rfl
  | cons i r ih => intro acc; exact ih _
theorem movL_plTo (l : List Int) (w k : Nat) : movL l 0 (plTo w k) = movTo l w k := by
  induction k with
  | zero => rfl
  | succ k ih =>
    cases h : w.testBit k with
    | true => rw [plTo_yes h, movL_append, ih]; simp [movL, movTo, h]
    | false => rw [plTo_no h, ih, movTo_no h]
theorem movL_lt {l : List Int} (h : isPerm l = true) (a : List Nat) (ha : ∀ i ∈ a, i < 24) : ∀ acc, acc < 16777216 → movL l acc a < 16777216 := by
  induction a with
  | nil => intro acc h; exact h
  | cons i r ih =>
    intro acc hacc
    obtain ⟨p, hp, e⟩ := isPerm_get h (ha i (by simp))
    refine ih (fun j hj => ha j (by simp [hj])) _ (or_lt hacc (one_shl_lt ?_))
    rw [List.getD_eq_getElem?_getD, e]; simpa using hp
theorem movL_take {l : List Int} {a : List Nat} {k i p : Nat} (hi : a[k]? = some i) (hp : l[i]? = some (p : Int)) : movL l 0 (a.take (k + 1)) = movL l 0 (a.take k) ||| 1 <<< p := by
  rw [List.take_add_one, hi, movL_append]
  simp [movL, List.getD_eq_getElem?_getD, hp]

def movRes (l : List Int) (w : Int) : Nat := if isPerm l = true ∧ 0 ≤ w ∧ w ≤ 16777215 then movTo l w.toNat 24 else 0
theorem movRes_yes {l : List Int} {x : Nat} (h : isPerm l = true) (hx : x < 16777216) : movRes l x = movTo l x 24 := by
  unfold movRes; rw [if_pos ⟨h, by omega, by omega⟩]; simp
theorem movRes_no {l : List Int} {x : Int} (h : isPerm l = false ∨ x < 0 ∨ 16777215 < x) : movRes l x = 0 := by
  unfold movRes; rw [if_neg]; rintro ⟨h1, h2, h3⟩; rcases h with h | h | h
  · rw [h1] at h; cases h
  · omega
  · omega
def valid (w : Int) : Bool := decide (0 ≤ w ∧ w ≤ 16777215)
theorem valid_yes {x : Nat} (h : x < 16777216) : valid (x : Int) = true := by unfold valid; simp; omega
theorem valid_no {x : Int} (h : x < 0 ∨ 16777215 < x) : valid x = false := by unfold valid; simp; omega
/-- Products of digits. -/
def tm (a b : Nat) : Nat := if a = 0 ∨ b = 0 then 0 else 1 + (a + b - 2) % 3
def sclTo (n k : Nat) : List Nat := (List.range k).map fun i => i / 4 * 4 + tm (i % 4) n
theorem sclTo_succ (n k : Nat) : sclTo n (k + 1) = sclTo n k ++ [k / 4 * 4 + tm (k % 4) n] := by
  unfold sclTo; rw [List.range_succ]; simp
theorem sclTo_length (n k : Nat) : (sclTo n k).length = k := by simp [sclTo]
theorem tm_lt (a b : Nat) : tm a b < 4 := by unfold tm; split <;> omega
def sclOk (n : Int) : Bool := decide (1 ≤ n ∧ n ≤ 3)
def sclRes (n : Int) : List Int := if sclOk n then nl (sclTo n.toNat 24) else []
theorem sclRes_yes {m : Nat} (h1 : 1 ≤ m) (h2 : m ≤ 3) : sclRes (m : Int) = nl (sclTo m 24) ∧ sclOk (m : Int) = true := by
  have : sclOk (m : Int) = true := by unfold sclOk; simp; omega
  unfold sclRes; rw [this]; simp
theorem sclRes_no {n : Int} (h : n < 1 ∨ 3 < n) : sclRes n = [] ∧ sclOk n = false := by
  have : sclOk n = false := by unfold sclOk; simp; omega
  unfold sclRes; rw [this]; simp
theorem sclRes_len (n : Int) : (sclRes n).length ≤ 24 := by
  unfold sclRes; split
  · rw [nl_length, sclTo_length]; exact Nat.le_refl _
  · simp
end Go.Proofs.Ytmboaaopmjmdnaa
