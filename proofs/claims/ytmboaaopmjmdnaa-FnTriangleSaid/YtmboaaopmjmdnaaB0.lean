/- Words for memory that all walks of these statements share: a slice of ints that reads as a list, a row that the call itself owns. -/
import Derived.WalkKit
import Derived.WalkLawsBesides
import Derived.WalkSpells
import Derived.Lib.Hide
import Derived.Deep.QuietTactic
import Derived.BigQuiet
import Derived.Handy
import Derived.Test.YtmboaaopmjmdnaaM1
namespace Go.Proofs.Ytmboaaopmjmdnaa
open Go.RowKit

def ints (l : List Int) : List Value := l.map (Value.int .i64)
theorem ints_length (l : List Int) : (ints l).length = l.length := by simp [ints]
theorem ints_get (l : List Int) (j : Nat) : (ints l)[j]? = (l[j]?).map (Value.int .i64) := by simp [ints]
theorem ints_append (a b : List Int) : ints (a ++ b) = ints a ++ ints b := by simp [ints]

/-- What a slice of integers that came in is: nil, or a row of cells. -/
def IsRow (k : IntKind) (w : World) (a : Option Addr) (len cap : Nat) (zs : List Int) : Prop :=
  (a = none ∧ len = 0 ∧ cap = 0 ∧ zs = []) ∨
  ∃ x, a = some x ∧ len ≤ cap ∧ cap ≤ maxLen ∧ zs.length = cap ∧ (∀ i, i < zs.length → w.cell? (x.add i) = some (.int k (zs.getD i 0))) ∧ ∀ n ∈ zs, (Lit.int k n).wf = true

/-- The slice value reads as l in w; its cells lie in a block below B. -/
structure Sl (w : World) (B : Nat) (A : Option Addr) (n cap : Nat) (l : List Int) : Prop where
  len : l.length = n
  le : n ≤ cap
  max : cap ≤ maxLen
  at_ : 0 < n → ∃ b o, A = some ⟨b, o, none⟩ ∧ b < B ∧ ∀ j, j < n → w.cell? ⟨b, o + j, none⟩ = some (.int .i64 (l.getD j 0))

/-- The call owns the row: fresh cells from block 'base' on, which read as l. -/
def Own (w : World) (base : Nat) (A : Option Addr) (n cap : Nat) (l : List Int) : Prop :=
  w.ownsRow base 3 1 (.slice A n cap) n (ints l)

section
variable {w w' : World} {B base : Nat} {A : Option Addr} {n cap : Nat} {l : List Int}
theorem Own.length (h : Own w base A n cap l) : l.length = n := by have := h.1; rw [ints_length] at this; omega
theorem Own.sl (h : Own w base A n cap l) : Sl w w.heap.size A n cap l := by
  have hl := h.length
  rcases h.2 with ⟨hv, hn⟩ | ⟨g, c, cur, hv, hb, hg, hnc, hcm, hcs, htake⟩
  · simp only [Value.slice.injEq] at hv
    obtain ⟨rfl, rfl, rfl⟩ := hv
    exact ⟨hl, Nat.le_refl _, by unfold maxLen; omega, fun h => absurd h (by omega)⟩
  · simp only [Value.slice.injEq, true_and] at hv
    obtain ⟨rfl, rfl⟩ := hv
    refine ⟨hl, hnc, hcm, fun _ => ⟨g, 0, rfl, (Array.getElem?_eq_some_iff.1 hg).1, fun j hj => ?_⟩⟩
    have hc := World.ownsRow.cellAt (g := g) h j (by omega)
    rw [Nat.zero_add, hc, ints_get, List.getD_eq_getElem?_getD, List.getElem?_eq_getElem (by omega)]
    rfl
theorem Sl.below (h : Sl w B A n cap l) (hb : Below B w w') : Sl w' B A n cap l :=
  ⟨h.len, h.le, h.max, fun hn => by
    obtain ⟨b, o, e, hlt, hc⟩ := h.at_ hn
    exact ⟨b, o, e, hlt, fun j hj => (hb.cell (p := ⟨b, o + j, none⟩) hlt).trans (hc j hj)⟩⟩
theorem Sl.drew (h : Sl w B A n cap l) : Sl w.drew B A n cap l := ⟨h.len, h.le, h.max, h.at_⟩
theorem Sl.drewN (h : Sl w B A n cap l) (m : Nat) : Sl (w.drewN m) B A n cap l := ⟨h.len, h.le, h.max, h.at_⟩
theorem Sl.more {B' : Nat} (h : Sl w B A n cap l) (hB : B ≤ B') : Sl w B' A n cap l :=
  ⟨h.len, h.le, h.max, fun hn => by
    obtain ⟨b, o, e, hlt, hc⟩ := h.at_ hn
    exact ⟨b, o, e, by omega, hc⟩⟩
theorem Sl.get {k : Nat} (h : Sl w B A n cap l) (hk : k < n) :
    ∃ b o x, A = some ⟨b, o, none⟩ ∧ b < B ∧ l[k]? = some x ∧ w.cell? ⟨b, o + k, none⟩ = some (.int .i64 x) := by
  obtain ⟨b, o, e, hlt, hc⟩ := h.at_ (by omega)
  have hl := h.len
  refine ⟨b, o, l[k]'(by omega), e, hlt, List.getElem?_eq_getElem _, ?_⟩
  rw [hc k hk, List.getD_eq_getElem?_getD, List.getElem?_eq_getElem (by omega)]
  rfl
/-- Behind whatever leaves what lay below B alone. -/
theorem Own.below {B : Nat} (h : Own w base A n cap l) (hb : Below B w w') (hB : w.heap.size ≤ B) : Own w' base A n cap l := by
  refine ⟨h.1, ?_⟩
  rcases h.2 with hv | ⟨g, c, cur, hv, hg, hh, r⟩
  · exact .inl hv
  · exact .inr ⟨g, c, cur, hv, hg, (hb.block g (by have := (Array.getElem?_eq_some_iff.1 hh).1; omega)).trans hh, r⟩
theorem Own.base_le {base' : Nat} (h : Own w base A n cap l) (hB : base' ≤ base) : Own w base' A n cap l := by
  refine ⟨h.1, ?_⟩
  rcases h.2 with hv | ⟨g, c, cur, hv, hg, r⟩
  · exact .inl hv
  · exact .inr ⟨g, c, cur, hv, by omega, r⟩
theorem Own.le (h : Own w base A n cap l) : n ≤ cap := h.sl.le
theorem Own.form (h : Own w base A n cap l) (hn : 0 < n) : ∃ g, A = some ⟨g, 0, none⟩ ∧ base ≤ g ∧ g < w.heap.size := by
  rcases h.2 with ⟨hv, hn'⟩ | ⟨g, c, cur, hv, hg, hh, r⟩
  · omega
  · simp only [Value.slice.injEq] at hv
    exact ⟨g, hv.1, hg, (Array.getElem?_eq_some_iff.1 hh).1⟩
end

theorem made_ints (n : Nat) : (madeCells (Value.int .i64 0).cells (n * 1)).toList = ints (List.replicate n 0) := by
  apply List.ext_getElem
  · simp [madeCells, ints]
  · intro i h1 h2
    have e : i % (Value.int .i64 0).cells.size = 0 := by show i % 1 = 0; omega
    simp [madeCells, ints, e]
    rfl
theorem block_add (a : Addr) (n : Nat) : (a.add n).block = a.block := by unfold Addr.add; split <;> rfl
/-- The row that the call owns: its cell j, and that it may be written. -/
theorem Own.cell {w : World} {base g n cap : Nat} {l : List Int} (h : Own w base (some ⟨g, 0, none⟩) n cap l) {j : Nat} {x : Int} (hx : l[j]? = some x) : w.cell? ⟨g, j, none⟩ = some (.int .i64 x) := by
  have hl := h.length
  have hj : j < l.length := (List.getElem?_eq_some_iff.1 hx).1
  rw [World.ownsRow.cellAt (g := g) h j (by omega), ints_get, hx]; rfl
theorem Own.free {w : World} {base g n cap : Nat} {l : List Int} (h : Own w base (some ⟨g, 0, none⟩) n cap l) (j : Nat) : w.frozen? ⟨g, j, none⟩ = false :=
  World.ownsRow.frozenAt (g := g) h j
theorem Own.set {w : World} {base g n cap : Nat} {l : List Int} (h : Own w base (some ⟨g, 0, none⟩) n cap l) (j : Nat) (x : Int) :
    Own (w.setCell ⟨g, j, none⟩ (.int .i64 x)) base (some ⟨g, 0, none⟩) n cap (l.set j x) := by
  have := (World.ownsRow.stored (g := g) h j (.int .i64 x)).1
  unfold Own
  rw [show ints (l.set j x) = (ints l).set j (.int .i64 x) from by simp [ints]]
  exact this
theorem Own.drew {w : World} {base : Nat} {A : Option Addr} {n cap : Nat} {l : List Int} (h : Own w base A n cap l) : Own w.drew base A n cap l := h
theorem Own.drewN {w : World} {base : Nat} {A : Option Addr} {n cap : Nat} {l : List Int} (h : Own w base A n cap l) (k : Nat) : Own (w.drewN k) base A n cap l := h
theorem Own.alloc {w : World} {base : Nat} {A : Option Addr} {n cap : Nat} {l : List Int} (h : Own w base A n cap l) (o : Obj) : Own (w.alloc o) base A n cap l := World.ownsRow.alloc h o
theorem fill_get (zs : List Int) (k n : Nat) (hk : k < n) (hz : n ≤ zs.length) : (zs.take k ++ List.replicate (n - k) 0)[k]? = some 0 := by
  have h1 : (zs.take k).length = k := by rw [List.length_take]; omega
  rw [List.getElem?_append_right (by omega), h1, Nat.sub_self, List.getElem?_replicate, if_pos (by omega)]
theorem fill_set (zs : List Int) (k n : Nat) (hk : k < n) (hz : n ≤ zs.length) (y : Int) (hy : zs[k]? = some y) :
    (zs.take k ++ List.replicate (n - k) 0).set k y = zs.take (k + 1) ++ List.replicate (n - (k + 1)) 0 := by
  have h1 : (zs.take k).length = k := by rw [List.length_take]; omega
  rw [List.set_append_right _ _ (by omega), h1, Nat.sub_self, show n - k = (n - (k + 1)) + 1 from by omega, List.replicate_succ, List.set_cons_zero, List.take_add_one, hy]
  simp
theorem below_drewN {B : Nat} {a w : World} (h : Below B a w) (n : Nat) : Below B a (w.drewN n) := ⟨h.os, h.tape, h.output, h.size, h.block⟩

/-! int's bits. -/
theorem ofInt_i64 (a : Nat) (ha : a < 9223372036854775808) : (BitVec.ofInt 64 (a : Int)).toNat = a := by
  rw [BitVec.ofInt_natCast, BitVec.toNat_ofNat]; exact Nat.mod_eq_of_lt (by omega)
theorem i64_and (a b : Nat) (ha : a < 9223372036854775808) (hb : b < 9223372036854775808) : bits .and .i64 (a : Int) (b : Int) = ((a &&& b : Nat) : Int) := by
  have hx : a &&& b < 2 ^ 63 := Nat.and_lt_two_pow _ (by omega)
  show IntKind.i64.wrap ((BitVec.ofInt 64 (a : Int) &&& BitVec.ofInt 64 (b : Int)).toNat : Int) = _
  rw [BitVec.toNat_and, ofInt_i64 a ha, ofInt_i64 b hb, IntKind.wrap_i64]
  omega
theorem i64_or (a b : Nat) (ha : a < 9223372036854775808) (hb : b < 9223372036854775808) : bits .or .i64 (a : Int) (b : Int) = ((a ||| b : Nat) : Int) := by
  have hx : a ||| b < 2 ^ 63 := Nat.or_lt_two_pow (by omega) (by omega)
  show IntKind.i64.wrap ((BitVec.ofInt 64 (a : Int) ||| BitVec.ofInt 64 (b : Int)).toNat : Int) = _
  rw [BitVec.toNat_or, ofInt_i64 a ha, ofInt_i64 b hb, IntKind.wrap_i64]
  omega
theorem i64_xor (a b : Nat) (ha : a < 9223372036854775808) (hb : b < 9223372036854775808) : bits .xor .i64 (a : Int) (b : Int) = ((a ^^^ b : Nat) : Int) := by
  have hx : a ^^^ b < 2 ^ 63 := Nat.xor_lt_two_pow (by omega) (by omega)
  show IntKind.i64.wrap ((BitVec.ofInt 64 (a : Int) ^^^ BitVec.ofInt 64 (b : Int)).toNat : Int) = _
  rw [BitVec.toNat_xor, ofInt_i64 a ha, ofInt_i64 b hb, IntKind.wrap_i64]
  omega
theorem i64_bit (n i : Nat) (hn : n < 9223372036854775808) : bits .and .i64 ((n : Int) / 2 ^ i) 1 = (bt n i : Int) := by
  have e : ((n : Int) / 2 ^ i) = ((n >>> i : Nat) : Int) := by rw [Nat.shiftRight_eq_div_pow]; simp
  rw [e, bt_eq]
  exact i64_and (n >>> i) 1 (by have := Nat.shiftRight_le n i; omega) (by omega)
theorem two_pow (p : Nat) : ((2 : Int) ^ p) = ((1 <<< p : Nat) : Int) := by rw [Nat.one_shiftLeft]; simp
theorem wrap_small (n : Nat) (hn : n < 9223372036854775808) : wrap64 (n : Int) = (n : Int) := by unfold wrap64; omega
theorem i64_two (p : Nat) (hp : p < 24) : wrap64 (2 ^ p) = ((1 <<< p : Nat) : Int) := by
  rw [two_pow]; exact wrap_small _ (by have := one_shl_lt hp; omega)
theorem i64_put (a p : Nat) (ha : a < 16777216) (hp : p < 24) : bits .or .i64 (a : Int) (wrap64 (2 ^ p)) = ((a ||| 1 <<< p : Nat) : Int) := by
  rw [i64_two p hp]; exact i64_or _ _ (by omega) (by have := one_shl_lt hp; omega)
theorem i64_plus2 (a p : Nat) (ha : a < 16777216) (hp : p < 24) : wrap64 ((a : Int) + wrap64 (2 ^ p)) = ((a + 1 <<< p : Nat) : Int) := by
  rw [i64_two p hp]; have := one_shl_lt hp; generalize 1 <<< p = q at *; unfold wrap64; omega
theorem IsRow.below {k : IntKind} {w w' : World} {A : Option Addr} {n cap : Nat} {zs : List Int} (h : IsRow k w A n cap zs) (hb : Below w.heap.size w w') : IsRow k w' A n cap zs := by
  rcases h with h | ⟨x, rfl, hlc, hcm, hzl, hcell, hw⟩
  · exact .inl h
  · exact .inr ⟨x, rfl, hlc, hcm, hzl, fun i hi => (hb.cell (World.block_lt_of_cell? w _ (hcell i hi))).trans (hcell i hi), hw⟩
theorem below_to {B : Nat} {a b c : World} (h : Below B a b) (k : Below b.heap.size b c) (hB : B ≤ a.heap.size) : Below B a c := h.trans (k.mono (Nat.le_trans hB h.size))
/-- Only the row at A, and what is new, has turned. -/
def Only (w w' : World) (A : Option Addr) : Prop := w.grownBy w' (A.map (·.block))
theorem Only.refl (w : World) (A : Option Addr) : Only w w A := ⟨rfl, rfl, rfl, Nat.le_refl _, fun _ _ _ => rfl⟩
theorem Only.trans {a b c : World} {A : Option Addr} (h : Only a b A) (k : Only b c A) : Only a c A :=
  ⟨k.os.trans h.os, k.tape.trans h.tape, k.output.trans h.output, Nat.le_trans h.size k.size, fun i hi hn => (k.block i (Nat.lt_of_lt_of_le hi h.size) hn).trans (h.block i hi hn)⟩
theorem Only.setCell {a w : World} {g : Nat} (h : Only a w (some ⟨g, 0, none⟩)) (j : Nat) (u : Value) : Only a (w.setCell ⟨g, j, none⟩ u) (some ⟨g, 0, none⟩) :=
  ⟨h.os, h.tape, h.output, by simpa [World.setCell] using h.size, fun i hi hne => (Below.heap_setCell w ⟨g, j, none⟩ u i (by
    rintro rfl
    exact hne rfl)).trans (h.block i hi hne)⟩
theorem Only.below {w w' : World} {A : Option Addr} {B : Nat} (h : Only w w' A) (hB : B ≤ w.heap.size) (hA : ∀ x, A = some x → B ≤ x.block) : Below B w w' :=
  ⟨h.os, h.tape, h.output, h.size, fun k hk => h.block k (by omega) (fun e => by
    cases A with
    | none => cases e
    | some x => have := hA x rfl; simp at e; omega)⟩
theorem Own.at_base {w : World} {base : Nat} {A : Option Addr} {n cap : Nat} {l : List Int} (h : Own w base A n cap l) : ∀ x, A = some x → base ≤ x.block := by
  rintro x rfl
  rcases h.2 with ⟨hv, _⟩ | ⟨g, c, cur, hv, hb, _⟩
  · cases hv
  · simp only [Value.slice.injEq, Option.some.injEq] at hv
    rw [hv.1]; exact hb
theorem Own.at_lt {w : World} {base : Nat} {A : Option Addr} {n cap : Nat} {l : List Int} (h : Own w base A n cap l) : ∀ x, A = some x → x.block < w.heap.size := by
  rintro x rfl
  rcases h.2 with ⟨hv, _⟩ | ⟨g, c, cur, hv, hb, hg, _⟩
  · cases hv
  · simp only [Value.slice.injEq, Option.some.injEq] at hv
    rw [hv.1]; exact (Array.getElem?_eq_some_iff.1 hg).1
/-- What the call owns stays as it is while another row is written. -/
theorem Own.only {w w' : World} {base : Nat} {A A' : Option Addr} {n cap : Nat} {l : List Int} (h : Own w base A n cap l) (hg : Only w w' A') (hne : ∀ x y, A = some x → A' = some y → x.block ≠ y.block) : Own w' base A n cap l := by
  refine World.ownsRow.kept h hg ?_
  cases A with
  | none => exact .inl rfl
  | some x =>
    refine .inr ?_
    cases A' with
    | none => simp [Value.ownBlock]
    | some y => have := hne x y rfl rfl; simpa [Value.ownBlock] using this
theorem Own.lit (w : World) (l : List Int) (hl : l.length ≤ 1048576) : Own (w.alloc (.cells (ints l).toArray 3)) w.heap.size (some ⟨w.heap.size, 0, none⟩) l.length l.length l := by
  have := World.ownsRow_lit (base := w.heap.size) (e := 3) (size := 1) w (ints l).toArray l.length (Nat.le_refl _) (by unfold maxLen; omega) (by simp [ints])
  simpa [Own] using this
theorem Own.empty (w : World) (base g : Nat) (hg : w.heap.size = g) (hb : base ≤ g) : Own (w.alloc (.cells #[] 3)) base (some ⟨g, 0, none⟩) 0 0 [] := by
  subst hg; exact (Own.lit w [] (by decide)).base_le hb
/-- The call hands back a new slice that reads as l (with a bool), and what was there stays. -/
def Makes (l : List Int) (w : World) (e : Ending) (w' : World) : Prop := ∃ A n cap, e = .returned (.slice A n cap) ∧ Own w' w.heap.size A n cap l ∧ Below w.heap.size w w'
def MakesB (l : List Int) (ok : Bool) (w : World) (e : Ending) (w' : World) : Prop := ∃ A n cap, e = .returned (.tuple #[.slice A n cap, .bool ok]) ∧ Own w' w.heap.size A n cap l ∧ Below w.heap.size w w'
/-- k, k + 1, .. -/
def upFrom (k : Int) : Nat → List Int
  | 0 => []
  | n + 1 => upFrom k n ++ [k + n]
theorem upFrom_length (k : Int) (n : Nat) : (upFrom k n).length = n := by
  induction n with
  | zero => rfl
  | succ n ih => simp [upFrom, ih]
theorem upFrom_get (k : Int) (n j : Nat) (hj : j < n) : (upFrom k n)[j]? = some (k + j) := by
  induction n with
  | zero => omega
  | succ n ih =>
    simp only [upFrom]
    by_cases h : j < n
    · rw [List.getElem?_append_left (by rw [upFrom_length]; exact h), ih h]
    · obtain rfl : j = n := by omega
      rw [List.getElem?_append_right (by rw [upFrom_length]; exact Nat.le_refl _), upFrom_length, Nat.sub_self]
      rfl
theorem quiet_add_left {P : Program} {f : FuncId} {args : Array Value} {w : World} {a n : Nat} {v : Value}
    (h : Calls P f args (w.drewN (a + n)) fun e w' => e = .returned v ∧ w.drewN (a + n) = w') :
    Calls P f args (w.drewN (a + n)) fun e w'' => e = .returned v ∧ ∃ m, w'' = w.drewN (a + m) :=
  h.mono fun _ _ ⟨he, hm⟩ => ⟨he, n, hm.symm⟩
theorem quiet_left {P : Program} {f : FuncId} {args : Array Value} {w : World} {n : Nat} {v : Value}
    (h : Calls P f args (w.drewN n) fun e w' => e = .returned v ∧ w.drewN n = w') : Calls P f args (w.drewN n) fun e w'' => e = .returned v ∧ ∃ m, w'' = w.drewN m :=
  h.mono fun _ _ ⟨he, hm⟩ => ⟨he, n, hm.symm⟩
theorem ret_eq {a b : Value} (h : a = b) : Ending.returned a = Ending.returned b := by rw [h]
theorem int_eq {k : IntKind} {a b : Int} (h : a = b) : Value.int k a = Value.int k b := by rw [h]
theorem bool_eq {a b : Bool} (h : a = b) : Value.bool a = Value.bool b := by rw [h]
end Go.Proofs.Ytmboaaopmjmdnaa
