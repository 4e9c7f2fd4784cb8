/- Laws for 'append(append(append([]int{}, a[:k]...), x), a[k:]...)' inside a region that draws its order. -/
import Derived.Test.YtmboaaopmjmdnaaB4
import Derived.Test.YtmboaaopmjmdnaaB2
namespace Go.Proofs.Ytmboaaopmjmdnaa
open Go.RowKit

theorem map_block (A : Option Addr) (n cap : Nat) : (Value.slice A n cap).ownBlock = A.map (·.block) := by cases A <;> rfl

/-- 'append(s, x...)' for a row s that the call owns; x may be empty. -/
theorem st_cat (w : World) {ops : Array Oper} {o : Oper} {a : Act} {K : Act → World → Prop} {Q : Exit → Act → World → Prop} {E : Prop} (hgd : o.guard = none) (s x : Operand)
    (ho : o.op = .call { callee := .builtin .append, args := #[s, x], argTypes := #[28, 28] })
    (base : Nat) (A : Option Addr) (n cap : Nat) (l : List Int) (hs : a.eval s = .slice A n cap) (hown : Own w base A n cap l)
    (ad : Addr) (m c : Nat) (ls : List Int) (hx : a.eval x = .slice (some ad) m c) (hl : ls.length = m) (hsrc : ∀ j y, ls[j]? = some y → w.cell? (ad.add j) = some (.int .i64 y)) (hn : n + m ≤ 1048576) (hbase : base ≤ w.heap.size)
    (h : ∀ A' cap' w', Own w' base A' (n + m) cap' (l ++ ls) → Only w w' A → (A'.map (·.block) = A.map (·.block) ∨ A'.map (·.block) = some w.heap.size) → K (a.put o.dst (.slice A' (n + m) cap')) w') :
    if Region.wanted o (yielded ops a.tmps) = true then Oper.wp Try.prog o a w K Q else E := by
  obtain ⟨i0, hi, hz0, hz1, hz2⟩ := info_parts info3
  have hw : Region.wanted o (yielded ops a.tmps) = true := by simp [Region.wanted, hgd]
  rw [if_pos hw]
  obtain ⟨v', w', hr, h2, h3, _, h5⟩ := run_append_own_at (P := Try.prog) w base 28 o.type 3 i0 (.int .i64 0) 1 8 Try.underlying28 hi hz0 hz1 hz2 rfl (by decide) (.slice A n cap) n (ints l) hown ad m c (ints ls) (by rw [ints_length]; omega)
    (by
      intro j u hj
      rw [ints_get] at hj
      cases hy : ls[j]? with
      | none => rw [hy] at hj; cases hj
      | some y => rw [hy] at hj; injection hj with hj; subst hj; exact hsrc j y hy)
    (by intro u hu; simp only [ints, List.mem_map] at hu; obtain ⟨z, _, rfl⟩ := hu; rfl)
    (by unfold maxLen; omega) (by omega) hbase
  have hsh : ∃ A' cap', v' = .slice A' (n + m) cap' := by
    rcases h2.2 with ⟨hv, hn'⟩ | ⟨g', cap', cur, hv, _⟩
    · exact ⟨none, 0, by rw [hn']; exact hv⟩
    · exact ⟨_, _, hv⟩
  obtain ⟨A', cap', rfl⟩ := hsh
  rw [map_block, map_block] at h5
  rw [map_block] at h3
  unfold Oper.wp execOp
  simp only [ho, resolve, invoke, builtin, Sem.run_bind, Sem.run_pure, Result.andThen_ok, List.map_toArray, List.map_cons, List.map_nil, hs, hx, hr]
  exact h A' cap' w' (by unfold Own; rw [ints_append]; exact h2) h3 h5

/-- A row that the call has made since wr. -/
structure Pre (wr w1 : World) (A : Option Addr) (n cap : Nat) (l : List Int) : Prop where
  own : Own w1 wr.heap.size A n cap l
  below : Below wr.heap.size wr w1
/-- The same, and beside it the number y in a block of its own. -/
structure Mid (wr w1 : World) (A : Option Addr) (n cap : Nat) (l : List Int) (g : Nat) (y : Int) : Prop extends Pre wr w1 A n cap l where
  cell : w1.cell? ⟨g, 0, none⟩ = some (.int .i64 y)
  lt : g < w1.heap.size
  far : ∀ p, A = some p → p.block ≠ g

theorem Sl.src {w : World} {ad : Addr} {n cap : Nat} {l : List Int} (h : Sl w w.heap.size (some ad) n cap l) {w' : World} (hb : Below w.heap.size w w') : ∀ j y, l[j]? = some y → w'.cell? (ad.add j) = some (.int .i64 y) := by
  intro j y hy
  have hj := (List.getElem?_eq_some_iff.1 hy).1
  have hl := h.len
  obtain ⟨b, o, e, hlt, hc⟩ := h.at_ (by omega)
  injection e with e
  subst e
  have := hc j (by omega)
  rw [List.getD_eq_getElem?_getD, hy, Option.getD_some] at this
  have e : (⟨b, o, none⟩ : Addr).add j = ⟨b, o + j, none⟩ := by simp [Addr.add]
  rw [e]
  exact (hb.cell (p := ⟨b, o + j, none⟩) hlt).trans this
theorem Pre.next {wr w1 w2 : World} {A A2 : Option Addr} {n cap n2 cap2 : Nat} {l l2 : List Int} (h : Pre wr w1 A n cap l) (ho : Own w2 wr.heap.size A2 n2 cap2 l2) (hb : Only w1 w2 A) : Pre wr w2 A2 n2 cap2 l2 :=
  ⟨ho, h.below.trans (hb.below h.below.size h.own.at_base)⟩
theorem Pre.alloc {wr w1 : World} {A : Option Addr} {n cap : Nat} {l : List Int} (h : Pre wr w1 A n cap l) (o : Obj) : Pre wr (w1.alloc o) A n cap l :=
  ⟨h.own.alloc o, h.below.alloc h.below.size o⟩
theorem Pre.mid {wr w1 : World} {A : Option Addr} {n cap : Nat} {l : List Int} (h : Pre wr w1 A n cap l) (y : Int) : Mid wr (w1.alloc (.cells #[.int .i64 y] 3)) A n cap l w1.heap.size y := by
  refine { toPre := h.alloc _, cell := ?_, lt := by simp, far := fun p hp => ?_ }
  · rw [World.cell?_alloc_at _ _ _ _ rfl]; rfl
  · have := h.own.at_lt p hp; omega
theorem pre0 (wr : World) : Pre wr (wr.drew.alloc (.cells #[] 3)) (some ⟨wr.heap.size, 0, none⟩) 0 0 [] :=
  ⟨Own.empty wr.drew _ _ rfl (Nat.le_refl _), ((Below.refl _ _).drew).alloc (Nat.le_refl _) _⟩
theorem mid1 (wr : World) (y : Int) : Mid wr ((wr.drew.alloc (.cells #[] 3)).alloc (.cells #[.int .i64 y] 3)) (some ⟨wr.heap.size, 0, none⟩) 0 0 [] (wr.heap.size + 1) y := by
  have h := (pre0 wr).mid y
  have e : (wr.drew.alloc (.cells #[] 3)).heap.size = wr.heap.size + 1 := by simp
  rwa [e] at h
theorem mid2 (wr : World) (y : Int) : Mid wr ((wr.drew.alloc (.cells #[.int .i64 y] 3)).alloc (.cells #[] 3)) (some ⟨wr.heap.size + 1, 0, none⟩) 0 0 [] wr.heap.size y := by
  have e : (wr.drew.alloc (.cells #[.int .i64 y] 3)).heap.size = wr.heap.size + 1 := by simp
  have hb : Below wr.heap.size wr (wr.drew.alloc (.cells #[.int .i64 y] 3)) := ((Below.refl _ _).drew).alloc (Nat.le_refl _) _
  refine { own := Own.empty _ _ _ e (by omega), below := hb.alloc (by omega) _, cell := ?_, lt := by simp; omega, far := fun p hp => ?_ }
  · have hb2 : Below (wr.heap.size + 1) (wr.drew.alloc (.cells #[.int .i64 y] 3)) ((wr.drew.alloc (.cells #[.int .i64 y] 3)).alloc (.cells #[] 3)) := (Below.refl _ _).alloc (by omega) _
    rw [hb2.cell (p := ⟨wr.heap.size, 0, none⟩) (by show wr.heap.size < wr.heap.size + 1; omega)]
    exact app_cell wr y
  · injection hp with hp
    subst hp
    simp

section
variable {ops : Array Oper} {o : Oper} {a : Act} {K : Act → World → Prop} {Q : Exit → Act → World → Prop} {E : Prop}

/-- More of another row, that was there ahead of the region. -/
theorem cat_row (wr w1 : World) (hgd : o.guard = none) (s x : Operand)
    (ho : o.op = .call { callee := .builtin .append, args := #[s, x], argTypes := #[28, 28] })
    {A : Option Addr} {n cap : Nat} {l : List Int} (hp : Pre wr w1 A n cap l) (hs : a.eval s = .slice A n cap)
    {ad : Addr} {m c0 : Nat} {ls : List Int} (hS : Sl wr wr.heap.size (some ad) m c0 ls) (c : Nat) (hx : a.eval x = .slice (some ad) m c) (N : Nat) (hN : n + m = N) (hn : N ≤ 1048576)
    (h : ∀ A' cap' w', Pre wr w' A' N cap' (l ++ ls) → K (a.put o.dst (.slice A' N cap')) w') :
    if Region.wanted o (yielded ops a.tmps) = true then Oper.wp Try.prog o a w1 K Q else E := by
  subst hN
  exact st_cat w1 hgd s x ho wr.heap.size A n cap l hs hp.own ad m c ls hx hS.len (hS.src hp.below) hn hp.below.size fun A' cap' w' h1 h2 _ => h A' cap' w' (hp.next h1 h2)

/-- The same, with a number beside. -/
theorem cat_row' (wr w1 : World) (hgd : o.guard = none) (s x : Operand)
    (ho : o.op = .call { callee := .builtin .append, args := #[s, x], argTypes := #[28, 28] })
    {A : Option Addr} {n cap : Nat} {l : List Int} {g : Nat} {y : Int} (hp : Mid wr w1 A n cap l g y) (hs : a.eval s = .slice A n cap)
    {ad : Addr} {m c0 : Nat} {ls : List Int} (hS : Sl wr wr.heap.size (some ad) m c0 ls) (c : Nat) (hx : a.eval x = .slice (some ad) m c) (N : Nat) (hN : n + m = N) (hn : N ≤ 1048576)
    (h : ∀ A' cap' w', Mid wr w' A' N cap' (l ++ ls) g y → K (a.put o.dst (.slice A' N cap')) w') :
    if Region.wanted o (yielded ops a.tmps) = true then Oper.wp Try.prog o a w1 K Q else E := by
  subst hN
  exact st_cat w1 hgd s x ho wr.heap.size A n cap l hs hp.own ad m c ls hx hS.len (hS.src hp.below) hn hp.below.size fun A' cap' w' h1 h2 h3 => by
    refine h A' cap' w' { toPre := hp.toPre.next h1 h2, cell := ?_, lt := Nat.lt_of_lt_of_le hp.lt h2.size, far := fun p hp' => ?_ }
    · refine (World.cell?_of_block (w := w1) (a := ⟨g, 0, none⟩) (h2.block g hp.lt ?_)).trans hp.cell
      intro hh
      cases A with
      | none => cases hh
      | some q =>
        simp only [Option.map_some, Option.some.injEq] at hh
        exact hp.far q rfl hh.symm
    · subst hp'
      have hlt := hp.lt
      rcases h3 with h3 | h3
      · cases A with
        | none => cases h3
        | some q =>
          simp only [Option.map_some, Option.some.injEq] at h3
          rw [h3]; exact hp.far q rfl
      · simp only [Option.map_some, Option.some.injEq] at h3
        omega

/-- The number itself. -/
theorem cat_one (wr w1 : World) (hgd : o.guard = none) (s x : Operand)
    (ho : o.op = .call { callee := .builtin .append, args := #[s, x], argTypes := #[28, 28] })
    {A : Option Addr} {n cap : Nat} {l : List Int} {g : Nat} {y : Int} (hp : Mid wr w1 A n cap l g y) (hs : a.eval s = .slice A n cap) (hx : a.eval x = .slice (some ⟨g, 0, none⟩) 1 1) (hn : n + 1 ≤ 1048576)
    (h : ∀ A' cap' w', Pre wr w' A' (n + 1) cap' (l ++ [y]) → K (a.put o.dst (.slice A' (n + 1) cap')) w') :
    if Region.wanted o (yielded ops a.tmps) = true then Oper.wp Try.prog o a w1 K Q else E :=
  st_cat w1 hgd s x ho wr.heap.size A n cap l hs hp.own ⟨g, 0, none⟩ 1 1 [y] hx rfl (by
    intro j z hj
    match j, hj with
    | 0, hj =>
      injection hj with hj
      subst hj
      exact hp.cell) hn hp.below.size fun A' cap' w' h1 h2 _ => h A' cap' w' (hp.toPre.next h1 h2)
end
end Go.Proofs.Ytmboaaopmjmdnaa
