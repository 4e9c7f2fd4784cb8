/- Rows of rows of ints that the call owns: reading them, filling them. -/
import Derived.Test.YtmboaaopmjmdnaaB6
import Derived.Test.YtmboaaopmjmdnaaA5
namespace Go.Proofs.Ytmboaaopmjmdnaa
open Go.RowKit

theorem info35 : (Try.prog.info? 28).map (fun i => (i.zero, i.size, i.bytes)) = some (some (.slice none 0 0), 1, 24) := by kernel_rfl

/-- The three parts of a slice value. -/
structure Sh where
  a : Option Addr
  n : Nat
  c : Nat
def Sh.val (r : Sh) : Value := .slice r.a r.n r.c

/-- The call owns a row of slices, from block base on, and the rows that these are; all lie apart. -/
structure Rows (w : World) (base : Nat) (A : Option Addr) (n cap : Nat) (rs : List Sh) (F : Nat → List Int) : Prop where
  outer : w.ownsRow base 28 1 (.slice A n cap) n (rs.map Sh.val)
  inner : ∀ (i : Nat) (r : Sh), rs[i]? = some r → Own w base r.a r.n r.c (F i)
  far : ∀ (i : Nat) (r : Sh) (p q : Addr), rs[i]? = some r → A = some p → r.a = some q → q.block ≠ p.block
  apart : ∀ (i j : Nat) (r s : Sh) (p q : Addr), i ≠ j → rs[i]? = some r → rs[j]? = some s → r.a = some p → s.a = some q → p.block ≠ q.block

/-- Rows that are read stay, and lie apart from the row that was filled. -/
def Kept (W0 w' : World) (A A' : Option Addr) : Prop := ∀ (Aw : Option Addr) (nw cw : Nat) (lw : List Int), Sl W0 W0.heap.size Aw nw cw lw → Far A Aw nw → Sl w' w'.heap.size Aw nw cw lw ∧ Far A' Aw nw

theorem owns_below {w w' : World} {base e size n : Nat} {v : Value} {xs : List Value} (h : w.ownsRow base e size v n xs) (hb : Below w.heap.size w w') : w'.ownsRow base e size v n xs := by
  refine ⟨h.1, ?_⟩
  rcases h.2 with hv | ⟨g, c, cur, hv, hg, hh, r⟩
  · exact .inl hv
  · exact .inr ⟨g, c, cur, hv, hg, (hb.block g (Array.getElem?_eq_some_iff.1 hh).1).trans hh, r⟩

section
variable {w w' : World} {base : Nat} {A : Option Addr} {n cap : Nat} {rs : List Sh} {F : Nat → List Int}
theorem Rows.length (h : Rows w base A n cap rs F) : rs.length = n := by have := h.outer.1; rw [List.length_map] at this; omega
theorem Rows.below (h : Rows w base A n cap rs F) (hb : Below w.heap.size w w') : Rows w' base A n cap rs F :=
  ⟨owns_below h.outer hb, fun i r hr => (h.inner i r hr).below hb (Nat.le_refl _), h.far, h.apart⟩
theorem Rows.at_base (h : Rows w base A n cap rs F) : ∀ x, A = some x → base ≤ x.block := by
  rintro x rfl
  exact (World.ownsRow.lt h.outer x.block rfl).1
theorem Rows.at_lt (h : Rows w base A n cap rs F) : ∀ x, A = some x → x.block < w.heap.size := by
  rintro x rfl
  exact (World.ownsRow.lt h.outer x.block rfl).2
theorem Rows.base_le {base' : Nat} (h : Rows w base A n cap rs F) (hB : base' ≤ base) : Rows w base' A n cap rs F :=
  ⟨⟨h.outer.1, by
    rcases h.outer.2 with hv | ⟨g, c, cur, hv, hg, r⟩
    · exact .inl hv
    · exact .inr ⟨g, c, cur, hv, by omega, r⟩⟩, fun i r hr => (h.inner i r hr).base_le hB, h.far, h.apart⟩
theorem Rows.cong {G : Nat → List Int} (h : Rows w base A n cap rs F) (hG : ∀ i, i < n → F i = G i) : Rows w base A n cap rs G :=
  ⟨h.outer, fun i r hr => by
    have hi := (List.getElem?_eq_some_iff.1 hr).1
    rw [h.length] at hi
    rw [← hG i hi]; exact h.inner i r hr, h.far, h.apart⟩
theorem Rows.get (h : Rows w base A n cap rs F) {k : Nat} (hk : k < n) :
    ∃ g a m c, A = some ⟨g, 0, none⟩ ∧ base ≤ g ∧ g < w.heap.size ∧ rs[k]? = some ⟨a, m, c⟩ ∧ w.cell? ⟨g, k, none⟩ = some (.slice a m c) ∧ Own w base a m c (F k) := by
  obtain ⟨g, c', hv, h1, h2⟩ := World.ownsRow.form h.outer (by omega)
  simp only [Value.slice.injEq, true_and] at hv
  obtain ⟨rfl, rfl⟩ := hv
  have hl := h.length
  have hr : rs[k]? = some (rs[k]'(by omega)) := List.getElem?_eq_getElem _
  generalize rs[k]'(by omega) = r at hr
  obtain ⟨a, m, c⟩ := r
  refine ⟨g, a, m, c, rfl, h1, h2, hr, ?_, h.inner k _ hr⟩
  rw [World.ownsRow.cellAt (g := g) h.outer k (by omega), List.getElem?_map, hr]
  rfl
theorem Rows.empty (w : World) (base g : Nat) (F : Nat → List Int) (hg : w.heap.size = g) (hb : base ≤ g) : Rows (w.alloc (.cells #[] 28)) base (some ⟨g, 0, none⟩) 0 0 [] F := by
  subst hg
  have := World.ownsRow_lit (base := base) (e := 28) (size := 1) w #[] 0 hb (by unfold maxLen; omega) rfl
  exact ⟨by simpa using this, fun i r hr => by simp at hr, fun i r p q hr => by simp at hr, fun i j r s p q _ hr => by simp at hr⟩
theorem Rows.alloc (h : Rows w base A n cap rs F) (o : Obj) : Rows (w.alloc o) base A n cap rs F := h.below ((Below.refl _ _).alloc (Nat.le_refl _) o)
end

theorem get_snoc {rs : List Sh} {r s : Sh} {i : Nat} (h : (rs ++ [r])[i]? = some s) : rs[i]? = some s ∧ i < rs.length ∨ i = rs.length ∧ s = r := by
  rcases Nat.lt_or_ge i rs.length with h1 | h1
  · rw [List.getElem?_append_left h1] at h
    exact .inl ⟨h, h1⟩
  · rw [List.getElem?_append_right h1] at h
    have h2 := (List.getElem?_eq_some_iff.1 h).1
    simp at h2
    obtain rfl : i = rs.length := by omega
    rw [Nat.sub_self] at h
    injection h with h
    exact .inr ⟨rfl, h.symm⟩

/-- 'out = append(out, row)': the row has been made since W0, the header has just been laid. -/
theorem wl_rows (W0 wr : World) {ops : Array Oper} {rest : List Oper} {o : Oper} {a : Act} {Q : Exit → Act → World → Prop} (hgd : o.guard = none) (s x : Operand)
    (ho : o.op = .call { callee := .builtin .append, args := #[s, x], argTypes := #[24, 24] })
    (base : Nat) (A : Option Addr) (n cap : Nat) (rs : List Sh) (F : Nat → List Int) (hR : Rows W0 base A n cap rs F) (hb : Below W0.heap.size W0 wr)
    (B : Option Addr) (m c : Nat) (row : Own wr W0.heap.size B m c (F n)) (hs : a.eval s = .slice A n cap)
    (hx : a.eval x = .slice (some ⟨wr.heap.size, 0, none⟩) 1 1) (hn : n ≤ 1000) (hbase : base ≤ W0.heap.size)
    (h : ∀ A' cap' w', Rows w' base A' (n + 1) cap' (rs ++ [⟨B, m, c⟩]) F → Kept W0 w' A A' → Below base W0 w' → wpList Try.prog ops Q rest (a.put o.dst (.slice A' (n + 1) cap')) w') :
    wpList Try.prog ops Q (o :: rest) a (wr.alloc (.cells #[.slice B m c] 28)) := by
  obtain ⟨i0, hi, hz0, hz1, hz2⟩ := info_parts info35
  have hbw : Below W0.heap.size W0 (wr.alloc (.cells #[.slice B m c] 28)) := hb.alloc hb.size _
  have hsz : (wr.alloc (.cells #[.slice B m c] 28)).heap.size = wr.heap.size + 1 := by simp
  have hw1 := hb.size
  have R1 := hR.below hbw
  have row1 := row.alloc (.cells #[.slice B m c] 28)
  refine wpList_append_own_at (w := wr.alloc (.cells #[.slice B m c] 28)) hgd s x 24 ho base 28 i0 (.slice none 0 0) 1 24 Try.underlying24 hi hz0 hz1 hz2 rfl (by decide) (.slice A n cap) n (rs.map Sh.val) hs R1.outer ⟨wr.heap.size, 0, none⟩ 1 1 [.slice B m c] hx rfl ?_ ?_ ?_ ?_ (by simp; omega) ?_
  · intro j u hj
    match j, hj with
    | 0, hj => simp at hj; subst hj; rw [show (⟨wr.heap.size, 0, none⟩ : Addr).add 0 = ⟨wr.heap.size, 0, none⟩ from rfl, World.cell?_alloc_at _ _ _ _ rfl]; rfl
  · intro u hu; simp at hu; subst hu; rfl
  · unfold maxLen; omega
  · omega
  · intro v' w' hown' hgrow _ hat
    have hsh : ∃ A' cap', v' = .slice A' (n + 1) cap' := by
      rcases hown'.2 with ⟨_, hn'⟩ | ⟨g', cap', cur, hv, _⟩
      · omega
      · exact ⟨_, _, hv⟩
    obtain ⟨A', cap', rfl⟩ := hsh
    rw [map_block, map_block] at hat
    rw [map_block] at hgrow
    have honly : Only (wr.alloc (.cells #[.slice B m c] 28)) w' A := hgrow
    have hlen := hR.length
    have hAlt := hR.at_lt
    have hsz2 : (wr.alloc (.cells #[.slice B m c] 28)).heap.size ≤ w'.heap.size := honly.size
    have hA' : ∀ p q, A' = some p → (q < wr.heap.size + 1) → (∀ x, A = some x → q ≠ x.block) → q ≠ p.block := by
      rintro p q rfl hq hA hh
      rcases hat with hat | hat
      · cases A with
        | none => cases hat
        | some z =>
          simp only [Option.map_some, Option.some.injEq] at hat
          exact hA z rfl (hh.trans hat)
      · simp only [Option.map_some, Option.some.injEq] at hat
        omega
    refine h A' cap' w' ⟨?_, ?_, ?_, ?_⟩ ?_ ?_
    · rw [List.map_append]; exact hown'
    · intro i r hr
      rcases get_snoc hr with ⟨hr, _⟩ | ⟨rfl, rfl⟩
      · exact (R1.inner i r hr).only honly fun x y hx hy => R1.far i r y x hr hy hx
      · rw [hlen]
        refine (row1.base_le hbase).only honly fun x y hx hy => ?_
        have h1 := row.at_base x hx
        have h2 := hAlt y hy
        omega
    · intro i r p q hr hp hq
      rcases get_snoc hr with ⟨hr, _⟩ | ⟨rfl, rfl⟩
      · have h1 := (R1.inner i r hr).at_lt q hq
        exact hA' p q.block hp (by omega) fun x hx => R1.far i r x q hr hx hq
      · have h1 := row1.at_lt q hq
        have h2 := row.at_base q hq
        exact hA' p q.block hp (by omega) fun x hx => by have := hAlt x hx; omega
    · intro i j r t p q hij hr ht hp hq
      rcases get_snoc hr with ⟨hr, h1⟩ | ⟨rfl, rfl⟩
      · rcases get_snoc ht with ⟨ht, _⟩ | ⟨rfl, rfl⟩
        · exact R1.apart i j r t p q hij hr ht hp hq
        · have h2 := (hR.inner i r hr).at_lt p hp
          have h3 := row.at_base q hq
          omega
      · rcases get_snoc ht with ⟨ht, h1⟩ | ⟨rfl, rfl⟩
        · have h2 := (hR.inner j t ht).at_lt q hq
          have h3 := row.at_base p hp
          omega
        · exact absurd rfl hij
    · intro Aw nw cw lw hS hf
      have hS1 := (hS.below hbw).only honly (by omega) hf
      refine ⟨hS1.more (by omega), fun hnw p q hp hq => ?_⟩
      obtain ⟨b, o', e, hblt, _⟩ := hS.at_ hnw
      rw [e] at hq
      injection hq with hq
      subst hq
      exact fun hh => hA' p b hp (by omega) (fun x hx => fun h2 => hf hnw x _ hx e h2.symm) hh.symm
    · refine (hbw.mono hbase).trans (honly.below (by omega) (hR.at_base))
end Go.Proofs.Ytmboaaopmjmdnaa
