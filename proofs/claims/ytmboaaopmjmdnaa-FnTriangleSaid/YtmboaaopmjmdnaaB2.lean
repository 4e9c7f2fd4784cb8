/- A row that the call owns and fills while it reads another row. -/
import Derived.Test.YtmboaaopmjmdnaaB1
import Derived.Maps.AppendAt
namespace Go.Proofs.Ytmboaaopmjmdnaa
open Go.RowKit

/-- The rows at A and at Aw lie apart (if the second is not empty). -/
def Far (A Aw : Option Addr) (nw : Nat) : Prop := 0 < nw → ∀ x y, A = some x → Aw = some y → x.block ≠ y.block

structure Run (base : Nat) (w0 wr : World) (A : Option Addr) (n cap : Nat) (l : List Int) (Aw : Option Addr) (nw cw : Nat) (lw : List Int) : Prop where
  own : Own wr base A n cap l
  sl : Sl wr wr.heap.size Aw nw cw lw
  far : Far A Aw nw
  below : Below base w0 wr

section
variable {base : Nat} {w0 wr w : World} {A Aw : Option Addr} {n cap nw cw : Nat} {l lw : List Int}
theorem Run.drewN (h : Run base w0 wr A n cap l Aw nw cw lw) (k : Nat) : Run base w0 (wr.drewN k) A n cap l Aw nw cw lw :=
  ⟨h.own.drewN k, h.sl.drewN k, h.far, below_drewN h.below k⟩
/-- A row that was there, and then a call that made another one. -/
theorem Run.start {w1 w2 : World} (h : Own w1 base A n cap l) (hb : Below base w0 w1) (hB : base ≤ w1.heap.size) (k : Own w2 w1.heap.size Aw nw cw lw) (hk : Below w1.heap.size w1 w2) : Run base w0 w2 A n cap l Aw nw cw lw := by
  refine ⟨h.below hk (Nat.le_refl _), k.sl, ?_, hb.trans (hk.mono hB)⟩
  intro hn x y hx hy
  have h1 := h.at_lt x hx
  have h2 := k.at_base y hy
  omega
theorem Run.grow {w2 : World} (h : Run base w0 wr A n cap l Aw nw cw lw) (hb : Below wr.heap.size wr w2) (hB : base ≤ wr.heap.size) : Run base w0 w2 A n cap l Aw nw cw lw :=
  ⟨h.own.below hb (Nat.le_refl _), (h.sl.below hb).more hb.size, h.far, h.below.trans (hb.mono hB)⟩
/-- Another row that lies apart from the one written stays. -/
theorem Sl.only {B : Nat} {w w' : World} (h : Sl w B Aw nw cw lw) (ho : Only w w' A) (hB : B ≤ w.heap.size) (hf : Far A Aw nw) : Sl w' B Aw nw cw lw := by
  refine ⟨h.len, h.le, h.max, fun hn => ?_⟩
  obtain ⟨b, o, e, hb, hc⟩ := h.at_ hn
  refine ⟨b, o, e, hb, fun j hj => ?_⟩
  rw [World.cell?_of_block (w := w) (a := ⟨b, o + j, none⟩) (ho.block b (by omega) ?_)]
  · exact hc j hj
  · intro hh
    cases A with
    | none => cases hh
    | some x =>
      simp only [Option.map_some, Option.some.injEq] at hh
      exact hf hn x _ rfl e hh.symm
end

/-- 'out = append(out, x)', with another row beside. -/
theorem wl_run (wr : World) {ops : Array Oper} {rest : List Oper} {o : Oper} {a : Act} {Q : Exit → Act → World → Prop} (hgd : o.guard = none) (s x : Operand)
    (ho : o.op = .call { callee := .builtin .append, args := #[s, x], argTypes := #[28, 28] })
    (base : Nat) (w0 : World) (A : Option Addr) (n cap : Nat) (l : List Int) (Aw : Option Addr) (nw cw : Nat) (lw : List Int) (y : Int) (hs : a.eval s = .slice A n cap)
    (hrun : Run base w0 wr A n cap l Aw nw cw lw)
    (hx : a.eval x = .slice (some ⟨wr.heap.size, 0, none⟩) 1 1) (hn : n ≤ 1048576) (hbase : base ≤ wr.heap.size)
    (h : ∀ A' cap' w', Run base w0 w' A' (n + 1) cap' (l ++ [y]) Aw nw cw lw → base ≤ w'.heap.size → wpList Try.prog ops Q rest (a.put o.dst (.slice A' (n + 1) cap')) w') :
    wpList Try.prog ops Q (o :: rest) a (wr.alloc (.cells #[.int .i64 y] 3)) := by
  obtain ⟨i0, hi, hz0, hz1, hz2⟩ := info_parts info3
  have hown := hrun.own.alloc (.cells #[.int .i64 y] 3)
  have hbw : Below wr.heap.size wr (wr.alloc (.cells #[.int .i64 y] 3)) := (Below.refl _ _).alloc (Nat.le_refl _) _
  refine wpList_append_own_at (w := wr.alloc (.cells #[.int .i64 y] 3)) hgd s x 28 ho base 3 i0 (.int .i64 0) 1 8 Try.underlying28 hi hz0 hz1 hz2 rfl (by decide) (.slice A n cap) n (ints l) hs hown ⟨wr.heap.size, 0, none⟩ 1 1 [.int .i64 y] hx rfl ?_ ?_ ?_ ?_ (by simp; omega) ?_
  · intro j u hj
    match j, hj with
    | 0, hj => simp at hj; subst hj; rw [show (⟨wr.heap.size, 0, none⟩ : Addr).add 0 = ⟨wr.heap.size, 0, none⟩ from rfl, World.cell?_alloc_at _ _ _ _ rfl]; rfl
  · intro u hu; simp at hu; subst hu; rfl
  · unfold maxLen; omega
  · omega
  · intro v' w' hown' hgrow _ hat
    have hsh : ∃ A' cap', v' = .slice A' (n + 1) cap' := by
      rcases hown'.2 with ⟨_, hn'⟩ | ⟨g', cap', cur, hv, _⟩
      · omega
      · exact ⟨_, _, hv⟩
    obtain ⟨A', cap', rfl⟩ := hsh
    have honly : Only (wr.alloc (.cells #[.int .i64 y] 3)) w' A := by
      unfold Only
      cases A <;> exact hgrow
    have hsz : (wr.alloc (.cells #[.int .i64 y] 3)).heap.size = wr.heap.size + 1 := by simp
    have hsl := (hrun.sl.below hbw).only honly (by omega) hrun.far
    have hsz2 : (wr.alloc (.cells #[.int .i64 y] 3)).heap.size ≤ w'.heap.size := hgrow.size
    refine h A' cap' w' ⟨by unfold Own; rw [ints_append]; exact hown', hsl.more (by omega), ?_, ?_⟩ (by omega)
    · intro hnw p q hp hq
      obtain ⟨b, o, e, hb, hc⟩ := hrun.sl.at_ hnw
      subst hp
      rw [e] at hq
      injection hq with hq
      subst hq
      rcases hat with hat | hat
      · cases A with
        | none => simp [Value.ownBlock] at hat
        | some z =>
          simp [Value.ownBlock] at hat
          rw [hat]
          exact hrun.far hnw z _ rfl e
      · simp [Value.ownBlock] at hat
        intro hh
        have : p.block = b := hh
        omega
    · exact hrun.below.trans (((Below.refl _ _).alloc hbase _).trans (honly.below (by omega) (hrun.own.at_base)))
end Go.Proofs.Ytmboaaopmjmdnaa
