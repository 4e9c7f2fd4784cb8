/- The append of B2, with word of every other cell. -/
import Derived.Test.YtinfpggpfpmpbaaB2
namespace Go.Proofs.Ytinfpggpfpmpbaa
open Go.RowKit

/-- A cell that lies apart from the row written stays, and lies apart from the new row too. -/
def Stays (wr w' : World) (A A' : Option Addr) : Prop := ∀ p : Addr, p.block < wr.heap.size → (∀ z, A = some z → p.block ≠ z.block) → w'.cell? p = wr.cell? p ∧ ∀ z, A' = some z → p.block ≠ z.block

/-- 'out = append(out, x)', with another row beside; and what else stays. -/
theorem wl_run3 (wr : World) {ops : Array Oper} {rest : List Oper} {o : Oper} {a : Act} {Q : Exit → Act → World → Prop} (hgd : o.guard = none) (s x : Operand)
    (ho : o.op = .call { callee := .builtin .append, args := #[s, x], argTypes := #[22, 22] })
    (base : Nat) (w0 : World) (A : Option Addr) (n cap : Nat) (l : List Int) (Aw : Option Addr) (nw cw : Nat) (lw : List Int) (y : Int) (hs : a.eval s = .slice A n cap)
    (hrun : Run base w0 wr A n cap l Aw nw cw lw)
    (hx : a.eval x = .slice (some ⟨wr.heap.size, 0, none⟩) 1 1) (hn : n ≤ 1048576) (hbase : base ≤ wr.heap.size)
    (h : ∀ A' cap' w', Run base w0 w' A' (n + 1) cap' (l ++ [y]) Aw nw cw lw → base ≤ w'.heap.size → Stays wr w' A A' → wpList Try.prog ops Q rest (a.put o.dst (.slice A' (n + 1) cap')) w') :
    wpList Try.prog ops Q (o :: rest) a (wr.alloc (.cells #[.int .i64 y] 3)) := by
  obtain ⟨i0, hi, hz0, hz1, hz2⟩ := info_parts info3
  have hown := hrun.own.alloc (.cells #[.int .i64 y] 3)
  have hbw : Below wr.heap.size wr (wr.alloc (.cells #[.int .i64 y] 3)) := (Below.refl _ _).alloc (Nat.le_refl _) _
  refine wpList_append_own_at (w := wr.alloc (.cells #[.int .i64 y] 3)) hgd s x 22 ho base 3 i0 (.int .i64 0) 1 8 Try.underlying22 hi hz0 hz1 hz2 rfl (by decide) (.slice A n cap) n (ints l) hs hown ⟨wr.heap.size, 0, none⟩ 1 1 [.int .i64 y] hx rfl ?_ ?_ ?_ ?_ (by simp; omega) ?_
  · intro j u hj
    match j, hj with
    | 0, hj => simp at hj; subst hj; rw [show (⟨wr.heap.size, 0, none⟩ : Addr).add 0 = ⟨wr.heap.size, 0, none⟩ from rfl, World.cell?_alloc_at _ _ _ _ rfl]; rfl
  · intro u hu; simp at hu; subst hu; rfl
  · unfold maxLen; omega
  · omega
  · intro v' w' hown' hgrow _ hat
    have hsh : ∃ A' cap', v' = .slice A' (n + 1) cap' := by
      rcases hown'.2 with ⟨_, hn'⟩ | ⟨g', cap', cur, hv, _⟩
      · omega
      · exact ⟨_, _, hv⟩
    obtain ⟨A', cap', rfl⟩ := hsh
    have honly : Only (wr.alloc (.cells #[.int .i64 y] 3)) w' A := by
      unfold Only
      cases A <;> exact hgrow
    have hsz : (wr.alloc (.cells #[.int .i64 y] 3)).heap.size = wr.heap.size + 1 := by simp
    have hsl := (hrun.sl.below hbw).only honly (by omega) hrun.far
    have hsz2 : (wr.alloc (.cells #[.int .i64 y] 3)).heap.size ≤ w'.heap.size := hgrow.size
    refine h A' cap' w' ⟨by unfold Own; rw [ints_append]; exact hown', hsl.more (by omega), ?_, ?_⟩ (by omega) ?_
    · intro hnw p q hp hq
      obtain ⟨b, o, e, hb, hc⟩ := hrun.sl.at_ hnw
      subst hp
      rw [e] at hq
      injection hq with hq
      subst hq
      rcases hat with hat | hat
      · cases A with
        | none => simp [Value.ownBlock] at hat
        | some z =>
          simp [Value.ownBlock] at hat
          rw [hat]
          exact hrun.far hnw z _ rfl e
      · simp [Value.ownBlock] at hat
        intro hh
        have : p.block = b := hh
        omega
    · exact hrun.below.trans (((Below.refl _ _).alloc hbase _).trans (honly.below (by omega) (hrun.own.at_base)))
    · intro p hp hne
      refine ⟨?_, ?_⟩
      · rw [World.cell?_of_block (w := wr) (a := p)]
        rw [honly.block p.block (by omega) (fun e => by
          cases A with
          | none => cases e
          | some z => simp only [Option.map_some, Option.some.injEq] at e; exact hne z rfl e)]
        exact hbw.block p.block hp
      · intro z hz
        subst hz
        rcases hat with hat | hat
        · cases A with
          | none => simp [Value.ownBlock] at hat
          | some z' => simp [Value.ownBlock] at hat; rw [hat]; exact hne z' rfl
        · simp [Value.ownBlock] at hat; omega
end Go.Proofs.Ytinfpggpfpmpbaa
