/- The append law at a step of a region that draws its order. -/
import Derived.Test.YtmboaaopmjmdnaaB1
import Derived.Deep.AppendLies
import Derived.Deep.RegionLaw
namespace Go.Proofs.Ytmboaaopmjmdnaa
open Go.RowKit

/-- 'out = append(out, x)' inside a region that draws: x has just been laid at block g. -/
theorem st_app (w : World) {ops : Array Oper} {o : Oper} {a : Act} {K : Act → World → Prop} {Q : Exit → Act → World → Prop} {E : Prop} (hgd : o.guard = none) (s x : Operand)
    (ho : o.op = .call { callee := .builtin .append, args := #[s, x], argTypes := #[28, 28] })
    (base : Nat) (A : Option Addr) (n cap : Nat) (l : List Int) (y : Int) (hs : a.eval s = .slice A n cap) (hown : Own w base A n cap l)
    (g : Nat) (hx : a.eval x = .slice (some ⟨g, 0, none⟩) 1 1) (hc : w.cell? ⟨g, 0, none⟩ = some (.int .i64 y)) (hn : n ≤ 1048576) (hbase : base ≤ w.heap.size)
    (h : ∀ A' cap' w', Own w' base A' (n + 1) cap' (l ++ [y]) → Below base w w' → K (a.put o.dst (.slice A' (n + 1) cap')) w') :
    if Region.wanted o (yielded ops a.tmps) = true then Oper.wp Try.prog o a w K Q else E := by
  obtain ⟨i0, hi, hz0, hz1, hz2⟩ := info_parts info3
  refine step_append_lies w hgd s x 28 ho base 3 i0 (.int .i64 0) 1 8 Try.underlying28 hi hz0 hz1 hz2 rfl (by decide) (.slice A n cap) n (ints l) hs hown ⟨g, 0, none⟩ 1 1 [.int .i64 y] hx rfl ?_ ?_ (by decide) ?_ ?_ hbase w.heap.size rfl ?_
  · intro j u hj
    match j, hj with
    | 0, hj => simp at hj; subst hj; simpa [Addr.add] using hc
  · intro u hu; simp at hu; subst hu; rfl
  · unfold maxLen; omega
  · omega
  · intro g' cap' w' hown' hgrow _ _
    refine h _ cap' w' ?_ ((Below.refl _ _).grown hgrow hbase ?_)
    · unfold Own; rw [ints_append]; exact hown'
    · intro k hk
      exact (hown.lt k hk).1
theorem app_own {wr : World} {base : Nat} {A : Option Addr} {n cap : Nat} {l : List Int} (h : Own wr base A n cap l) (o : Obj) : Own (wr.drew.alloc o) base A n cap l := h.drew.alloc o
theorem app_cell (wr : World) (z : Int) : (wr.drew.alloc (.cells #[.int .i64 z] 3)).cell? ⟨wr.heap.size, 0, none⟩ = some (.int .i64 z) := by
  show (wr.alloc _).cell? _ = _
  rw [World.cell?_alloc_at _ _ _ _ rfl]; rfl
theorem app_size {wr : World} {base : Nat} (h : base ≤ wr.heap.size) (o : Obj) : base ≤ (wr.drew.alloc o).heap.size := by
  show base ≤ (wr.alloc o).heap.size
  simp; omega
theorem app_below {w wr w3 : World} {base : Nat} {o : Obj} (h : Below base w wr) (hs : base ≤ wr.heap.size) (k : Below base (wr.drew.alloc o) w3) : Below base w w3 := (h.drew.alloc hs o).trans k
end Go.Proofs.Ytmboaaopmjmdnaa
