/- The laws on make and append at []int, at this program's own type numbers. -/
import Derived.Test.YtmboaaopmjmdnaaChecked
import Derived.Test.YtmboaaopmjmdnaaB0
namespace Go.Proofs.Ytmboaaopmjmdnaa
open Go.RowKit
theorem info3 : (Try.prog.info? 3).map (fun i => (i.zero, i.size, i.bytes)) = some (some (.int .i64 0), 1, 8) := by kernel_rfl

/-- 'make([]int, n)' -/
theorem wl_make (w : World) {ops : Array Oper} {rest : List Oper} {o : Oper} {a : Act} {Q : Exit → Act → World → Prop}
    (hg : o.guard = none) (l c : Operand) (hop : o.op = Op.makeSlice 28 l c)
    (kl kc : IntKind) (L C : Int) (n : Nat) (hl : a.eval l = .int kl L) (hc : a.eval c = .int kc C) (hL : L = (n : Int)) (hC : C = (n : Int)) (hn : n ≤ 1048576)
    (hK : ∀ w', Own w' w.heap.size (some ⟨w.heap.size, 0, none⟩) n n (List.replicate n 0) → Below w.heap.size w w' → wpList Try.prog ops Q rest (a.put o.dst (.slice (some ⟨w.heap.size, 0, none⟩) n n)) w') :
    wpList Try.prog ops Q (o :: rest) a w := by
  obtain ⟨i0, hi, hz0, hz1, hz2⟩ := info_parts info3
  refine wpList_make_full w hg l c 28 hop w.heap.size 3 i0 (.int .i64 0) 1 Try.underlying28 hi hz0 hz1 kl kc L C n hl hc hL hC (by rw [hz2]; omega) (by unfold maxLen; omega) (Nat.le_refl _) ?_
  intro w' hown hgrow
  rw [made_ints] at hown
  exact hK w' hown ((Below.refl _ _).grown hgrow (Nat.le_refl _) (by simp))

/-- 'out = append(out, x)': x lies in a block of its own that was laid just before. -/
theorem wl_append (w : World) {ops : Array Oper} {rest : List Oper} {o : Oper} {a : Act} {Q : Exit → Act → World → Prop} (hgd : o.guard = none) (s x : Operand)
    (ho : o.op = .call { callee := .builtin .append, args := #[s, x], argTypes := #[28, 28] })
    (base : Nat) (A : Option Addr) (n cap : Nat) (l : List Int) (hs : a.eval s = .slice A n cap) (hown : Own w base A n cap l)
    (g c : Nat) (y : Int) (hx : a.eval x = .slice (some ⟨g, 0, none⟩) 1 c) (hc : w.cell? ⟨g, 0, none⟩ = some (.int .i64 y)) (hn : n ≤ 1048576) (hbase : base ≤ w.heap.size)
    (h : ∀ A' cap' w', Own w' base A' (n + 1) cap' (l ++ [y]) → Below base w w' → w.heap.size ≤ w'.heap.size → wpList Try.prog ops Q rest (a.put o.dst (.slice A' (n + 1) cap')) w') : wpList Try.prog ops Q (o :: rest) a w := by
  obtain ⟨i0, hi, hz0, hz1, hz2⟩ := info_parts info3
  refine wpList_append_own w hgd s x 28 ho base 3 i0 (.int .i64 0) 1 8 Try.underlying28 hi hz0 hz1 hz2 rfl (by decide) (.slice A n cap) n (ints l) hs hown ⟨g, 0, none⟩ 1 c [.int .i64 y] hx rfl ?_ ?_ ?_ ?_ hbase ?_
  · intro j u hj
    match j, hj with
    | 0, hj => simp at hj; subst hj; simpa [Addr.add] using hc
  · intro u hu; simp at hu; subst hu; rfl
  · unfold maxLen; omega
  · omega
  · intro v' w' hown' hgrow _
    have hsh : ∃ A' cap', v' = .slice A' (n + 1) cap' := by
      rcases hown'.2 with ⟨_, hn'⟩ | ⟨g', cap', cur, hv, _⟩
      · omega
      · exact ⟨_, _, hv⟩
    obtain ⟨A', cap', rfl⟩ := hsh
    refine h A' cap' w' ?_ ((Below.refl _ _).grown hgrow hbase ?_) hgrow.size
    · unfold Own; rw [ints_append]; exact hown'
    · intro k hk
      exact (hown.lt k hk).1

/-- The same where x has just been laid: 'w.alloc (.cells #[x])'. -/
theorem wl_app (w : World) {ops : Array Oper} {rest : List Oper} {o : Oper} {a : Act} {Q : Exit → Act → World → Prop} (hgd : o.guard = none) (s x : Operand)
    (ho : o.op = .call { callee := .builtin .append, args := #[s, x], argTypes := #[28, 28] })
    (base : Nat) (A : Option Addr) (n cap : Nat) (l : List Int) (y : Int) (hs : a.eval s = .slice A n cap) (hown : Own w base A n cap l)
    (hx : a.eval x = .slice (some ⟨w.heap.size, 0, none⟩) 1 1) (hn : n ≤ 1048576) (hbase : base ≤ w.heap.size)
    (h : ∀ A' cap' w', Own w' base A' (n + 1) cap' (l ++ [y]) → Below base w w' → wpList Try.prog ops Q rest (a.put o.dst (.slice A' (n + 1) cap')) w') :
    wpList Try.prog ops Q (o :: rest) a (w.alloc (.cells #[.int .i64 y] 3)) :=
  wl_append _ hgd s x ho base A n cap l hs (hown.alloc _) w.heap.size 1 y hx (by rw [World.cell?_alloc_at _ _ _ _ rfl]; rfl) hn (by simp; omega)
    fun A' cap' w' h1 h2 _ => h A' cap' w' h1 (((Below.refl _ _).alloc hbase _).trans h2)
end Go.Proofs.Ytmboaaopmjmdnaa
