/- A region that draws its order, in every world of a class: its calls may make memory, its loads read cells that all worlds of the class have. -/
import Derived.Test.YtmboaaopmjmdnaaB1
import Derived.Deep.QuietTactic
namespace Go.Proofs.Ytmboaaopmjmdnaa
open Go.RowKit

/-- The lexical walk of a region, closed. -/
def WQ (P : Program) (ops : Array Oper) (C : World → Prop) (Q : Act → Prop) (l : List Oper) (a : Act) : Prop := wpQuiet P ops C Q l a
theorem WQ_step {P : Program} {ops : Array Oper} {C : World → Prop} {Q : Act → Prop} {a : Act} {o : Oper} {rest : List Oper}
    (h : ∀ K : Act → Prop, (∀ a, WQ P ops C Q rest a → K a) → if Region.wanted o (yielded ops a.tmps) then o.quiet P a C K else K (a.put o.dst undef)) : WQ P ops C Q (o :: rest) a :=
  wpQuiet_step h
theorem WQ_nil {P : Program} {ops : Array Oper} {C : World → Prop} {Q : Act → Prop} {a : Act} (h : Q a) : WQ P ops C Q [] a := h
theorem region_class {id : Nat} {Q : Exit → Act → World → Prop} {a : Act} {w : World} {l : List Oper} (C : World → Prop) (hm : Try.prog.follows .mixedOrders = true) (hB : Region.lexB .any l.toArray = true) (hC : C w.drew)
    (h : WQ Try.prog l.toArray C (fun a' => ∀ w', C w' → Q .normal a' w') l a) : (Code.region id l.toArray true).wp Try.prog Q a w :=
  wp_region_quiet (C := C) hm hB hC (by
    have h2 : wpQuiet Try.prog l.toArray C (fun a' => ∀ w', C w' → Q .normal a' w') l a := h
    simpa using h2)
attribute [irreducible] WQ
/-- The worlds that have grown out of w, behind a bar. -/
def Grown (w w' : World) : Prop := Below w.heap.size w w'
theorem Grown.drew (w : World) : Grown w w.drew := Below.drew (Below.refl _ _)
theorem Grown.more {w w1 w2 : World} (h : Grown w w1) (b : Below w1.heap.size w1 w2) : Grown w w2 := below_to h b (Nat.le_refl _)
theorem Grown.cell {w w1 : World} {p : Addr} {v : Value} (h : Grown w w1) (hp : p.block < w.heap.size) (hc : w.cell? p = some v) : w1.cell? p = some v := (Below.cell h hp).trans hc
theorem Grown.sl {w w1 : World} {A : Option Addr} {n c : Nat} {l : List Int} (h : Grown w w1) (s : Sl w w.heap.size A n c l) : Sl w1 w1.heap.size A n c l := (s.below h).more h.size
theorem Grown.below {w0 w w1 : World} (h : Grown w w1) (b : Below w0.heap.size w0 w) : Below w0.heap.size w0 w1 := below_to b h (Nat.le_refl _)
/-- A call that makes memory, in the class. -/
theorem Grown.call {f : FuncId} {args : Array Value} {v : Value} {w w1 : World} (h : Grown w w1) (c : Calls Try.prog f args w1 fun e w' => e = .returned v ∧ Below w1.heap.size w1 w') : Calls Try.prog f args w1 fun e w' => e = .returned v ∧ Grown w w' :=
  c.mono fun _ _ ⟨h1, h2⟩ => ⟨h1, h.more h2⟩
theorem Grown.same {f : FuncId} {args : Array Value} {v : Value} {w w1 : World} (h : Grown w w1) (c : Calls Try.prog f args w1 fun e w' => e = .returned v ∧ w1 = w') : Calls Try.prog f args w1 fun e w' => e = .returned v ∧ Grown w w' :=
  c.mono fun _ _ ⟨h1, h2⟩ => ⟨h1, h2 ▸ h⟩
attribute [irreducible] Grown
end Go.Proofs.Ytmboaaopmjmdnaa
