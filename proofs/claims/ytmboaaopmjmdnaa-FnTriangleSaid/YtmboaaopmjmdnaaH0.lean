/- Rows that lie apart from the reader's block. -/
import Derived.Test.YtmboaaopmjmdnaaE5
namespace Go.Proofs.Ytmboaaopmjmdnaa
open Go.RowKit

/-- A row apart from the reader's block stays while it is read. -/
theorem Own.sl_read {w w' : World} {base g : Nat} {A : Option Addr} {n cap : Nat} {l : List Int} (h : Own w base A n cap l) (hg : g < base) (o : Only w w' (some ⟨g, 0, none⟩)) : Own w' base A n cap l :=
  h.only o (fun x y hx hy => by have h1 := h.at_base x hx; injection hy with hy; subst hy; show x.block ≠ g; omega)
theorem Sl.read {w w' : World} {g : Nat} {A : Option Addr} {n cap : Nat} {l : List Int} (h : Sl w w.heap.size A n cap l) (hA : ∀ x, A = some x → x.block ≠ g) (o : Only w w' (some ⟨g, 0, none⟩)) : Sl w' w'.heap.size A n cap l :=
  (h.only o (Nat.le_refl _) (fun _ p1 p2 hp1 hp2 => by injection hp1 with hp1; subst hp1; exact fun e => hA p2 hp2 e.symm)).more o.size
theorem Only.drawn {B : Nat} {w w1 w2 : World} {g : Nat} (b : Below B w w1) (hB : B ≤ w.heap.size) (hg : B ≤ g) (o : Only w1 w2 (some ⟨g, 0, none⟩)) : Below B w w2 :=
  b.trans (o.below (Nat.le_trans hB b.size) (fun z hz => by injection hz with hz; subst hz; exact hg))

end Go.Proofs.Ytmboaaopmjmdnaa
