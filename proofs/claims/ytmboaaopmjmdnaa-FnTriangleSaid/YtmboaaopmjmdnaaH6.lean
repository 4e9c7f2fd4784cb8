/- The drawing of octads, places, dodecads and near words. -/
import Derived.Test.YtmboaaopmjmdnaaH0
namespace Go.Proofs.Ytmboaaopmjmdnaa
open Go.RowKit

theorem dOctadTriangle (A : Option Addr) (n cap : Nat) (zs : List Int) (w : World) (h : IsRow .u8 w A n cap zs) (hn : n ≤ 1048576) :
    Calls Try.prog 4 #[.slice A n cap] w fun e w' => (∃ x, e = .returned (.int .i64 x)) ∧ Below w.heap.size w w' := by
  have H := Lib.hid h
  clear h
  go_enter Try.func4, Try.ntmps4
  go_wp2_with fail
  refine (sopen A n cap zs w H.out hn).mono ?_
  rintro e w1 ⟨g, rfl, r1, b1⟩
  have hgl := r1.lo
  go_wp2_with fail
  refine (soct w.heap.size g 0 w1 r1 (by decide)).mono ?_
  rintro e w2 ⟨x, hx, rfl, q, hq1, hq2, r2, o⟩
  have HB := Lib.hid (Only.drawn b1 (Nat.le_refl _) hgl o)
  clear r1 b1 r2 o hx
  go_wp2
  go_ret
  exact ⟨⟨x, rfl⟩, HB.out⟩

end Go.Proofs.Ytmboaaopmjmdnaa
