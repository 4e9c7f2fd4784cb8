import Derived.Test.YtmboaaopmjmdnaaE4
import Derived.Test.YtmboaaopmjmdnaaF2
namespace Go.Proofs.Ytmboaaopmjmdnaa
open Go.RowKit

theorem Drew.le {base g p K L : Nat} {a w : World} (h : Drew base g p K a w) (hk : K ≤ L) : Drew base g p L a w := by
  obtain ⟨q, h1, h2, h3, h4⟩ := h
  exact ⟨q, h1, by omega, h3, h4⟩
/-- A drawing, and then a call that only makes memory. -/
theorem Drew.after {base g p K : Nat} {a w w' : World} (h : Drew base g p K a w) (hb : Below w.heap.size w w') : Drew base g p K a w' := by
  obtain ⟨q, h1, h2, h3, h4⟩ := h
  exact ⟨q, h1, h2, h3.below hb, h4.trans (Below.toOnly hb _)⟩
theorem near_nat {n : Nat} (h : n < 16777216) : Near (n : Int) := ⟨by omega, by omega⟩
theorem wordOf_lt (l : List Int) : (wordOf l).getD 0 < 16777216 := by
  cases h : wordOf l with
  | none => decide
  | some a => exact (wordOf_facts l a h).1

set_option maxHeartbeats 400000 in
theorem soct (base g p : Nat) (w : World) (h : Rd base w g p) (hp : p ≤ 80000) :
    Calls Try.prog 8 #[.pointer (some ⟨g, 0, none⟩)] w fun e w' => ∃ x, Near x ∧ e = .returned (.int .i64 x) ∧ Drew base g p 20 w w' := by
  have H := Lib.hid h
  clear h
  go_enter Try.func8, Try.ntmps8
  go_wp2_with fail
  refine (pick_any base g p 12 w H.out (by omega) (by decide) (by decide)).mono ?_
  rintro e w1 ⟨k1, hk1, rfl, r1, o1⟩
  by_cases h0 : k1 = 0
  · subst h0
    go_wp2_with fail
    refine (sword base g (p + 1) w1 r1 (by omega)).mono ?_
    rintro e w2 ⟨x, hx, rfl, q, hq1, hq2, r2, o2⟩
    have HD := Lib.hid (Drew.of (p := p) (K := 20) (by omega) (by omega) r2 (o1.trans o2))
    have HX := Lib.hid hx
    clear r1 o1 r2 o2 hx
    go_wp2
    go_ret
    exact ⟨x, HX.out, rfl, HD.out⟩
  · have e0 : ((k1 : Int) == 0) = false := by simp; omega
    go_wp2_with fail
    refine (splaces base g (p + 1) 5 w1 r1 (by omega) (by decide)).mono ?_
    rintro e w2 ⟨A, cap, l, rfl, o, q, hq1, hq2, r2, o2⟩
    go_wp2_with fail
    refine (sOctadThrough w2.heap.size A 5 cap l w2 o.sl (by decide)).mono ?_
    rintro e w3 ⟨rfl, b3⟩
    have HD := Lib.hid (Drew.of (p := p) (K := 20) (by omega) (by omega) (r2.below b3) ((o1.trans o2).trans (Below.toOnly b3 _)))
    have hl := through_lt l
    have HR := Lib.hid (show throughOk l = false → throughR l = 0 from fun h => by unfold throughR; rw [h]; rfl)
    clear r1 o1 r2 o2 o b3
    generalize throughR l = r at hl HR
    generalize throughOk l = v at HR
    cases v with
    | true =>
      go_wp2
      go_ret
      exact ⟨r, near_nat hl, rfl, HD.out⟩
    | false =>
      go_wp2
      go_ret
      exact ⟨0, ⟨by decide, by decide⟩, rfl, HD.out⟩

theorem sx_cases (x : Int) : (tetZ x = true ∧ (sxR x).length = 6) ∨ (tetZ x = false ∧ sxR x = []) := by
  cases h : tetZ x with
  | true =>
    obtain ⟨t, rfl, ht, h4⟩ := tetZ_nat h
    exact .inl ⟨rfl, by rw [(sx_yes ht h4).2, sext_len ht h4]⟩
  | false => exact .inr ⟨rfl, sx_no h⟩

end Go.Proofs.Ytmboaaopmjmdnaa
