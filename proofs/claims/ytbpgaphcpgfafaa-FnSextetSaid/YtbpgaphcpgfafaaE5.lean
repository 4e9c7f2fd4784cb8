import Derived.Test.YtbpgaphcpgfafaaE4
import Derived.Test.YtbpgaphcpgfafaaF2
namespace Go.Proofs.Ytbpgaphcpgfafaa
open Go.RowKit

theorem Drew.le {base g p K L : Nat} {a w : World} (h : Drew base g p K a w) (hk : K ≤ L) : Drew base g p L a w := by
  obtain ⟨q, h1, h2, h3, h4⟩ := h
  exact ⟨q, h1, by omega, h3, h4⟩
/-- A drawing, and then a call that only makes memory. -/
theorem Drew.after {base g p K : Nat} {a w w' : World} (h : Drew base g p K a w) (hb : Below w.heap.size w w') : Drew base g p K a w' := by
  obtain ⟨q, h1, h2, h3, h4⟩ := h
  exact ⟨q, h1, h2, h3.below hb, h4.trans (Below.toOnly hb _)⟩
theorem near_nat {n : Nat} (h : n < 16777216) : Near (n : Int) := ⟨by omega, by omega⟩
theorem wordOf_lt (l : List Int) : (wordOf l).getD 0 < 16777216 := by
  cases h : wordOf l with
  | none => decide
  | some a => exact (wordOf_facts l a h).1

set_option maxHeartbeats 400000 in
theorem soct (base g p : Nat) (w : World) (h : Rd base w g p) (hp : p ≤ 80000) :
    Calls Try.prog 46 #[.pointer (some ⟨g, 0, none⟩)] w fun e w' => ∃ x, Near x ∧ e = .returned (.int .i64 x) ∧ Drew base g p 20 w w' := by
  have H := Lib.hid h
  clear h
  go_enter Try.func46, Try.ntmps46
  go_wp2_with fail
  refine (pick_any base g p 12 w H.out (by omega) (by decide) (by decide)).mono ?_
  rintro e w1 ⟨k1, hk1, rfl, r1, o1⟩
  by_cases h0 : k1 = 0
  · subst h0
    go_wp2_with fail
    refine (sword base g (p + 1) w1 r1 (by omega)).mono ?_
    rintro e w2 ⟨x, hx, rfl, q, hq1, hq2, r2, o2⟩
    have HD := Lib.hid (Drew.of (p := p) (K := 20) (by omega) (by omega) r2 (o1.trans o2))
    have HX := Lib.hid hx
    clear r1 o1 r2 o2 hx
    go_wp2
    go_ret
    exact ⟨x, HX.out, rfl, HD.out⟩
  · have e0 : ((k1 : Int) == 0) = false := by simp; omega
    go_wp2_with fail
    refine (splaces base g (p + 1) 5 w1 r1 (by omega) (by decide)).mono ?_
    rintro e w2 ⟨A, cap, l, rfl, o, q, hq1, hq2, r2, o2⟩
    go_wp2_with fail
    refine (sOctadThrough w2.heap.size A 5 cap l w2 o.sl (by decide)).mono ?_
    rintro e w3 ⟨rfl, b3⟩
    have HD := Lib.hid (Drew.of (p := p) (K := 20) (by omega) (by omega) (r2.below b3) ((o1.trans o2).trans (Below.toOnly b3 _)))
    have hl := through_lt l
    have HR := Lib.hid (show throughOk l = false → throughR l = 0 from fun h => by unfold throughR; rw [h]; rfl)
    clear r1 o1 r2 o2 o b3
    generalize throughR l = r at hl HR
    generalize throughOk l = v at HR
    cases v with
    | true =>
      go_wp2
      go_ret
      exact ⟨r, near_nat hl, rfl, HD.out⟩
    | false =>
      go_wp2
      go_ret
      exact ⟨0, ⟨by decide, by decide⟩, rfl, HD.out⟩

set_option maxHeartbeats 400000 in
theorem stetd (base g p : Nat) (w : World) (h : Rd base w g p) (hp : p ≤ 80000) :
    Calls Try.prog 59 #[.pointer (some ⟨g, 0, none⟩)] w fun e w' => ∃ x, Near x ∧ e = .returned (.int .i64 x) ∧ Drew base g p 20 w w' := by
  have H := Lib.hid h
  clear h
  go_enter Try.func59, Try.ntmps59
  go_wp2_with fail
  refine (splaces base g p 4 w H.out (by omega) (by decide)).mono ?_
  rintro e w1 ⟨A, cap, l, rfl, o, q, hq1, hq2, r1, o1⟩
  have HW := Lib.hid (sWordOf w1.heap.size A 4 cap l w1 o.sl (by decide))
  have hl := wordOf_lt l
  clear o
  generalize (wordOf l).getD 0 = x at HW hl
  generalize (wordOf l).isSome = v at HW
  go_wp2_with fail
  refine HW.out.mono ?_
  rintro e w' ⟨rfl, rfl⟩
  cases v with
  | false =>
    go_wp2_with fail
    refine (sword base g q w1 r1 (by omega)).mono ?_
    rintro e w2 ⟨y, hy, rfl, q2, hq3, hq4, r2, o2⟩
    have HD := Lib.hid (Drew.of (p := p) (K := 20) (by omega) (by omega) r2 (o1.trans o2))
    have HX := Lib.hid hy
    clear r1 o1 r2 o2 hy
    go_wp2
    go_ret
    exact ⟨y, HX.out, rfl, HD.out⟩
  | true =>
    go_wp2_with fail
    refine (pick_any base g q 20 w1 r1 (by omega) (by decide) (by decide)).mono ?_
    rintro e w2 ⟨k2, hk2, rfl, r2, o2⟩
    by_cases h0 : k2 = 0
    · subst h0
      go_wp2_with fail
      refine (sword base g (q + 1) w2 r2 (by omega)).mono ?_
      rintro e w3 ⟨y, hy, rfl, q2, hq3, hq4, r3, o3⟩
      have HD := Lib.hid (Drew.of (p := p) (K := 20) (by omega) (by omega) r3 ((o1.trans o2).trans o3))
      have HX := Lib.hid hy
      clear r1 o1 r2 o2 r3 o3 hy
      go_wp2
      go_ret
      exact ⟨y, HX.out, rfl, HD.out⟩
    · have e0 : ((k2 : Int) == 0) = false := by simp; omega
      have HD := Lib.hid (Drew.of (p := p) (K := 20) (by omega) (by omega) r2 (o1.trans o2))
      clear r1 o1 r2 o2
      go_wp2
      go_ret
      exact ⟨x, near_nat hl, rfl, HD.out⟩

theorem sx_cases (x : Int) : (tetZ x = true ∧ (sxR x).length = 6) ∨ (tetZ x = false ∧ sxR x = []) := by
  cases h : tetZ x with
  | true =>
    obtain ⟨t, rfl, ht, h4⟩ := tetZ_nat h
    exact .inl ⟨rfl, by rw [(sx_yes ht h4).2, sext_len ht h4]⟩
  | false => exact .inr ⟨rfl, sx_no h⟩

set_option maxHeartbeats 1000000 in
theorem ssextd (base g p : Nat) (w : World) (h : Rd base w g p) (hp : p ≤ 70000) :
    Calls Try.prog 44 #[.pointer (some ⟨g, 0, none⟩)] w fun e w' => ∃ A n cap l, (n = 0 ∨ n = 6) ∧ e = .returned (.slice A n cap) ∧ Own w' w.heap.size A n cap l ∧ Drew base g p 30 w w' := by
  have hgl := h.hi
  have H := Lib.hid h
  clear h
  go_enter Try.func44, Try.ntmps44
  go_wp2_with fail
  refine (stetd base g p w H.out (by omega)).mono ?_
  rintro e w1 ⟨x, hx, rfl, q, hq1, hq2, r1, o1⟩
  have HS := Lib.hid (sSextetOf x w1)
  have hz1 := o1.size
  rcases sx_cases x with ⟨ht, hl⟩ | ⟨ht, hl⟩
  · rw [ht] at HS
    generalize sxR x = L at HS hl
    go_wp2_with fail
    refine HS.out.mono ?_
    rintro e w2 ⟨A, n, cap, rfl, o2, b2⟩
    obtain rfl : n = 6 := by have := o2.length; rw [nl_length] at this; omega
    have hz2 := b2.size
    have hlo := o2.at_base
    have hat := o2.at_lt
    go_wp2_with fail
    refine (pick_any base g q 20 w2 (r1.below b2) (by omega) (by decide) (by decide)).mono ?_
    rintro e w3 ⟨k3, hk3, rfl, r3, o3⟩
    have hf : ∀ x y, A = some x → (some (⟨g, 0, none⟩ : Addr)) = some y → x.block ≠ y.block := fun x y hx hy => by have h1 := hlo x hx; injection hy with hy; subst hy; show x.block ≠ g; omega
    have o2' := o2.only o3 hf
    have oo := (o1.trans (Below.toOnly b2 _)).trans o3
    by_cases h0 : k3 = 0
    · subst h0
      go_wp2_with fail
      refine (pick_any base g (q + 1) 6 w3 r3 (by omega) (by decide) (by decide)).mono ?_
      rintro e w4 ⟨k4, hk4, rfl, r4, o4⟩
      have o2'' := o2'.only o4 hf
      have hz4 : w.heap.size ≤ w4.heap.size := Nat.le_trans hz1 (Nat.le_trans hz2 (Nat.le_trans o3.size o4.size))
      obtain ⟨ga, rfl, hg1, hg2⟩ := o2''.form (by decide)
      have hl6 := o2''.length
      obtain ⟨y, hy⟩ : ∃ y, (nl L)[k4]? = some y := ⟨(nl L)[k4]'(by omega), List.getElem?_eq_getElem _⟩
      have hcell := o2''.cell hy
      have hfree := o2''.free k4
      have hi0 : (0 : Int) ≤ (k4 : Int) := Int.natCast_nonneg _
      have hi1 : (k4 : Int) < 6 := by omega
      have HO := Lib.hid o2''
      have HR := Lib.hid r4
      have HQ := Lib.hid (oo.trans o4)
      clear r1 r3 r4 o1 o2 o3 o4 oo o2' o2'' b2 hlo hat hf hy
      go_wp2
      go_ret
      exact ⟨_, 6, cap, _, .inr rfl, rfl, (HO.out.set k4 15).base_le hz1, Drew.of (q := q + 2) (by omega) (by omega) (HR.out.only ((Only.refl w4 (some ⟨ga, 0, none⟩)).setCell k4 _) (fun x hx => by injection hx with hx; subst hx; have := HR.out.lo; exact ⟨by show base ≤ ga; omega, by show ga ≠ g; omega⟩)) (HQ.out.after ((Below.refl _ w4).setCell (Nat.le_trans hz1 hg1) _))⟩
    · have e0 : ((k3 : Int) == 0) = false := by simp; omega
      have HD := Lib.hid (Drew.of (p := p) (K := 30) (by omega) (by omega) r3 oo)
      have HO := Lib.hid o2'
      clear r1 r3 o1 o2 o3 oo o2' b2 hlo hat hf
      go_wp2
      go_ret
      exact ⟨A, 6, cap, _, .inr rfl, rfl, HO.out.base_le hz1, HD.out⟩
  · rw [ht, hl] at HS
    go_wp2_with fail
    refine HS.out.mono ?_
    rintro e w2 ⟨A, n, cap, rfl, o2, b2⟩
    obtain rfl : n = 0 := by have := o2.length; simp [nl] at this; omega
    have HD := Lib.hid (Drew.of (p := p) (K := 30) (by omega) (by omega) (r1.below b2) (o1.trans (Below.toOnly b2 _)))
    have HO := Lib.hid o2
    clear r1 o1 o2 b2
    go_wp2
    go_ret
    exact ⟨A, 0, cap, _, .inl rfl, rfl, HO.out.base_le hz1, HD.out⟩
end Go.Proofs.Ytbpgaphcpgfafaa
