import Derived.Test.YthggjkpnjogcaaaH6
import Derived.Test.YthggjkpnjogcaaaF1
import Derived.Test.YthggjkpnjogcaaaC10
import Derived.Test.YthggjkpnjogcaaaA6
import Derived.Test.YthggjkpnjogcaaaN2
namespace Go.Proofs.Ythggjkpnjogcaaa
open Go.RowKit

theorem through_part {n : Nat} (ho : Oct n) {m : List Nat} (hm : m.Sublist (pl n)) (h5 : m.length = 5) : throughOk (nl m) = true ∧ throughR (nl m) = n := by
  obtain ⟨s, h1, h2, h3, h4⟩ := wordOf_part hm
  obtain ⟨k1, _, k3⟩ := through_yes h1 (by rw [nl_length]; exact h5)
  refine ⟨k1, ?_⟩
  have e := oct_pick ho (by omega) h2 h4
  rw [k3] at e
  simpa using e
theorem iWordPlaces (x : Nat) (w : World) (hx : x < 16777216) :
    Calls Try.prog 42 #[.int .i64 x] w (MakesB (nl (pl x)) true w) := by
  go_enter Try.func42, Try.ntmps42
  go_wp2_with fail
  refine (iWordValid_yes x w hx).mono ?_
  rintro e w' ⟨rfl, rfl⟩
  go_wp2_with fail
  refine (placesOf_any x w hx).mono ?_
  rintro e w1 ⟨A1, n1, c1, rfl, o1, b1⟩
  have HO := Lib.hid o1
  have HB := Lib.hid b1
  clear o1 b1
  go_wp2
  go_ret2
  exact ⟨A1, n1, c1, rfl, HO.out, HB.out⟩

set_option maxRecDepth 100000 in
set_option maxHeartbeats 1000000 in
theorem lawFnOctad (A : Option Addr) (n cap : Nat) (zs : List Int) (w : World) (h : IsRow .u8 w A n cap zs) :
    Calls Try.prog 10 #[.slice A n cap] w fun e w' => e = .returned (.bool true) ∧ Below w.heap.size w w' := by
  have H := Lib.hid h
  clear h
  by_cases hn : n ≤ 1048576
  · have e1 : decide ((1048576 : Int) < (n : Int)) = false := by simp; omega
    go_enter Try.func10, Try.ntmps10
    go_wp2_with fail
    refine (dOctadIn A n cap zs w H.out hn).mono ?_
    rintro e w1 ⟨⟨x, rfl⟩, b1⟩
    have HI := Lib.hid (iOct_is x)
    have HS := Lib.hid (sOct_is x)
    cases hv : octZ x with
    | false =>
      have HI2 := Lib.hid (HI.out false hv)
      have HS2 := Lib.hid (HS.out false hv)
      clear hv HI HS
      go_wp2_with fail
      refine (HI2.out w1).mono ?_
      rintro e w2 ⟨rfl, b2⟩
      go_wp2_with fail
      refine (HS2.out w2).mono ?_
      rintro e w3 ⟨rfl, b3⟩
      have HB := Lib.hid (below_to (below_to b1 b2 (Nat.le_refl _)) b3 (Nat.le_refl _))
      clear b1 b2 b3
      go_wp2
      go_ret
      exact ⟨rfl, HB.out⟩
    | true =>
      have HI2 := Lib.hid (HI.out true hv)
      have HS2 := Lib.hid (HS.out true hv)
      obtain ⟨m, rfl, ho⟩ := octZ_yes hv
      have hml := oct_lt ho
      have hl8 : (pl m).length = 8 := by rw [pl_len]; exact ho.2
      have t1 := through_part ho (List.take_sublist 5 (pl m)) (by rw [List.length_take]; omega)
      have t2 := through_part ho (List.drop_sublist 3 (pl m)) (by rw [List.length_drop]; omega)
      have T1 := Lib.hid t1
      have T2 := Lib.hid t2
      have HWP := Lib.hid (fun W => iWordPlaces m W hml)
      have e2 : ((m : Int) == (m : Int)) = true := by simp
      clear hv HI HS t1 t2 ho
      generalize pl m = L at *
      go_wp2_with fail
      refine (HI2.out w1).mono ?_
      rintro e w2 ⟨rfl, b2⟩
      go_wp2_with fail
      refine (HS2.out w2).mono ?_
      rintro e w3 ⟨rfl, b3⟩
      go_wp2_with fail
      refine (HWP.out w3).mono ?_
      rintro e w4 ⟨A4, n4, c4, rfl, o4, b4⟩
      obtain rfl : n4 = 8 := by have := o4.length; rw [nl_length, hl8] at this; omega
      obtain ⟨g, rfl, -, -⟩ := o4.form (by decide)
      have hcap := o4.le
      have hmax := o4.sl.max
      have s1 := o4.sl.part 0 5 c4 (by decide) (by omega) hmax
      have s2 := o4.sl.part 3 5 (c4 - 3) (by decide) (by omega) (by omega)
      rw [List.drop_zero, nl_take, Nat.add_zero] at s1
      rw [nl_drop, List.take_of_length_le (by rw [nl_length, List.length_drop]; omega), Nat.zero_add] at s2
      have HT1 := Lib.hid (iOctadThrough _ _ _ _ _ w4 s1 (by decide))
      have HT2 := Lib.hid (fun W (b : Below w4.heap.size w4 W) => iOctadThrough _ _ _ _ _ W (s2.below b) (by decide))
      rw [T1.out.1, T1.out.2] at HT1
      rw [T2.out.1, T2.out.2] at HT2
      have B4 := Lib.hid (below_to (below_to (below_to b1 b2 (Nat.le_refl _)) b3 (Nat.le_refl _)) b4 (Nat.le_refl _))
      clear b1 b2 b3 b4 o4 s1 s2
      go_wp2_with fail
      refine HT1.out.mono ?_
      rintro e w5 ⟨rfl, b5⟩
      go_wp2_with fail
      refine (HT2.out w5 b5).mono ?_
      rintro e w6 ⟨rfl, b6⟩
      have HB := Lib.hid (below_to (below_to B4.out b5 (Nat.le_refl _)) b6 (Nat.le_refl _))
      clear b5 b6
      go_wp2
      go_ret
      exact ⟨rfl, HB.out⟩
  · have e1 : decide ((1048576 : Int) < (n : Int)) = true := by simp; omega
    go_enter Try.func10, Try.ntmps10
    go_wp2
    go_ret
    exact ⟨rfl, Below.refl _ _⟩
end Go.Proofs.Ythggjkpnjogcaaa
