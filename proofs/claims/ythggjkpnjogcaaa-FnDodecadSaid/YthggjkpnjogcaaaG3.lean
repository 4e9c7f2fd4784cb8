import Derived.Test.YthggjkpnjogcaaaH6
import Derived.Test.YthggjkpnjogcaaaF16
import Derived.Test.YthggjkpnjogcaaaG0
namespace Go.Proofs.Ythggjkpnjogcaaa
open Go.RowKit

theorem iWordAdd (a b : Nat) (w : World) (ha : a < 16777216) (hb : b < 16777216) :
    Calls Try.prog 18 #[.int .i64 a, .int .i64 b] w fun e w' => e = .returned (.tuple #[.int .i64 ((a ^^^ b : Nat) : Int), .bool true]) ∧ w = w' := by
  have hxor := i64_xor a b (by omega) (by omega)
  go_enter Try.func18, Try.ntmps18
  go_wp2_with fail
  refine (iWordValid_yes a w ha).mono ?_
  rintro e w' ⟨rfl, rfl⟩
  go_wp2_with fail
  refine (iWordValid_yes b w hb).mono ?_
  rintro e w' ⟨rfl, rfl⟩
  go_wp2
  go_ret2
  exact ⟨rfl, rfl⟩

set_option maxRecDepth 100000 in
set_option maxHeartbeats 1000000 in
theorem lawFnDodecad (A : Option Addr) (n cap : Nat) (zs : List Int) (w : World) (h : IsRow .u8 w A n cap zs) :
    Calls Try.prog 3 #[.slice A n cap] w fun e w' => e = .returned (.bool true) ∧ Below w.heap.size w w' := by
  have H := Lib.hid h
  clear h
  by_cases hn : n ≤ 1048576
  · have e1 : decide ((1048576 : Int) < (n : Int)) = false := by simp; omega
    go_enter Try.func3, Try.ntmps3
    go_wp2_with fail
    refine (dDodecadOf A n cap zs w H.out hn).mono ?_
    rintro e w1 ⟨⟨x, rfl⟩, b1⟩
    have HI := Lib.hid (iDodecadOf x w1)
    have HS := Lib.hid (sDodecadOf x)
    cases hv : dodOk x with
    | false =>
      rw [hv, (dod_not hv).1, (dod_not hv).2] at HI HS
      clear hv
      go_wp2_with fail
      refine HI.out.mono ?_
      rintro e w2 ⟨rfl, b2⟩
      go_wp2_with fail
      refine (HS.out w2).mono ?_
      rintro e w3 ⟨rfl, b3⟩
      have HB := Lib.hid (below_to (below_to b1 b2 (Nat.le_refl _)) b3 (Nat.le_refl _))
      clear b1 b2 b3
      go_wp2
      go_ret
      exact ⟨rfl, HB.out⟩
    | true =>
      obtain ⟨m, a, rfl, hc, h12, ha⟩ := dod_nat hv
      obtain ⟨y1, y2, y3⟩ := dod_yes hc h12 ha
      obtain ⟨o1, o2, hlt, h2, hx⟩ := dod_facts hc h12 ha
      rw [y1, y2, y3] at HI HS
      have hal := oct_lt o1
      have hbl := oct_lt o2
      have HADD := Lib.hid (fun W => iWordAdd a (a ^^^ m) W hal hbl)
      rw [hx] at HADD
      have HM := Lib.hid (fun W => iWordMeet a (a ^^^ m) W hal hbl)
      have hl1 := Nat.lt_of_le_of_lt (Nat.and_le_left (n := a) (m := a ^^^ m)) hal
      have hwt := fun W => iWordWeight _ W hl1
      rw [h2] at hwt
      have HW := Lib.hid hwt
      have HO1 := Lib.hid (iOct_is (a : Int) true (by rw [octZ_nat _ hal]; exact (isOct_iff hal).2 o1))
      have HO2 := Lib.hid (iOct_is ((a ^^^ m : Nat) : Int) true (by rw [octZ_nat _ hbl]; exact (isOct_iff hbl).2 o2))
      have g1 : decide ((a : Int) < ((a ^^^ m : Nat) : Int)) = true := by simp; omega
      have e0 : ((a : Int) != (a : Int)) = false := by simp
      have e2 : (((a ^^^ m : Nat) : Int) != ((a ^^^ m : Nat) : Int)) = false := by simp
      have e3 : ((m : Int) == (m : Int)) = true := by simp
      clear hv y1 y2 y3 o1 o2 hx h2 hwt ha hc h12
      generalize a ^^^ m = b at *
      generalize a &&& b = c at *
      go_wp2_with fail
      refine HI.out.mono ?_
      rintro e w2 ⟨rfl, b2⟩
      go_wp2_with fail
      refine (HS.out w2).mono ?_
      rintro e w3 ⟨rfl, b3⟩
      go_wp2_with fail
      refine (HADD.out w3).mono ?_
      rintro e w' ⟨rfl, rfl⟩
      go_wp2_with fail
      refine (HM.out w3).mono ?_
      rintro e w' ⟨rfl, rfl⟩
      go_wp2_with fail
      refine (HO1.out w3).mono ?_
      rintro e w4 ⟨rfl, b4⟩
      go_wp2_with fail
      refine (HO2.out w4).mono ?_
      rintro e w5 ⟨rfl, b5⟩
      go_wp2_with fail
      refine (HW.out w5).mono ?_
      rintro e w' ⟨rfl, rfl⟩
      have HB := Lib.hid (below_to (below_to (below_to (below_to b1 b2 (Nat.le_refl _)) b3 (Nat.le_refl _)) b4 (Nat.le_refl _)) b5 (Nat.le_refl _))
      clear b1 b2 b3 b4 b5
      go_wp2
      go_ret
      exact ⟨rfl, HB.out⟩
  · have e1 : decide ((1048576 : Int) < (n : Int)) = true := by simp; omega
    go_enter Try.func3, Try.ntmps3
    go_wp2
    go_ret
    exact ⟨rfl, Below.refl _ _⟩
end Go.Proofs.Ythggjkpnjogcaaa
