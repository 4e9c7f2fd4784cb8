import Derived.Test.YtdomilpnhkkkiaaE6
import Derived.Test.YtdomilpnhkkkiaaC10
namespace Go.Proofs.Ytdomilpnhkkkiaa
open Go.RowKit

theorem iWordMeet (a b : Nat) (w : World) (ha : a < 16777216) (hb : b < 16777216) :
    Calls Try.prog 39 #[.int .i64 a, .int .i64 b] w fun e w' => e = .returned (.tuple #[.int .i64 ((a &&& b : Nat) : Int), .bool true]) ∧ w = w' := by
  have hand := i64_and a b (by omega) (by omega)
  go_enter Try.func39, Try.ntmps39
  go_wp2_with fail
  refine (iWordValid_yes a w ha).mono ?_
  rintro e w' ⟨rfl, rfl⟩
  go_wp2_with fail
  refine (iWordValid_yes b w hb).mono ?_
  rintro e w' ⟨rfl, rfl⟩
  go_wp2
  go_ret2
  exact ⟨rfl, rfl⟩
theorem iWordWeight (a : Nat) (w : World) (ha : a < 16777216) :
    Calls Try.prog 40 #[.int .i64 a] w fun e w' => e = .returned (.int .i64 (wt a)) ∧ w = w' := by
  go_enter Try.func40, Try.ntmps40
  go_wp2_with fail
  refine (iWordValid_yes a w ha).mono ?_
  rintro e w' ⟨rfl, rfl⟩
  go_wp2_with fail
  refine (iweight a w ha).mono ?_
  rintro e w' ⟨rfl, rfl⟩
  go_wp2
  go_ret
  exact ⟨rfl, rfl⟩

/-- Two octads whose sum is one: they meet in four places, and the sum meets each in four. -/
theorem pair_facts {a b : Nat} (ha : Oct a) (hb : Oct b) (h : wt (a ^^^ b) = 8) :
    Oct (a ^^^ b) ∧ wt (a &&& b) = 4 ∧ wt ((a ^^^ b) &&& a) = 4 ∧ (a ^^^ b) ^^^ a = b := by
  have h1 := wt_xor a b
  have e : (a ^^^ b) ^^^ a = b := by rw [Nat.xor_comm a b]; exact xor_self_r b a
  have h2 := wt_xor (a ^^^ b) a
  rw [e] at h2
  have := ha.2
  have := hb.2
  exact ⟨⟨cod_xor ha.1 hb.1, h⟩, by omega, by omega, e⟩
theorem pair_true {x y : Int} (h : pairOk x y = true) : ∃ a b : Nat, x = a ∧ y = b ∧ Oct a ∧ Oct b ∧ wt (a ^^^ b) = 8 := by
  unfold pairOk at h
  rw [Bool.and_eq_true, Bool.and_eq_true, decide_eq_true_eq] at h
  obtain ⟨a, rfl, ha⟩ := octZ_yes h.1.1
  obtain ⟨b, rfl, hb⟩ := octZ_yes h.1.2
  exact ⟨a, b, rfl, rfl, ha, hb, h.2⟩

set_option maxRecDepth 100000 in
set_option maxHeartbeats 1000000 in
theorem lawFnOctadPair (A : Option Addr) (n cap : Nat) (zs : List Int) (w : World) (h : IsRow .u8 w A n cap zs) :
    Calls Try.prog 12 #[.slice A n cap] w fun e w' => e = .returned (.bool true) ∧ Below w.heap.size w w' := by
  have H := Lib.hid h
  clear h
  by_cases hn : n ≤ 1048576
  · have e1 : decide ((1048576 : Int) < (n : Int)) = false := by simp; omega
    go_enter Try.func12, Try.ntmps12
    go_wp2_with fail
    refine (dOctadPair A n cap zs w H.out hn).mono ?_
    rintro e w1 ⟨x, y, rfl, b1⟩
    have HI := Lib.hid (iOctadPair x y w1)
    have HS := Lib.hid (sOctadPair x y)
    cases hv : pairOk x y with
    | false =>
      rw [hv] at HI HS
      have hr : pairR x y = 0 := by unfold pairR; rw [hv]; rfl
      rw [hr] at HI HS
      clear hv hr
      go_wp2_with fail
      refine HI.out.mono ?_
      rintro e w2 ⟨rfl, b2⟩
      go_wp2_with fail
      refine (HS.out w2).mono ?_
      rintro e w3 ⟨rfl, b3⟩
      have HB := Lib.hid (below_to (below_to b1 b2 (Nat.le_refl _)) b3 (Nat.le_refl _))
      clear b1 b2 b3
      go_wp2
      go_ret
      exact ⟨rfl, HB.out⟩
    | true =>
      obtain ⟨a, b, rfl, rfl, ha, hb, h8⟩ := pair_true hv
      obtain ⟨ho, hm1, hm2, hx⟩ := pair_facts ha hb h8
      rw [(pair_yes ha hb h8).1, (pair_yes ha hb h8).2] at HI HS
      have hla := oct_lt ha
      have hlb := oct_lt hb
      have hlo := oct_lt ho
      have p3 := pair_yes ho ha (by rw [hx]; exact hb.2)
      rw [hx] at p3
      have hz := iOctadPair ((a ^^^ b : Nat) : Int) a
      rw [p3.1, p3.2] at hz
      have HZ := Lib.hid hz
      have hoc := iOct_is ((a ^^^ b : Nat) : Int) true (by rw [octZ_nat _ hlo]; exact (isOct_iff hlo).2 ho)
      have HOc := Lib.hid hoc
      have hl1 := Nat.lt_of_le_of_lt (Nat.and_le_left (n := a ^^^ b) (m := a)) hlo
      have hl2 := Nat.lt_of_le_of_lt (Nat.and_le_left (n := a) (m := b)) hla
      have hw1 := fun W => iWordWeight _ W hl1
      have hw2 := fun W => iWordWeight _ W hl2
      rw [hm2] at hw1
      rw [hm1] at hw2
      have HW1 := Lib.hid hw1
      have HW2 := Lib.hid hw2
      have HM1 := Lib.hid (fun W => iWordMeet (a ^^^ b) a W hlo hla)
      have HM2 := Lib.hid (fun W => iWordMeet a b W hla hlb)
      have e0 : (((a ^^^ b : Nat) : Int) != ((a ^^^ b : Nat) : Int)) = false := by simp
      have e2 : ((b : Int) == (b : Int)) = true := by simp
      clear hv ho hm1 hm2 hx ha hb h8 p3 hz hoc hw1 hw2
      go_wp2_with fail
      refine HI.out.mono ?_
      rintro e w2 ⟨rfl, b2⟩
      go_wp2_with fail
      refine (HS.out w2).mono ?_
      rintro e w3 ⟨rfl, b3⟩
      go_wp2_with fail
      refine (HM1.out w3).mono ?_
      rintro e w' ⟨rfl, rfl⟩
      go_wp2_with fail
      refine (HM2.out w3).mono ?_
      rintro e w' ⟨rfl, rfl⟩
      go_wp2_with fail
      refine (HZ.out w3).mono ?_
      rintro e w4 ⟨rfl, b4⟩
      go_wp2_with fail
      refine (HOc.out w4).mono ?_
      rintro e w5 ⟨rfl, b5⟩
      go_wp2_with fail
      refine (HW1.out w5).mono ?_
      rintro e w' ⟨rfl, rfl⟩
      go_wp2_with fail
      refine (HW2.out w5).mono ?_
      rintro e w' ⟨rfl, rfl⟩
      have HB := Lib.hid (below_to (below_to (below_to (below_to b1 b2 (Nat.le_refl _)) b3 (Nat.le_refl _)) b4 (Nat.le_refl _)) b5 (Nat.le_refl _))
      clear b1 b2 b3 b4 b5
      go_wp2
      go_ret
      exact ⟨rfl, HB.out⟩
  · have e1 : decide ((1048576 : Int) < (n : Int)) = true := by simp; omega
    go_enter Try.func12, Try.ntmps12
    go_wp2
    go_ret
    exact ⟨rfl, Below.refl _ _⟩
end Go.Proofs.Ytdomilpnhkkkiaa
