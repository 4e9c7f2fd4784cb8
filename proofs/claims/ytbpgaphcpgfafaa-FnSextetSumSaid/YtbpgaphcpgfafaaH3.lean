import Derived.Test.YtbpgaphcpgfafaaH1
import Derived.Test.YtbpgaphcpgfafaaG2
import Derived.Test.YtbpgaphcpgfafaaF4
import Derived.Test.YtbpgaphcpgfafaaM6
namespace Go.Proofs.Ytbpgaphcpgfafaa
open Go.RowKit

theorem iWordAdd (a b : Nat) (w : World) (ha : a < 16777216) (hb : b < 16777216) :
    Calls Try.prog 36 #[.int .i64 a, .int .i64 b] w fun e w' => e = .returned (.tuple #[.int .i64 ((a ^^^ b : Nat) : Int), .bool true]) ∧ w = w' := by
  have hxor := i64_xor a b (by omega) (by omega)
  go_enter Try.func36, Try.ntmps36
  go_wp2_with fail
  refine (iWordValid_yes a w ha).mono ?_
  rintro e w' ⟨rfl, rfl⟩
  go_wp2_with fail
  refine (iWordValid_yes b w hb).mono ?_
  rintro e w' ⟨rfl, rfl⟩
  go_wp2
  go_ret2
  exact ⟨rfl, rfl⟩
theorem sum_nat {x y : Int} (h : sumOk x y = true) : ∃ a b : Nat, x = a ∧ y = b ∧ a < 16777216 ∧ wt a = 4 ∧ b < 16777216 ∧ wt b = 4 ∧ wt (a &&& b) = 2 := by
  by_cases h1 : tetZ x = true
  · by_cases h2 : tetZ y = true
    · obtain ⟨a, rfl, ha, ha4⟩ := tetZ_nat h1
      obtain ⟨b, rfl, hb, hb4⟩ := tetZ_nat h2
      by_cases h3 : wt (a &&& b) = 2
      · exact ⟨a, b, rfl, rfl, ha, ha4, hb, hb4, h3⟩
      · rw [(sum_no (a := (a : Int)) (b := (b : Int)) (.inr (.inr h3))).1] at h; cases h
    · rw [(sum_no (a := x) (b := y) (.inr (.inl (by simpa using h2)))).1] at h; cases h
  · rw [(sum_no (a := x) (b := y) (.inl (by simpa using h1))).1] at h; cases h

set_option maxRecDepth 100000 in
set_option maxHeartbeats 1000000 in
theorem lawFnSextetSum (A : Option Addr) (n cap : Nat) (zs : List Int) (w : World) (h : IsRow .u8 w A n cap zs) :
    Calls Try.prog 9 #[.slice A n cap] w fun e w' => e = .returned (.bool true) ∧ Below w.heap.size w w' := by
  have H := Lib.hid h
  clear h
  by_cases hn : n ≤ 1048576
  · have e1 : decide ((1048576 : Int) < (n : Int)) = false := by simp; omega
    go_enter Try.func9, Try.ntmps9
    go_wp2_with fail
    refine (dSextetSum A n cap zs w H.out hn).mono ?_
    rintro e w1 ⟨x, y, rfl, b1⟩
    have HI := Lib.hid (iSextetSum x y w1)
    have HS := Lib.hid (sSextetSum x y)
    cases hv : sumOk x y with
    | false =>
      rw [hv] at HI HS
      have hr : sumR x y = [] := by unfold sumR; rw [hv]; rfl
      rw [hr] at HI HS
      clear hv hr
      go_wp2_with fail
      refine HI.out.mono ?_
      rintro e w2 ⟨A2, n2, c2, rfl, o2, b2⟩
      go_wp2_with fail
      refine (HS.out w2).mono ?_
      rintro e w3 ⟨A3, n3, c3, rfl, o3, b3⟩
      have hn2 : n2 ≤ 1048576 := by have := o2.length; rw [nl_length] at this; simp at this; omega
      have S2 := (o2.below b3 (Nat.le_refl _)).sl
      have HB3 := below_to (below_to b1 b2 (Nat.le_refl _)) b3 (Nat.le_refl _)
      go_wp2_with fail
      refine (sameInts w3.heap.size A2 A3 n2 n3 c2 c3 _ _ w3 S2 o3.sl hn2).mono ?_
      rw [decide_eq_true rfl]
      rintro e w4 ⟨rfl, b4⟩
      go_wp2_with fail
      refine (sameInts w4.heap.size A2 A3 n2 n3 c2 c3 _ _ w4 ((S2.below b4).more b4.size) ((o3.sl.below b4).more b4.size) hn2).mono ?_
      rw [decide_eq_true rfl]
      rintro e w5 ⟨rfl, b5⟩
      have HB := Lib.hid (below_to (below_to HB3 b4 (Nat.le_refl _)) b5 (Nat.le_refl _))
      clear b1 b2 b3 b4 b5 o2 o3 S2 HB3
      go_wp2
      go_ret
      exact ⟨rfl, HB.out⟩
    | true =>
      obtain ⟨a, b, rfl, rfl, ha, ha4, hb, hb4, h2⟩ := sum_nat hv
      have hs := sum_yes ha ha4 hb hb4 h2
      rw [hs.1, hs.2.1] at HI HS
      have hx4 := hs.2.2.2
      have hxl := hs.2.2.1
      have hl6 := sext_len hxl hx4
      have HX := Lib.hid (iSextetOf ((a ^^^ b : Nat) : Int))
      rw [(sx_yes hxl hx4).1, (sx_yes hxl hx4).2] at HX
      have HA := Lib.hid (fun W => iWordAdd a b W ha hb)
      have HL := Lib.hid hl6
      clear hv hs hl6
      generalize sext (a ^^^ b) = M at HI HS HX HL
      generalize a ^^^ b = c at HX HA
      go_wp2_with fail
      refine HI.out.mono ?_
      rintro e w2 ⟨A2, n2, c2, rfl, o2, b2⟩
      go_wp2_with fail
      refine (HS.out w2).mono ?_
      rintro e w3 ⟨A3, n3, c3, rfl, o3, b3⟩
      have hn2 : n2 ≤ 1048576 := by have := o2.length; rw [nl_length, HL.out] at this; omega
      have S2 := (o2.below b3 (Nat.le_refl _)).sl
      have HB3 := below_to (below_to b1 b2 (Nat.le_refl _)) b3 (Nat.le_refl _)
      go_wp2_with fail
      refine (sameInts w3.heap.size A2 A3 n2 n3 c2 c3 _ _ w3 S2 o3.sl hn2).mono ?_
      rw [decide_eq_true rfl]
      rintro e w4 ⟨rfl, b4⟩
      have S4 := (S2.below b4).more b4.size
      have HB4 := below_to HB3 b4 (Nat.le_refl _)
      go_wp2_with fail
      refine (HA.out w4).mono ?_
      rintro e w' ⟨rfl, rfl⟩
      go_wp2_with fail
      refine (HX.out w4).mono ?_
      rintro e w5 ⟨A5, n5, c5, rfl, o5, b5⟩
      have hn5 : n5 ≤ 1048576 := by have := o5.length; rw [nl_length, HL.out] at this; omega
      go_wp2_with fail
      refine (sameInts w5.heap.size A5 A2 n5 n2 c5 c2 _ _ w5 o5.sl ((S4.below b5).more b5.size) hn5).mono ?_
      rw [decide_eq_true rfl]
      rintro e w6 ⟨rfl, b6⟩
      have HB := Lib.hid (below_to (below_to HB4 b5 (Nat.le_refl _)) b6 (Nat.le_refl _))
      clear b1 b2 b3 b4 b5 b6 o2 o3 o5 S2 S4 HB3 HB4
      go_wp2
      go_ret
      exact ⟨rfl, HB.out⟩
  · have e1 : decide ((1048576 : Int) < (n : Int)) = true := by simp; omega
    go_enter Try.func9, Try.ntmps9
    go_wp2
    go_ret
    exact ⟨rfl, Below.refl _ _⟩
end Go.Proofs.Ytbpgaphcpgfafaa
