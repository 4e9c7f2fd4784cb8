import Derived.Test.YthggjkpnjogcaaaH6
import Derived.Test.YthggjkpnjogcaaaD1
import Derived.Test.YthggjkpnjogcaaaM12
namespace Go.Proofs.Ythggjkpnjogcaaa
open Go.RowKit

theorem cnt_nat {x y : Int} (h : cntOk x y = true) : ∃ a b : Nat, x = a ∧ y = b ∧ a < 16777216 ∧ b < 16777216 := by
  unfold cntOk at h
  rw [Bool.and_eq_true] at h
  rcases word_cases x with ⟨a, rfl, ha⟩ | hx
  · rcases word_cases y with ⟨b, rfl, hb⟩ | hy
    · exact ⟨a, b, rfl, rfl, ha, hb⟩
    · rw [valid_no hy] at h; cases h.2
  · rw [valid_no hx] at h; cases h.1

set_option maxRecDepth 100000 in
set_option maxHeartbeats 1000000 in
theorem lawFnOctadCount (A : Option Addr) (n cap : Nat) (zs : List Int) (w : World) (h : IsRow .u8 w A n cap zs) :
    Calls Try.prog 5 #[.slice A n cap] w fun e w' => e = .returned (.bool true) ∧ Below w.heap.size w w' := by
  have H := Lib.hid h
  clear h
  by_cases hn : n ≤ 1048576
  · have e1 : decide ((1048576 : Int) < (n : Int)) = false := by simp; omega
    go_enter Try.func5, Try.ntmps5
    go_wp2_with fail
    refine (dOctadCount A n cap zs w H.out hn).mono ?_
    rintro e w1 ⟨⟨x, y, rfl⟩, b1⟩
    have HI := Lib.hid (iOctadCount x y w1)
    have HS := Lib.hid (sOctadCount x y)
    cases hv : cntOk x y with
    | false =>
      have hr : cntR x y = 0 := by unfold cntR; rw [hv]; exact if_neg (by decide)
      rw [hv, hr] at HI HS
      clear hv hr
      go_wp2_with fail
      refine HI.out.mono ?_
      rintro e w2 ⟨rfl, b2⟩
      go_wp2_with fail
      refine (HS.out w2).mono ?_
      rintro e w3 ⟨rfl, b3⟩
      have HB := Lib.hid (below_to (below_to b1 b2 (Nat.le_refl _)) b3 (Nat.le_refl _))
      clear b1 b2 b3
      go_wp2
      go_ret
      exact ⟨rfl, HB.out⟩
    | true =>
      obtain ⟨a, b, rfl, rfl, ha, hb⟩ := cnt_nat hv
      rw [(cnt_yes ha hb).1, (cnt_yes ha hb).2] at HI HS
      have hall := iOctadCount ((0 : Nat) : Int) ((0 : Nat) : Int)
      rw [(cnt_yes (by decide) (by decide)).1, (cnt_yes (by decide) (by decide)).2, cnt0] at hall
      have HALL := Lib.hid hall
      have hora : bits .or .i64 (a : Int) 1 = ((a ||| 1 : Nat) : Int) := i64_or a 1 (by omega) (by decide)
      have horb : bits .or .i64 (b : Int) 1 = ((b ||| 1 : Nat) : Int) := i64_or b 1 (by omega) (by decide)
      have hor := i64_or a b (by omega) (by omega)
      have hl1 : a ||| 1 < 16777216 := or_lt ha (by decide)
      have hl2 : b ||| 1 < 16777216 := or_lt hb (by decide)
      have hl3 : a ||| b < 16777216 := or_lt ha hb
      have hx := iOctadCount ((a ||| 1 : Nat) : Int) (b : Int)
      rw [(cnt_yes hl1 hb).1, (cnt_yes hl1 hb).2] at hx
      have HX := Lib.hid hx
      have hy := iOctadCount (a : Int) ((b ||| 1 : Nat) : Int)
      rw [(cnt_yes ha hl2).1, (cnt_yes ha hl2).2] at hy
      have HY := Lib.hid hy
      have hsp := cnt_split a b 0
      rw [show (1 : Nat) <<< 0 = 1 from rfl] at hsp
      have hle : cnt a b ≤ 759 := octs_len _
      have e0 : ((cnt a b : Int) != (cnt a b : Int)) = false := by simp
      clear hv hall hx hy
      generalize cnt a b = c at *
      generalize cnt (a ||| 1) b = c1 at *
      generalize cnt a (b ||| 1) = c2 at *
      generalize a ||| 1 = a1 at *
      generalize b ||| 1 = b1' at *
      generalize a ||| b = ab at *
      go_wp2_with fail
      refine HI.out.mono ?_
      rintro e w2 ⟨rfl, b2⟩
      go_wp2_with fail
      refine (HS.out w2).mono ?_
      rintro e w3 ⟨rfl, b3⟩
      go_wp2_with fail
      refine (HALL.out w3).mono ?_
      rintro e w4 ⟨rfl, b4⟩
      have B4 := Lib.hid (below_to (below_to (below_to b1 b2 (Nat.le_refl _)) b3 (Nat.le_refl _)) b4 (Nat.le_refl _))
      clear b1 b2 b3 b4
      by_cases hodd : ab % 2 = 1
      · have g1 : ((ab : Int) % 2 == 1) = true := by simp; omega
        have g2 : ((ab : Int).tmod 2 == 1) = true := by rw [Int.tmod_eq_emod_of_nonneg (by omega)]; exact g1
        have g4 : (((ab % 2 : Nat) : Int) == 1) = true := by simp; omega
        go_wp2
        go_ret
        exact ⟨rfl, B4.out⟩
      · have g1 : ((ab : Int) % 2 == 1) = false := by simp; omega
        have g2 : ((ab : Int).tmod 2 == 1) = false := by rw [Int.tmod_eq_emod_of_nonneg (by omega)]; exact g1
        have g4 : (((ab % 2 : Nat) : Int) == 1) = false := by simp; omega
        go_wp2_with fail
        refine (HX.out w4).mono ?_
        rintro e w5 ⟨rfl, b5⟩
        go_wp2_with fail
        refine (HY.out w5).mono ?_
        rintro e w6 ⟨rfl, b6⟩
        have HB := Lib.hid (below_to (below_to B4.out b5 (Nat.le_refl _)) b6 (Nat.le_refl _))
        have g3 : ((c1 : Int) + (c2 : Int) == (c : Int)) = true := by simp; omega
        clear b5 b6
        go_wp2
        go_ret
        exact ⟨rfl, HB.out⟩
  · have e1 : decide ((1048576 : Int) < (n : Int)) = true := by simp; omega
    go_enter Try.func5, Try.ntmps5
    go_wp2
    go_ret
    exact ⟨rfl, Below.refl _ _⟩
end Go.Proofs.Ythggjkpnjogcaaa
