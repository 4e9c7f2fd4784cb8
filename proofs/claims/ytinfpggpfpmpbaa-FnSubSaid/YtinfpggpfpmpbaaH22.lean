import Derived.Test.YtinfpggpfpmpbaaK1
import Derived.Test.YtinfpggpfpmpbaaF15
import Derived.Test.YtinfpggpfpmpbaaF5
import Derived.Test.YtinfpggpfpmpbaaG0
namespace Go.Proofs.Ytinfpggpfpmpbaa
open Go.RowKit

set_option maxRecDepth 100000 in
set_option maxHeartbeats 1000000 in
theorem lawFnSub (A : Option Addr) (n cap : Nat) (zs : List Int) (w : World) (h : IsRow .u8 w A n cap zs) :
    Calls Try.prog 14 #[.slice A n cap] w fun e w' => e = .returned (.bool true) ∧ Below w.heap.size w w' := by
  have H := Lib.hid h
  clear h
  by_cases hn : n ≤ 1048576
  · have e1 : decide ((1048576 : Int) < (n : Int)) = false := by simp; omega
    go_enter Try.func14, Try.ntmps14
    go_wp2_with fail
    refine (dPlaneSub A n cap zs w H.out hn).mono ?_
    rintro e w1 ⟨⟨x, y, rfl⟩, b1⟩
    have HI := Lib.hid (iPlaneSub x y w1)
    have HS := Lib.hid (sPlaneSub x y)
    cases hv : fourOk x y with
    | false =>
      have hr : subR x y = 0 := (sub_no hv).1
      rw [hv, hr] at HI HS
      clear hv hr
      go_wp2_with fail
      refine HI.out.mono ?_
      rintro e w2 ⟨rfl, b2⟩
      go_wp2_with fail
      refine (HS.out w2).mono ?_
      rintro e w3 ⟨rfl, b3⟩
      have HB := Lib.hid (below_to (below_to b1 b2 (Nat.le_refl _)) b3 (Nat.le_refl _))
      clear b1 b2 b3
      go_wp2
      go_ret
      exact ⟨rfl, HB.out⟩
    | true =>
      rw [hv] at HI HS
      obtain ⟨t, u, p0, p1, p2, p3, rfl, rfl, ht, h3, hu, hp, he, hq, hr⟩ := four_nat hv
      obtain ⟨f1, f2, f3, f4, -⟩ := frOf_facts hq
      rw [← he] at f2 f3 f4
      have hs := sub_yes hv
      rw [hr] at hs
      rw [hs] at HI HS
      have hfo := fun W => iPlaneFour (t : Int) (u : Int) W
      rw [hv, hr] at hfo
      have HFO := Lib.hid hfo
      have hln := iPlaneLines (t : Int)
      rw [(pln_yes ht h3).1, (pln_yes ht h3).2] at hln
      have HLN := Lib.hid hln
      have hlen := lines_21 ht h3
      have HF := Lib.hid (fun (k l : Nat) (hl : (lns t 0)[k]? = some l) => And.intro (line_lt ht ((mem_lns ht).1 (List.mem_of_getElem? hl)).1) (f4 l ((mem_lns ht).1 (List.mem_of_getElem? hl)).1))
      have hor := i64_or (frOf t p0 p1 p2 p3) u (by omega) (by omega)
      have hol := or_lt f1 hu
      have hw := fun W => iWordWeight _ W hol
      rw [f3] at hw
      have HW7 := Lib.hid hw
      clear hv hp he hq hr f2 f3 f4 hs hfo hln h3 ht hw
      generalize lns t 0 = L at *
      generalize frOf t p0 p1 p2 p3 = f at *
      generalize f ||| u = s at *
      have e0 : ((s : Int) != (s : Int)) = false := by simp
      have e2 : ((s : Int) == (s : Int)) = true := by simp
      go_wp2_with fail
      refine HI.out.mono ?_
      rintro e w2 ⟨rfl, b2⟩
      go_wp2_with fail
      refine (HS.out w2).mono ?_
      rintro e w3 ⟨rfl, b3⟩
      go_wp2_with fail
      refine (HFO.out w3).mono ?_
      rintro e w4 ⟨rfl, b4⟩
      go_wp2_with fail
      refine (HLN.out w4).mono ?_
      rintro e w5 ⟨A5, n5, c5, rfl, o5, b5⟩
      obtain rfl : n5 = 21 := by have := o5.length; rw [nl_length, hlen] at this; omega
      have HB := Lib.hid (below_to (below_to (below_to (below_to b1 b2 (Nat.le_refl _)) b3 (Nat.le_refl _)) b4 (Nat.le_refl _)) b5 (Nat.le_refl _))
      have S5 := Lib.hid o5.sl
      clear b1 b2 b3 b4 b5 o5 HI HS HLN HFO
      go_wp2
      go_loop [13] (fun iv => ∃ k : Nat, k ≤ 21 ∧ iv = .int .i64 k) (fun iv => 21 - (intOf iv).toNat)
      case atStart => exact ⟨0, Nat.zero_le _, rfl⟩
      case round =>
        obtain ⟨k, hk, rfl⟩ := hrel
        by_cases hlt : k < 21
        · obtain ⟨bb, o, l, rfl, hbl, hl, hc⟩ := S5.out.nat hlt
          obtain ⟨hll, h02⟩ := HF.out k l hl
          have hand := i64_and l s (by omega) (by omega)
          have HWW := Lib.hid (fun W => iWordWeight (l &&& s) W (and_lt hll))
          clear hl
          rcases h02 with h0 | h1 | h3
          · rw [h0] at HWW
            clear h0
            go_wp2_with (first | (go_at_call 30; refine (HWW.out _).mono ?_; rintro e w' ⟨rfl, rfl⟩))
            go_round
            case rel => exact ⟨k + 1, by omega, by go_num⟩
            case measure => simp [intOf]; omega
          · rw [h1] at HWW
            clear h1
            go_wp2_with (first | (go_at_call 30; refine (HWW.out _).mono ?_; rintro e w' ⟨rfl, rfl⟩))
            go_round
            case rel => exact ⟨k + 1, by omega, by go_num⟩
            case measure => simp [intOf]; omega
          · rw [h3] at HWW
            clear h3
            go_wp2_with (first | (go_at_call 30; refine (HWW.out _).mono ?_; rintro e w' ⟨rfl, rfl⟩))
            go_round
            case rel => exact ⟨k + 1, by omega, by go_num⟩
            case measure => simp [intOf]; omega
        · obtain rfl : k = 21 := by omega
          go_wp2_with (first | (go_at_call 30; refine (HW7.out _).mono ?_; rintro e w' ⟨rfl, rfl⟩))
          go_ret
          exact ⟨rfl, HB.out⟩
  · have e1 : decide ((1048576 : Int) < (n : Int)) = true := by simp; omega
    go_enter Try.func14, Try.ntmps14
    go_wp2
    go_ret
    exact ⟨rfl, Below.refl _ _⟩
end Go.Proofs.Ytinfpggpfpmpbaa
