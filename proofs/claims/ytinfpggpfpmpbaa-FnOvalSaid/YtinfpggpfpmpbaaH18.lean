import Derived.Test.YtinfpggpfpmpbaaK1
import Derived.Test.YtinfpggpfpmpbaaD4
import Derived.Test.YtinfpggpfpmpbaaF5
import Derived.Test.YtinfpggpfpmpbaaG0
import Derived.Test.YtinfpggpfpmpbaaM12
namespace Go.Proofs.Ytinfpggpfpmpbaa
open Go.RowKit

theorem spread_nat {x y : Int} (h : spreadZ x y = true) : ∃ b u : Nat, x = b ∧ y = u ∧ b < 16777216 ∧ wt b = 3 ∧ u < 16777216 ∧ u &&& b = 0 ∧ Thin b u := by
  have h' := h
  unfold spreadZ at h'
  simp only [Bool.and_eq_true, decide_eq_true_eq] at h'
  obtain ⟨b, rfl, hb, h3⟩ := baseZ_nat h'.1
  obtain ⟨u, rfl, hu⟩ := spread_word h
  have h4 := h'.2.2
  rw [Int.toNat_natCast, Int.toNat_natCast] at h4
  exact ⟨b, u, rfl, rfl, hb, h3, hu, h4.1, (thinL_iff hb).1 h4.2⟩

theorem oval_nat {x y : Int} (h : ovalZ x y = true) : ∃ b u : Nat, x = b ∧ y = u ∧ b < 16777216 ∧ wt b = 3 ∧ u < 16777216 ∧ u &&& b = 0 ∧ Thin b u ∧ wt u = 6 := by
  have h' := h
  unfold ovalZ at h'
  rw [Bool.and_eq_true, decide_eq_true_eq] at h'
  obtain ⟨b, u, rfl, rfl, h1, h2, h3, h4, h5⟩ := spread_nat h'.1
  exact ⟨b, u, rfl, rfl, h1, h2, h3, h4, h5, h'.2⟩

set_option maxRecDepth 100000 in
set_option maxHeartbeats 1000000 in
theorem lawFnOval (A : Option Addr) (n cap : Nat) (zs : List Int) (w : World) (h : IsRow .u8 w A n cap zs) :
    Calls Try.prog 10 #[.slice A n cap] w fun e w' => e = .returned (.bool true) ∧ Below w.heap.size w w' := by
  have H := Lib.hid h
  clear h
  by_cases hn : n ≤ 1048576
  · have e1 : decide ((1048576 : Int) < (n : Int)) = false := by simp; omega
    go_enter Try.func10, Try.ntmps10
    go_wp2_with fail
    refine (dPlaneOval A n cap zs w H.out hn).mono ?_
    rintro e w1 ⟨⟨x, y, rfl⟩, b1⟩
    have HI := Lib.hid (iPlaneOval x y w1)
    have HS := Lib.hid (sPlaneOval x y)
    cases hv : ovalZ x y with
    | false =>
      rw [hv] at HI HS
      clear hv
      go_wp2_with fail
      refine HI.out.mono ?_
      rintro e w2 ⟨rfl, b2⟩
      go_wp2_with fail
      refine (HS.out w2).mono ?_
      rintro e w3 ⟨rfl, b3⟩
      have HB := Lib.hid (below_to (below_to b1 b2 (Nat.le_refl _)) b3 (Nat.le_refl _))
      clear b1 b2 b3
      go_wp2
      go_ret
      exact ⟨rfl, HB.out⟩
    | true =>
      rw [hv] at HI HS
      obtain ⟨b, u, rfl, rfl, hb, h3, hu, hd, ht, h6⟩ := oval_nat hv
      have hln := iPlaneLines (b : Int)
      rw [(pln_yes hb h3).1, (pln_yes hb h3).2] at hln
      have HLN := Lib.hid hln
      have hlen := lines_21 hb h3
      have HF := Lib.hid (fun (k l : Nat) (hl : (lns b 0)[k]? = some l) => And.intro (line_lt hb ((mem_lns hb).1 (List.mem_of_getElem? hl)).1) (oval_lines hb h3 h6 hd ht ((mem_lns hb).1 (List.mem_of_getElem? hl)).1))
      have hw := fun W => iWordWeight u W hu
      rw [h6] at hw
      have HW6 := Lib.hid hw
      clear hv hln hd ht h6 hw
      generalize lns b 0 = L at *
      go_wp2_with fail
      refine HI.out.mono ?_
      rintro e w2 ⟨rfl, b2⟩
      go_wp2_with fail
      refine (HS.out w2).mono ?_
      rintro e w3 ⟨rfl, b3⟩
      go_wp2_with fail
      refine (HLN.out w3).mono ?_
      rintro e w5 ⟨A5, n5, c5, rfl, o5, b5⟩
      obtain rfl : n5 = 21 := by have := o5.length; rw [nl_length, hlen] at this; omega
      have HB := Lib.hid (below_to (below_to (below_to b1 b2 (Nat.le_refl _)) b3 (Nat.le_refl _)) b5 (Nat.le_refl _))
      have S5 := Lib.hid o5.sl
      clear b1 b2 b3 b5 o5 HI HS HLN
      go_wp2
      go_loop [9] (fun iv => ∃ k : Nat, k ≤ 21 ∧ iv = .int .i64 k) (fun iv => 21 - (intOf iv).toNat)
      case atStart => exact ⟨0, Nat.zero_le _, rfl⟩
      case round =>
        obtain ⟨k, hk, rfl⟩ := hrel
        by_cases hlt : k < 21
        · obtain ⟨bb, o, l, rfl, hbl, hl, hc⟩ := S5.out.nat hlt
          obtain ⟨hll, h02⟩ := HF.out k l hl
          have hand := i64_and l u (by omega) (by omega)
          have HWW := Lib.hid (fun W => iWordWeight (l &&& u) W (and_lt hll))
          clear hl
          rcases h02 with h0 | h2
          · rw [h0] at HWW
            clear h0
            go_wp2_with (first | (go_at_call 30; refine (HWW.out _).mono ?_; rintro e w' ⟨rfl, rfl⟩))
            go_round
            case rel => exact ⟨k + 1, by omega, by go_num⟩
            case measure => simp [intOf]; omega
          · rw [h2] at HWW
            clear h2
            go_wp2_with (first | (go_at_call 30; refine (HWW.out _).mono ?_; rintro e w' ⟨rfl, rfl⟩))
            go_round
            case rel => exact ⟨k + 1, by omega, by go_num⟩
            case measure => simp [intOf]; omega
        · obtain rfl : k = 21 := by omega
          go_wp2_with (first | (go_at_call 30; refine (HW6.out _).mono ?_; rintro e w' ⟨rfl, rfl⟩))
          go_ret
          exact ⟨rfl, HB.out⟩
  · have e1 : decide ((1048576 : Int) < (n : Int)) = true := by simp; omega
    go_enter Try.func10, Try.ntmps10
    go_wp2
    go_ret
    exact ⟨rfl, Below.refl _ _⟩
end Go.Proofs.Ytinfpggpfpmpbaa
