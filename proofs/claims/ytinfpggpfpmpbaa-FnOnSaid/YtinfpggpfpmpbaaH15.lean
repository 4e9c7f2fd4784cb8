import Derived.Test.YtinfpggpfpmpbaaH12
import Derived.Test.YtinfpggpfpmpbaaF7
import Derived.Test.YtinfpggpfpmpbaaM15
namespace Go.Proofs.Ytinfpggpfpmpbaa
open Go.RowKit

theorem odd_bit {y p : Nat} (h : y.testBit p = true) : ((y : Int) / 2 ^ p) % 2 = 1 ∧ ((y : Int) / 2 ^ p).tmod 2 = 1 := by
  have h2 : y / 2 ^ p % 2 = 1 := by rw [← bt_div, bt_one.2 h]
  have e : ((y : Int) / 2 ^ p) = ((y / 2 ^ p : Nat) : Int) := by simp
  rw [e]
  generalize y / 2 ^ p = m at h2
  refine ⟨by omega, ?_⟩
  show ((m % 2 : Nat) : Int) = 1
  rw [h2]; rfl

set_option maxRecDepth 100000 in
set_option maxHeartbeats 1000000 in
theorem lawFnLine (A : Option Addr) (n cap : Nat) (zs : List Int) (w : World) (h : IsRow .u8 w A n cap zs) :
    Calls Try.prog 8 #[.slice A n cap] w fun e w' => e = .returned (.bool true) ∧ Below w.heap.size w w' := by
  have H := Lib.hid h
  clear h
  by_cases hn : n ≤ 1048576
  · have e1 : decide ((1048576 : Int) < (n : Int)) = false := by simp; omega
    go_enter Try.func8, Try.ntmps8
    go_wp2_with fail
    refine (dPlaneLine A n cap zs w H.out hn).mono ?_
    rintro e w1 ⟨⟨x, p, q, rfl⟩, b1⟩
    have HI := Lib.hid (iPlaneLine x p q w1)
    have HS := Lib.hid (sPlaneLine x p q)
    cases hv : lineOk x p q with
    | false =>
      have hr : lineR x p q = 0 := by unfold lineR; rw [hv]; exact if_neg (by decide)
      rw [hv, hr] at HI HS
      clear hv hr
      go_wp2_with fail
      refine HI.out.mono ?_
      rintro e w2 ⟨rfl, b2⟩
      go_wp2_with fail
      refine (HS.out w2).mono ?_
      rintro e w3 ⟨rfl, b3⟩
      have HB := Lib.hid (below_to (below_to b1 b2 (Nat.le_refl _)) b3 (Nat.le_refl _))
      clear b1 b2 b3
      go_wp2
      go_ret
      exact ⟨rfl, HB.out⟩
    | true =>
      rw [hv] at HI HS
      have hok := hv
      unfold lineOk at hok
      simp only [Bool.and_eq_true, decide_eq_true_eq] at hok
      obtain ⟨b, y, z, rfl, rfl, rfl, hp⟩ := lineP hok.1 hok.2.1 hok.2.2.1 hok.2.2.2
      have hs := thr_spec hp
      have hsym := thr_symm hp
      rw [(line_yes hp).2] at HI HS
      have hj := iPlaneLine (b : Int) (z : Int) (y : Int)
      rw [(line_yes hp.symm).1, (line_yes hp.symm).2, hsym] at hj
      have HJ := Lib.hid hj
      have hln := iPlaneLines (b : Int)
      rw [(pln_yes hp.hb hp.h3).1, (pln_yes hp.hb hp.h3).2] at hln
      have HLN := Lib.hid hln
      have hlen := lines_21 hp.hb hp.h3
      have HT := Lib.hid (fun (k u : Nat) (hu : (lns b 0)[k]? = some u) => hasT_succ (t := thr b y z) hu)
      have hmem : thr b y z ∈ lns b 0 := (mem_lns hp.hb).2 ⟨hs.1, by unfold Sub; simp⟩
      have HF := Lib.hid (show hasT (lns b 0) (thr b y z) 21 = true from by
        unfold hasT
        rw [List.take_of_length_le (by omega), List.any_eq_true]
        exact ⟨_, hmem, by simp⟩)
      have hy := hp.hp
      have hz := hp.hq
      obtain ⟨q1, q2⟩ := odd_bit hs.2.1
      obtain ⟨q3, q4⟩ := odd_bit hs.2.2
      clear hv hok hp hs hsym hj hln hmem
      generalize thr b y z = t at *
      generalize lns b 0 = L at *
      have e0 : ((t : Int) != (t : Int)) = false := by simp
      have e2 : ((t : Int) == (t : Int)) = true := by simp
      go_wp2_with fail
      refine HI.out.mono ?_
      rintro e w2 ⟨rfl, b2⟩
      go_wp2_with fail
      refine (HS.out w2).mono ?_
      rintro e w3 ⟨rfl, b3⟩
      go_wp2_with fail
      refine (HJ.out w3).mono ?_
      rintro e w4 ⟨rfl, b4⟩
      go_wp2_with fail
      refine (HLN.out w4).mono ?_
      rintro e w5 ⟨A5, n5, c5, rfl, o5, b5⟩
      obtain rfl : n5 = 21 := by have := o5.length; rw [nl_length, hlen] at this; omega
      have HB := Lib.hid (below_to (below_to (below_to (below_to b1 b2 (Nat.le_refl _)) b3 (Nat.le_refl _)) b4 (Nat.le_refl _)) b5 (Nat.le_refl _))
      have S5 := Lib.hid o5.sl
      clear b1 b2 b3 b4 b5 o5
      go_wp2
      go_loop [14, 15] (fun fv iv => ∃ k : Nat, k ≤ 21 ∧ iv = .int .i64 k ∧ fv = .bool (hasT L t k)) (fun _ iv => 21 - (intOf iv).toNat)
      case atStart => exact ⟨0, Nat.zero_le _, rfl, rfl⟩
      case round =>
        obtain ⟨k, hk, rfl, rfl⟩ := hrel
        by_cases hlt : k < 21
        · obtain ⟨bb, o, u, rfl, hbl, hu, hc⟩ := S5.out.nat hlt
          have HHAS := Lib.hid (HT.out k u hu)
          have hbq := int_beq' u t
          clear hu
          generalize (u == t) = v at hbq HHAS
          cases hh : hasT L t k
          all_goals
            rw [hh] at HHAS
            cases v
            all_goals
              go_wp2
              go_round
              case rel => exact ⟨k + 1, by omega, by go_num, by rw [HHAS.out]; rfl⟩
              case measure => simp [intOf]; omega
        · obtain rfl : k = 21 := by omega
          rw [HF.out]
          go_wp2
          go_ret
          exact ⟨rfl, HB.out⟩
  · have e1 : decide ((1048576 : Int) < (n : Int)) = true := by simp; omega
    go_enter Try.func8, Try.ntmps8
    go_wp2
    go_ret
    exact ⟨rfl, Below.refl _ _⟩
end Go.Proofs.Ytinfpggpfpmpbaa
