import Derived.Test.YtbpgaphcpgfafaaH1
import Derived.Test.YtbpgaphcpgfafaaG2
import Derived.Test.YtbpgaphcpgfafaaF14
namespace Go.Proofs.Ytbpgaphcpgfafaa
open Go.RowKit

theorem kind_turn {l m : List Int} (h : tabOk l m = true) : tabOk m l = true ∧ kindR m l = kindR l m ∧ ((kindR l m : Int) == 46) = decide (l = m) := by
  have h2 : tabOk m l = true := by unfold tabOk at h ⊢; rw [Bool.and_comm]; exact h
  obtain ⟨t, u, rfl, rfl, ht, h4, hu, hu4⟩ := tab_nat h
  rw [(kind_yes h).1, (kind_yes h2).1, nl_back, nl_back]
  have hf := kind_flip (tab_tab ht h4 hu hu4)
  have e : (fun a b => tabF (sext t) (sext u) b a) = tabF (sext u) (sext t) := by funext a b; exact tabF_flip _ _ _ _
  rw [e] at hf
  refine ⟨h2, hf, ?_⟩
  rw [show (46 : Int) = ((46 : Nat) : Int) from rfl, int_beq, decide_eq_decide, kind_46 ht h4 hu hu4]
  constructor
  · intro h; rw [h]
  · intro h
    have := congrArg (List.map Int.toNat) h
    rwa [nl_back, nl_back] at this

set_option maxRecDepth 100000 in
set_option maxHeartbeats 1000000 in
theorem lawFnKind (A : Option Addr) (n cap : Nat) (zs : List Int) (w : World) (h : IsRow .u8 w A n cap zs) :
    Calls Try.prog 13 #[.slice A n cap] w fun e w' => e = .returned (.bool true) ∧ Below w.heap.size w w' := by
  have H := Lib.hid h
  clear h
  by_cases hn : n ≤ 1048576
  · have e1 : decide ((1048576 : Int) < (n : Int)) = false := by simp; omega
    go_enter Try.func13, Try.ntmps13
    go_wp2_with fail
    refine (dSextetKind A n cap zs w H.out hn).mono ?_
    rintro e w1 ⟨A1, n1, c1, l1, A2, n2, c2, l2, k1, k2, rfl, s1, s2, b1⟩
    have HI := Lib.hid (iSextetKind _ A1 A2 n1 n2 c1 c2 l1 l2 w1 s1 s2 (Nat.le_refl _))
    have HS := Lib.hid (fun W (b : Below w1.heap.size w1 W) => sSextetKind _ A1 A2 n1 n2 c1 c2 l1 l2 W (s1.below b) (s2.below b) b.size)
    have HJ := Lib.hid (fun W (b : Below w1.heap.size w1 W) => iSextetKind _ A2 A1 n2 n1 c2 c1 l2 l1 W (s2.below b) (s1.below b) b.size)
    have HQ := Lib.hid (fun W (b : Below w1.heap.size w1 W) => sameInts _ A1 A2 n1 n2 c1 c2 l1 l2 W (s1.below b) (s2.below b) (Nat.le_trans k1 (by decide)))
    clear s1 s2
    cases hv : tabOk l1 l2 with
    | false =>
      rw [hv, (kind_no hv).1] at HI HS
      clear hv HJ HQ
      go_wp2_with fail
      refine HI.out.mono ?_
      rintro e w2 ⟨rfl, b2⟩
      go_wp2_with fail
      refine (HS.out w2 b2).mono ?_
      rintro e w3 ⟨rfl, b3⟩
      have HB := Lib.hid (below_to (below_to b1 b2 (Nat.le_refl _)) b3 (Nat.le_refl _))
      clear b1 b2 b3
      go_wp2
      go_ret
      exact ⟨rfl, HB.out⟩
    | true =>
      have hf := kind_turn hv
      rw [hf.1, hf.2.1] at HJ
      rw [hv] at HI HS
      have H46 := Lib.hid hf.2.2
      clear hv hf
      generalize kindR l1 l2 = K at HI HS HJ H46
      have e0 : ((K : Int) != (K : Int)) = false := by simp
      have e2 : ((K : Int) == (K : Int)) = true := by simp
      have e46 := H46.out
      generalize decide (l1 = l2) = v at HQ e46
      go_wp2_with fail
      refine HI.out.mono ?_
      rintro e w2 ⟨rfl, b2⟩
      go_wp2_with fail
      refine (HS.out w2 b2).mono ?_
      rintro e w3 ⟨rfl, b3⟩
      have b3' := b2.trans (b3.mono b2.size)
      go_wp2_with fail
      refine (HJ.out w3 b3').mono ?_
      rintro e w4 ⟨rfl, b4⟩
      have b4' := b3'.trans (b4.mono b3'.size)
      go_wp2_with fail
      refine (HQ.out w4 b4').mono ?_
      rintro e w5 ⟨rfl, b5⟩
      have HB := Lib.hid (below_to (below_to b1 b4' (Nat.le_refl _)) b5 (Nat.le_refl _))
      clear b1 b2 b3 b4 b5 b3' b4'
      cases v
      all_goals
        go_wp2
        go_ret
        exact ⟨rfl, HB.out⟩
  · have e1 : decide ((1048576 : Int) < (n : Int)) = true := by simp; omega
    go_enter Try.func13, Try.ntmps13
    go_wp2
    go_ret
    exact ⟨rfl, Below.refl _ _⟩
end Go.Proofs.Ytbpgaphcpgfafaa
