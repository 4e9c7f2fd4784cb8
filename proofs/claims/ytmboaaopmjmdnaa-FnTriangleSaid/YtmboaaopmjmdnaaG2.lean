import Derived.Test.YtmboaaopmjmdnaaA4
namespace Go.Proofs.Ytmboaaopmjmdnaa
open Go.RowKit

set_option maxHeartbeats 400000 in
theorem sameInts (B : Nat) (A1 A2 : Option Addr) (n1 n2 c1 c2 : Nat) (l1 l2 : List Int) (w : World) (h1 : Sl w B A1 n1 c1 l1) (h2 : Sl w B A2 n2 c2 l2) (hn : n1 ≤ 1048576) :
    Calls Try.prog 17 #[.slice A1 n1 c1, .slice A2 n2 c2] w fun e w' => e = .returned (.bool (decide (l1 = l2))) ∧ Below w.heap.size w w' := by
  have HS1 := Lib.hid h1
  have HS2 := Lib.hid h2
  clear h1 h2
  by_cases hne : n1 = n2
  · subst hne
    go_enter Try.func17, Try.ntmps17
    go_wp2
    go_loopw [5] (fun i wr => ∃ k m : Nat, k ≤ n1 ∧ i = .int .i64 k ∧ wr = w.drewN m ∧ ∀ j, j < k → l1[j]? = l2[j]?) (fun i _ => n1 - (intOf i).toNat)
    case atStart => exact ⟨0, 0, Nat.zero_le _, rfl, rfl, by omega⟩
    case round =>
      obtain ⟨k, m, hk, rfl, rfl, hj⟩ := hrel
      have HJ := Lib.hid hj
      clear hj
      by_cases hlt : k < n1
      · obtain ⟨b, o, x, rfl, hb, hx, hc⟩ := HS1.out.get hlt
        obtain ⟨b', o', y, rfl, hb', hy, hc'⟩ := HS2.out.get hlt
        have HX := Lib.hid hx
        have HY := Lib.hid hy
        clear hx hy
        have hi0 : (0 : Int) ≤ (k : Int) := by omega
        have hi1 : (k : Int) < (n1 : Int) := by omega
        by_cases hxy : x = y
        · subst hxy
          go_wp2_with fail
          go_quiet (fail)
          go_wp2
          go_roundw
          case rel =>
            refine ⟨k + 1, m + nq, by omega, by go_num, rfl, fun j hj => ?_⟩
            by_cases hjk : j = k
            · subst hjk; rw [HX.out, HY.out]
            · exact HJ.out j (by omega)
          case measure => simp [intOf]; omega
        · have hf : decide (l1 = l2) = false := by
            rw [decide_eq_false_iff_not]
            intro e
            have h1 := HX.out
            rw [e, HY.out] at h1
            injection h1 with h1
            exact hxy h1.symm
          have e1 : (x == y) = false := by simpa using hxy
          have e2 : (x != y) = true := by simpa using hxy
          have HF := Lib.hid hf
          clear hf hxy
          go_wp2_with fail
          go_quiet (fail)
          go_wp2
          go_ret
          rw [HF.out]
          exact ⟨rfl, below_drewN (below_drewN (Below.refl _ _) _) _⟩
      · obtain rfl : k = n1 := by omega
        have hf : decide (l1 = l2) = true := by
          have h1 := HS1.out.len
          have h2 := HS2.out.len
          have h3 := HJ.out
          rw [decide_eq_true_eq]
          apply List.ext_getElem?
          intro j
          by_cases hj : j < k
          · exact h3 j hj
          · rw [List.getElem?_eq_none (by omega), List.getElem?_eq_none (by omega)]
        have HF := Lib.hid hf
        clear hf
        go_wp2
        go_ret
        rw [HF.out]
        exact ⟨rfl, below_drewN (Below.refl _ _) _⟩
  · have hf : decide (l1 = l2) = false := by
      rw [decide_eq_false_iff_not]
      intro e
      have h1 := HS1.out.len
      have h2 := HS2.out.len
      rw [e] at h1
      omega
    have e1 : ((n1 : Int) == (n2 : Int)) = false := by simp; omega
    have HF := Lib.hid hf
    clear hf hne
    go_enter Try.func17, Try.ntmps17
    go_wp2
    go_ret
    rw [HF.out]
    exact ⟨rfl, Below.refl _ _⟩
end Go.Proofs.Ytmboaaopmjmdnaa
