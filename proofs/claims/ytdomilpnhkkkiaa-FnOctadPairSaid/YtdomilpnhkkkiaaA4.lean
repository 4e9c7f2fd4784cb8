import Derived.Test.YtdomilpnhkkkiaaA3
namespace Go.Proofs.Ytdomilpnhkkkiaa
open Go.RowKit

theorem iPermValid (B : Nat) (A : Option Addr) (n cap : Nat) (l : List Int) (w : World) (h : Sl w B A n cap l) (hn : n ≤ 1048576) :
    Calls Try.prog 17 #[.slice A n cap] w fun e w' => e = .returned (.bool (isPerm l)) ∧ w = w' := by
  have HS := Lib.hid h
  clear h
  by_cases hp : isPerm l = true
  · have hw := isPerm_word hp
    have HP := Lib.hid hp
    have HW := Lib.hid hw
    clear hp hw
    go_enter Try.func17, Try.ntmps17
    go_wp2_with fail
    refine (iWordOf B A n cap l w HS.out hn).mono ?_
    rw [HW.out]
    rintro e w' ⟨rfl, rfl⟩
    go_wp2
    go_ret
    rw [HP.out]
    exact ⟨rfl, rfl⟩
  · have hp : isPerm l = false := by simpa using hp
    have hw : ∀ a, wordOf l = some a → a ≠ 16777215 := fun a ha e => by
      subst e; rw [isPerm_of ha] at hp; cases hp
    have HP := Lib.hid hp
    have HW := Lib.hid hw
    clear hp hw
    go_enter Try.func17, Try.ntmps17
    go_wp2_with fail
    refine (iWordOf B A n cap l w HS.out hn).mono ?_
    cases ha : wordOf l with
    | none =>
      rintro e w' ⟨rfl, rfl⟩
      go_wp2
      go_ret
      rw [HP.out]
      exact ⟨rfl, rfl⟩
    | some a =>
      have hne := HW.out a ha
      have e1 : ((a : Int) == 16777215) = false := by simp; omega
      have HA := Lib.hid ha
      clear ha hne
      rintro e w' ⟨rfl, rfl⟩
      go_wp2
      go_ret
      rw [HP.out]
      exact ⟨rfl, rfl⟩

set_option maxHeartbeats 400000 in
theorem sPermValid (B : Nat) (A : Option Addr) (n cap : Nat) (l : List Int) (w : World) (h : Sl w B A n cap l) (hn : n ≤ 1048576) :
    Calls Try.prog 15 #[.slice A n cap] w fun e w' => e = .returned (.bool (isPerm l)) ∧ w = w' := by
  have HS := Lib.hid h
  have hl := h.len
  have HL := Lib.hid hl
  clear h hl
  by_cases h24 : n = 24
  · subst h24
    go_enter Try.func15, Try.ntmps15
    go_wp2
    go_loop [3, 4] (fun u i => ∃ k a : Nat, k ≤ 24 ∧ i = .int .i64 k ∧ u = .int .i64 a ∧ a < 16777216 ∧ wordOf (l.take k) = some a) (fun _ i => 24 - (intOf i).toNat)
    case atStart => exact ⟨0, 0, Nat.zero_le _, rfl, rfl, by omega, rfl⟩
    case round =>
      obtain ⟨k, a, hk, rfl, rfl, ha, hw⟩ := hrel
      have HW := Lib.hid hw
      clear hw
      by_cases hlt : k < 24
      · obtain ⟨b, o, x, rfl, hb, hx, hc⟩ := HS.out.get hlt
        have hstep := wordOf_take hx
        have HX := Lib.hid hx
        rw [HW.out] at hstep
        have HT := Lib.hid hstep
        clear hstep hx
        by_cases hv : 0 ≤ x ∧ x ≤ 23
        · obtain ⟨h0, h23⟩ := hv
          obtain ⟨p, rfl⟩ := Int.eq_ofNat_of_zero_le h0
          have hbit : bits .and .i64 ((a : Int) / 2 ^ p) 1 = (bt a p : Int) := i64_bit a p (by omega)
          by_cases hb : a.testBit p = true
          · have e1 : ((bt a p : Int) == 1) = true := by rw [bt_one.2 hb]; rfl
            have hf : isPerm l = false := by unfold isPerm; rw [wordOf_none (k + 1) (by rw [HT.out]; simp [step, hb])]; simp
            have HF := Lib.hid hf
            clear hb hf
            go_wp2
            go_ret
            rw [HF.out]
            exact ⟨rfl, rfl⟩
          · have hb : a.testBit p = false := by simpa using hb
            have e1 : ((bt a p : Int) == 1) = false := by rw [bt_zero.2 hb]; rfl
            have HB := Lib.hid hb
            clear hb
            go_wp2
            go_round
            case rel =>
              refine ⟨k + 1, a ||| 1 <<< p, by omega, by go_num, int_eq ?_, or_lt ha (one_shl_lt (by omega)), ?_⟩
              · rw [or_add ha (by omega) HB.out]
                exact i64_plus2 a p ha (by omega)
              rw [HT.out]
              have : step a p = some (a ||| 1 <<< p) := by unfold step; rw [if_pos ⟨by omega, by omega, by simpa using HB.out⟩]; simp
              simpa using this
            case measure => simp [intOf]; omega
        · have hf : isPerm l = false := by unfold isPerm; rw [wordOf_none (k + 1) (by rw [HT.out]; show step a x = none; unfold step; rw [if_neg (by omega)])]; simp
          have HF := Lib.hid hf
          clear hf
          rcases (show x < 0 ∨ 23 < x from by omega) with h1 | h1
          all_goals
            clear hv
            go_wp2
            go_ret
            rw [HF.out]
            exact ⟨rfl, rfl⟩
      · obtain rfl : k = 24 := by omega
        have hf : isPerm l = true := by
          have h1 := HL.out
          have h2 := HW.out
          rw [← h1, List.take_length] at h2
          unfold isPerm; simp [h1, h2]
        have HF := Lib.hid hf
        clear hf
        go_wp2
        go_ret
        rw [HF.out]
        exact ⟨rfl, rfl⟩
  · have hf : isPerm l = false := by unfold isPerm; have := HL.out; simp; omega
    have e1 : ((n : Int) == 24) = false := by simp; omega
    have HF := Lib.hid hf
    clear hf h24
    go_enter Try.func15, Try.ntmps15
    go_wp2
    go_ret
    rw [HF.out]
    exact ⟨rfl, rfl⟩

set_option maxHeartbeats 400000 in
theorem eqIntS_any (B : Nat) (A1 A2 : Option Addr) (n1 n2 c1 c2 : Nat) (l1 l2 : List Int) (w : World) (h1 : Sl w B A1 n1 c1 l1) (h2 : Sl w B A2 n2 c2 l2) (hn : n1 ≤ 1048576) :
    Calls Try.prog 18 #[.slice A1 n1 c1, .slice A2 n2 c2] w fun e w' => e = .returned (.bool (decide (l1 = l2))) ∧ Below w.heap.size w w' := by
  have HS1 := Lib.hid h1
  have HS2 := Lib.hid h2
  clear h1 h2
  by_cases hne : n1 = n2
  · subst hne
    go_enter Try.func18, Try.ntmps18
    go_wp2
    go_loopw [5] (fun i wr => ∃ k m : Nat, k ≤ n1 ∧ i = .int .i64 k ∧ wr = w.drewN m ∧ ∀ j, j < k → l1[j]? = l2[j]?) (fun i _ => n1 - (intOf i).toNat)
    case atStart => exact ⟨0, 0, Nat.zero_le _, rfl, rfl, by omega⟩
    case round =>
      obtain ⟨k, m, hk, rfl, rfl, hj⟩ := hrel
      have HJ := Lib.hid hj
      clear hj
      by_cases hlt : k < n1
      · obtain ⟨b, o, x, rfl, hb, hx, hc⟩ := HS1.out.get hlt
        obtain ⟨b', o', y, rfl, hb', hy, hc'⟩ := HS2.out.get hlt
        have HX := Lib.hid hx
        have HY := Lib.hid hy
        clear hx hy
        have hi0 : (0 : Int) ≤ (k : Int) := by omega
        have hi1 : (k : Int) < (n1 : Int) := by omega
        by_cases hxy : x = y
        · subst hxy
          go_wp2_with fail
          go_quiet (fail)
          go_wp2
          go_roundw
          case rel =>
            refine ⟨k + 1, m + nq, by omega, by go_num, rfl, fun j hj => ?_⟩
            by_cases hjk : j = k
            · subst hjk; rw [HX.out, HY.out]
            · exact HJ.out j (by omega)
          case measure => simp [intOf]; omega
        · have hf : decide (l1 = l2) = false := by
            rw [decide_eq_false_iff_not]
            intro e
            have h1 := HX.out
            rw [e, HY.out] at h1
            injection h1 with h1
            exact hxy h1.symm
          have e1 : (x == y) = false := by simpa using hxy
          have e2 : (x != y) = true := by simpa using hxy
          have HF := Lib.hid hf
          clear hf hxy
          go_wp2_with fail
          go_quiet (fail)
          go_wp2
          go_ret
          rw [HF.out]
          exact ⟨rfl, below_drewN (below_drewN (Below.refl _ _) _) _⟩
      · obtain rfl : k = n1 := by omega
        have hf : decide (l1 = l2) = true := by
          have h1 := HS1.out.len
          have h2 := HS2.out.len
          have h3 := HJ.out
          rw [decide_eq_true_eq]
          apply List.ext_getElem?
          intro j
          by_cases hj : j < k
          · exact h3 j hj
          · rw [List.getElem?_eq_none (by omega), List.getElem?_eq_none (by omega)]
        have HF := Lib.hid hf
        clear hf
        go_wp2
        go_ret
        rw [HF.out]
        exact ⟨rfl, below_drewN (Below.refl _ _) _⟩
  · have hf : decide (l1 = l2) = false := by
      rw [decide_eq_false_iff_not]
      intro e
      have h1 := HS1.out.len
      have h2 := HS2.out.len
      rw [e] at h1
      omega
    have e1 : ((n1 : Int) == (n2 : Int)) = false := by simp; omega
    have HF := Lib.hid hf
    clear hf hne
    go_enter Try.func18, Try.ntmps18
    go_wp2
    go_ret
    rw [HF.out]
    exact ⟨rfl, Below.refl _ _⟩
end Go.Proofs.Ytdomilpnhkkkiaa
