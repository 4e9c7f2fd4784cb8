import Derived.Test.YtmboaaopmjmdnaaA2
namespace Go.Proofs.Ytmboaaopmjmdnaa
open Go.RowKit

set_option maxHeartbeats 400000 in
theorem iWordOf (B : Nat) (A : Option Addr) (n cap : Nat) (l : List Int) (w : World) (h : Sl w B A n cap l) (hn : n ≤ 1048576) :
    Calls Try.prog 13 #[.slice A n cap] w fun e w' => e = .returned (.tuple #[.int .i64 ((wordOf l).getD 0 : Nat), .bool (wordOf l).isSome]) ∧ w = w' := by
  have HS := Lib.hid h
  clear h
  go_enter Try.func13, Try.ntmps13
  go_wp2
  go_loop [4, 9] (fun u i => ∃ k a : Nat, k ≤ n ∧ i = .int .i64 k ∧ u = .int .i64 a ∧ a < 16777216 ∧ wordOf (l.take k) = some a) (fun _ i => n - (intOf i).toNat)
  case atStart => exact ⟨0, 0, Nat.zero_le _, rfl, rfl, by omega, rfl⟩
  case round =>
    obtain ⟨k, a, hk, rfl, rfl, ha, hw⟩ := hrel
    have HW := Lib.hid hw
    clear hw
    by_cases hlt : k < n
    · obtain ⟨b, o, x, rfl, hb, hx, hc⟩ := HS.out.get hlt
      have HX := Lib.hid hx
      clear hx
      have hstep := wordOf_take HX.out
      rw [HW.out] at hstep
      have HT := Lib.hid hstep
      clear hstep
      by_cases hv : 0 ≤ x ∧ x ≤ 23
      · obtain ⟨h0, h23⟩ := hv
        obtain ⟨p, rfl⟩ := Int.eq_ofNat_of_zero_le h0
        have hbit : bits .and .i64 ((a : Int) / 2 ^ p) 1 = (bt a p : Int) := i64_bit a p (by omega)
        by_cases hb : a.testBit p = true
        · have e1 : ((bt a p : Int) == 1) = true := by rw [bt_one.2 hb]; rfl
          have hf : wordOf l = none := wordOf_none (k + 1) (by rw [HT.out]; simp [step, hb])
          have HF := Lib.hid hf
          clear hb hf
          go_wp2
          go_ret2
          rw [HF.out]
          exact ⟨rfl, rfl⟩
        · have hb : a.testBit p = false := by simpa using hb
          have e1 : ((bt a p : Int) == 1) = false := by rw [bt_zero.2 hb]; rfl
          have HB := Lib.hid hb
          clear hb
          go_wp2
          go_round
          case rel =>
            refine ⟨k + 1, a ||| 1 <<< p, by omega, by go_num, int_eq (i64_put a p ha (by omega)), or_lt ha (one_shl_lt (by omega)), ?_⟩
            rw [HT.out]
            have : step a p = some (a ||| 1 <<< p) := by unfold step; rw [if_pos ⟨by omega, by omega, by simpa using HB.out⟩]; simp
            simpa using this
          case measure => simp [intOf]; omega
      · have hf : wordOf l = none := wordOf_none (k + 1) (by rw [HT.out]; show step a x = none; unfold step; rw [if_neg (by omega)])
        have HF := Lib.hid hf
        clear hf
        rcases (show x < 0 ∨ 23 < x from by omega) with h1 | h1
        all_goals
          clear hv
          go_wp2
          go_ret2
          rw [HF.out]
          exact ⟨rfl, rfl⟩
    · obtain rfl : k = n := by omega
      have hl := HS.out.len
      have hf : wordOf l = some a := by have := HW.out; rwa [← hl, List.take_length] at this
      have HF := Lib.hid hf
      clear hf hl
      go_wp2
      go_ret2
      rw [HF.out]
      exact ⟨rfl, rfl⟩
end Go.Proofs.Ytmboaaopmjmdnaa
