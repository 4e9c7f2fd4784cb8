/- The drawing of bases and points. -/
import Derived.Test.YtinfpggpfpmpbaaE5
import Derived.Test.YtinfpggpfpmpbaaF5
namespace Go.Proofs.Ytinfpggpfpmpbaa
open Go.RowKit

set_option maxHeartbeats 400000 in
theorem sbased (base g p : Nat) (w : World) (h : Rd base w g p) (hp : p ≤ 80000) :
    Calls Try.prog 69 #[.pointer (some ⟨g, 0, none⟩)] w fun e w' => ∃ x, Near x ∧ e = .returned (.int .i64 x) ∧ Drew base g p 20 w w' := by
  have H := Lib.hid h
  clear h
  go_enter Try.func69, Try.ntmps69
  go_wp2_with fail
  refine (splaces base g p 3 w H.out (by omega) (by decide)).mono ?_
  rintro e w1 ⟨A, cap, l, rfl, o, q, hq1, hq2, r1, o1⟩
  have HW := Lib.hid (sWordOf w1.heap.size A 3 cap l w1 o.sl (by decide))
  have hl := wordOf_lt l
  clear o
  generalize (wordOf l).getD 0 = x at HW hl
  generalize (wordOf l).isSome = v at HW
  go_wp2_with fail
  refine HW.out.mono ?_
  rintro e w' ⟨rfl, rfl⟩
  cases v with
  | false =>
    go_wp2_with fail
    refine (sword base g q w1 r1 (by omega)).mono ?_
    rintro e w2 ⟨y, hy, rfl, q2, hq3, hq4, r2, o2⟩
    have HD := Lib.hid (Drew.of (p := p) (K := 20) (by omega) (by omega) r2 (o1.trans o2))
    have HX := Lib.hid hy
    clear r1 o1 r2 o2 hy
    go_wp2
    go_ret
    exact ⟨y, HX.out, rfl, HD.out⟩
  | true =>
    go_wp2_with fail
    refine (pick_any base g q 20 w1 r1 (by omega) (by decide) (by decide)).mono ?_
    rintro e w2 ⟨k2, hk2, rfl, r2, o2⟩
    by_cases h0 : k2 = 0
    · subst h0
      go_wp2_with fail
      refine (sword base g (q + 1) w2 r2 (by omega)).mono ?_
      rintro e w3 ⟨y, hy, rfl, q2, hq3, hq4, r3, o3⟩
      have HD := Lib.hid (Drew.of (p := p) (K := 20) (by omega) (by omega) r3 ((o1.trans o2).trans o3))
      have HX := Lib.hid hy
      clear r1 o1 r2 o2 r3 o3 hy
      go_wp2
      go_ret
      exact ⟨y, HX.out, rfl, HD.out⟩
    · have e0 : ((k2 : Int) == 0) = false := by simp; omega
      have HD := Lib.hid (Drew.of (p := p) (K := 20) (by omega) (by omega) r2 (o1.trans o2))
      clear r1 o1 r2 o2
      go_wp2
      go_ret
      exact ⟨x, near_nat hl, rfl, HD.out⟩


theorem free_any {a : Nat} (h : a ≤ 16777216) (hm : a ≠ 16777215) : ∃ f, f < 24 ∧ a.testBit f = false := by
  by_cases e : a = 16777216
  · subst e; exact ⟨0, by decide, by decide⟩
  · have ha : a < 16777216 := by omega
    have hw : wt a < 24 := by
      rcases Nat.lt_or_ge (wt a) 24 with h1 | h1
      · exact h1
      · exact absurd (wt_all ha h1) hm
    exact free_place hw

set_option maxHeartbeats 1000000 in
theorem spointd (base g p : Nat) (x : Int) (w : World) (h : Rd base w g p) (hp : p ≤ 80000) (hx : Near x) :
    Calls Try.prog 72 #[.pointer (some ⟨g, 0, none⟩), .int .i64 x] w fun e w' => ∃ y : Nat, y < 24 ∧ e = .returned (.int .i64 y) ∧ Drew base g p 25 w w' := by
  have H := Lib.hid h
  clear h
  go_enter Try.func72, Try.ntmps72
  go_wp2_with fail
  refine (pick_any base g p 24 w H.out (by omega) (by decide) (by decide)).mono ?_
  rintro e w1 ⟨d, hd, rfl, r1, o1⟩
  have R1 := Lib.hid r1
  have O1 := Lib.hid o1
  clear r1 o1
  by_cases hneg : x < 0
  · have e1 : decide ((0 : Int) ≤ x) = false := by simp; omega
    go_wp2
    go_loopw [5] (fun i wr => i = .int .i64 (d : Nat) ∧ wr = w1) (fun _ _ => 0)
    case atStart => exact ⟨rfl, rfl⟩
    case round =>
      obtain ⟨rfl, rfl⟩ := hrel
      go_wp2
      go_ret
      exact ⟨d, hd, rfl, Drew.of (by omega) (by omega) R1.out O1.out⟩
  · obtain ⟨a, rfl⟩ := Int.eq_ofNat_of_zero_le (show 0 ≤ x from by omega)
    have e1 : decide ((0 : Int) ≤ (a : Int)) = true := by simp
    by_cases hm : a = 16777215
    · have e2 : ((a : Int) != 16777215) = false := by simp [hm]
      go_wp2
      go_loopw [5] (fun i wr => i = .int .i64 (d : Nat) ∧ wr = w1) (fun _ _ => 0)
      case atStart => exact ⟨rfl, rfl⟩
      case round =>
        obtain ⟨rfl, rfl⟩ := hrel
        go_wp2
        go_ret
        exact ⟨d, hd, rfl, Drew.of (by omega) (by omega) R1.out O1.out⟩
    · have e2 : ((a : Int) != 16777215) = true := by simp; omega
      have ha : a ≤ 16777216 := by have := hx.2; omega
      obtain ⟨f, hf, hfb⟩ := free_any ha hm
      have HF := Lib.hid hfb
      clear hfb hx
      go_wp2
      go_loopw [5] (fun i wr => ∃ y q : Nat, y < 24 ∧ i = .int .i64 y ∧ p + 1 ≤ q ∧ q + (f + 24 - y) % 24 ≤ p + 25 ∧ Rd base wr g q ∧ Only w wr (some ⟨g, 0, none⟩)) (fun i _ => (f + 24 - (intOf i).toNat) % 24)
      case atStart => exact ⟨d, p + 1, hd, rfl, Nat.le_refl _, by omega, R1.out, O1.out⟩
      case round =>
        obtain ⟨y, q, hy, rfl, hq1, hq2, hr, ho⟩ := hrel
        have R := Lib.hid hr
        have O := Lib.hid ho
        clear hr ho
        cases hb : a.testBit y with
        | false =>
          have e3 : ((bt a y : Int) == 1) = false := by rw [bt_zero.2 hb]; rfl
          clear hb
          go_wp2_with (first | (go_at_call 48; refine (l1Bit_any a y _ (by omega) hy).mono ?_; rintro e w' ⟨rfl, rfl⟩))
          go_ret
          exact ⟨y, hy, rfl, Drew.of (by omega) (by omega) R.out O.out⟩
        | true =>
          have e3 : ((bt a y : Int) == 1) = true := by rw [bt_one.2 hb]; rfl
          have hne : y ≠ f := fun e => by rw [e, HF.out] at hb; cases hb
          clear hb
          go_wp2_with fail
          refine (l1Bit_any a y _ (by omega) hy).mono ?_
          rintro e w' ⟨rfl, rfl⟩
          go_wp2_with fail
          refine (pick_any base g q 30 wr R.out (by omega) (by decide) (by decide)).mono ?_
          rintro e w2 ⟨k, hk, rfl, r2, o2⟩
          have R2 := Lib.hid r2
          have O2 := Lib.hid (O.out.trans o2)
          clear r2 o2
          by_cases h0 : k = 0
          · subst h0
            go_wp2
            go_ret
            exact ⟨y, hy, rfl, Drew.of (by omega) (by omega) R2.out O2.out⟩
          · have e4 : decide ((0 : Int) < (k : Int)) = true := by simp; omega
            go_wp2
            go_roundw
            case rel => exact ⟨(y + 1) % 24, q + 1, by omega, by go_num, by omega, by omega, R2.out, O2.out⟩
            case measure => simp [intOf]; omega

end Go.Proofs.Ytinfpggpfpmpbaa
