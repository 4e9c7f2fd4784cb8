/- The drawing of planes' bases, points and lines. -/
import Derived.OwnWalk
import Derived.Test.YtinfpggpfpmpbaaH5
import Derived.Test.YtinfpggpfpmpbaaH0
namespace Go.Proofs.Ytinfpggpfpmpbaa
open Go.RowKit

theorem dPlaneLines (A : Option Addr) (n cap : Nat) (zs : List Int) (w : World) (h : IsRow .u8 w A n cap zs) (hn : n ≤ 1048576) :
    Calls Try.prog 26 #[.slice A n cap] w fun e w' => (∃ x, e = .returned (.int .i64 x)) ∧ Below w.heap.size w w' := by
  have H := Lib.hid h
  clear h
  go_enter Try.func26, Try.ntmps26
  go_wp2_with fail
  refine (sopen A n cap zs w H.out hn).mono ?_
  rintro e w1 ⟨g, rfl, r1, b1⟩
  have hgl := r1.lo
  have hgi := r1.hi
  go_wp2_with fail
  refine (sbased w.heap.size g 0 w1 r1 (by decide)).mono ?_
  rintro e w2 ⟨x, hx, rfl, q, hq1, hq2, r2, o2⟩
  have B2 := Lib.hid (Only.drawn b1 (Nat.le_refl _) hgl o2)
  have R2 := Lib.hid r2
  have hz2 : g < w2.heap.size := r2.hi
  clear r1 b1 r2 o2
  clear hx
  go_wp2
  go_ret
  exact ⟨⟨x, rfl⟩, B2.out⟩

theorem dPlaneOn (A : Option Addr) (n cap : Nat) (zs : List Int) (w : World) (h : IsRow .u8 w A n cap zs) (hn : n ≤ 1048576) :
    Calls Try.prog 34 #[.slice A n cap] w fun e w' => (∃ x y, e = .returned (.tuple #[.int .i64 x, .int .i64 y])) ∧ Below w.heap.size w w' := by
  have H := Lib.hid h
  clear h
  go_enter Try.func34, Try.ntmps34
  go_wp2_with fail
  refine (sopen A n cap zs w H.out hn).mono ?_
  rintro e w1 ⟨g, rfl, r1, b1⟩
  have hgl := r1.lo
  have hgi := r1.hi
  go_wp2_with fail
  refine (sbased w.heap.size g 0 w1 r1 (by decide)).mono ?_
  rintro e w2 ⟨x, hx, rfl, q, hq1, hq2, r2, o2⟩
  have B2 := Lib.hid (Only.drawn b1 (Nat.le_refl _) hgl o2)
  have R2 := Lib.hid r2
  have hz2 : g < w2.heap.size := r2.hi
  clear r1 b1 r2 o2
  go_wp2_with fail
  refine (spointd w.heap.size g q x w2 R2.out (by omega) hx).mono ?_
  rintro e w3 ⟨p3, hp3, rfl, q3, hq3a, hq3b, r3, o3⟩
  have B3 := Lib.hid (Only.drawn B2.out (Nat.le_refl _) hgl o3)
  have R3 := Lib.hid r3
  clear r3 o3
  go_wp2
  go_ret2
  exact ⟨⟨x, _, rfl⟩, B3.out⟩

theorem dPlaneLine (A : Option Addr) (n cap : Nat) (zs : List Int) (w : World) (h : IsRow .u8 w A n cap zs) (hn : n ≤ 1048576) :
    Calls Try.prog 31 #[.slice A n cap] w fun e w' => (∃ x y z, e = .returned (.tuple #[.int .i64 x, .int .i64 y, .int .i64 z])) ∧ Below w.heap.size w w' := by
  have H := Lib.hid h
  clear h
  go_enter Try.func31, Try.ntmps31
  go_wp2_with fail
  refine (sopen A n cap zs w H.out hn).mono ?_
  rintro e w1 ⟨g, rfl, r1, b1⟩
  have hgl := r1.lo
  have hgi := r1.hi
  go_wp2_with fail
  refine (sbased w.heap.size g 0 w1 r1 (by decide)).mono ?_
  rintro e w2 ⟨x, hx, rfl, q, hq1, hq2, r2, o2⟩
  have B2 := Lib.hid (Only.drawn b1 (Nat.le_refl _) hgl o2)
  have R2 := Lib.hid r2
  have hz2 : g < w2.heap.size := r2.hi
  clear r1 b1 r2 o2
  go_wp2_with fail
  refine (spointd w.heap.size g q x w2 R2.out (by omega) hx).mono ?_
  rintro e w3 ⟨p3, hp3, rfl, q3, hq3a, hq3b, r3, o3⟩
  have B3 := Lib.hid (Only.drawn B2.out (Nat.le_refl _) hgl o3)
  have R3 := Lib.hid r3
  clear r3 o3
  go_wp2_with fail
  refine (spointd w.heap.size g q3 x w3 R3.out (by omega) hx).mono ?_
  rintro e w4 ⟨p4, hp4, rfl, q4, hq4a, hq4b, r4, o4⟩
  have B4 := Lib.hid (Only.drawn B3.out (Nat.le_refl _) hgl o4)
  have R4 := Lib.hid r4
  clear r4 o4
  go_wp2
  go_ret3
  exact ⟨⟨x, _, _, rfl⟩, B4.out⟩

set_option maxHeartbeats 400000 in
theorem dFour (A : Option Addr) (n cap : Nat) (zs : List Int) (w : World) (h : IsRow .u8 w A n cap zs) (hn : n ≤ 1048576) :
    Calls Try.prog 79 #[.slice A n cap] w fun e w' => (∃ x y, e = .returned (.tuple #[.int .i64 x, .int .i64 y])) ∧ Below w.heap.size w w' := by
  have H := Lib.hid h
  clear h
  go_enter Try.func79, Try.ntmps79
  go_wp2_with fail
  refine (sopen A n cap zs w H.out hn).mono ?_
  rintro e w1 ⟨g, rfl, r1, b1⟩
  have hgl := r1.lo
  have hgi := r1.hi
  go_wp2_with fail
  refine (sbased w.heap.size g 0 w1 r1 (by decide)).mono ?_
  rintro e w2 ⟨x, hx, rfl, q, hq1, hq2, r2, o2⟩
  have B2 := Lib.hid (Only.drawn b1 (Nat.le_refl _) hgl o2)
  have R2 := Lib.hid r2
  have hz2 : g < w2.heap.size := r2.hi
  clear r1 b1 r2 o2
  go_wp2
  go_loopw [6, 7] (fun v iv wr => ∃ k a p : Nat, k ≤ 4 ∧ iv = .int .i64 (k : Nat) ∧ v = .int .i64 (a : Nat) ∧ a < 16777216 ∧ p ≤ 100 + 25 * k ∧ Rd w.heap.size wr g p ∧ Below w.heap.size w wr) (fun _ iv _ => 4 - (intOf iv).toNat)
  case atStart => exact ⟨0, 0, q, Nat.zero_le _, rfl, rfl, by decide, by omega, R2.out, B2.out⟩
  case round =>
    obtain ⟨k, a, p, hk, rfl, rfl, hal, hp, hr, hb⟩ := hrel
    have R := Lib.hid hr
    have B := Lib.hid hb
    clear hr hb
    by_cases hlt : k < 4
    · go_wp2_with fail
      refine (spointd w.heap.size g p x wr R.out (by omega) hx).mono ?_
      rintro e w3 ⟨y, hy, rfl, q3, hq3a, hq3b, r3, o3⟩
      have B3 := Lib.hid (Only.drawn B.out (Nat.le_refl _) hgl o3)
      have R3 := Lib.hid r3
      clear r3 o3
      go_wp2
      go_roundw
      case rel => exact ⟨k + 1, a ||| 1 <<< y, q3, by omega, by go_num, int_eq (i64_put a y hal hy), or_lt hal (one_shl_lt hy), by omega, R3.out, B3.out⟩
      case measure => simp [intOf]; omega
    · obtain rfl : k = 4 := by omega
      go_wp2
      go_ret2
      exact ⟨⟨x, _, rfl⟩, B.out⟩

theorem dPlaneFour (A : Option Addr) (n cap : Nat) (zs : List Int) (w : World) (h : IsRow .u8 w A n cap zs) (hn : n ≤ 1048576) :
    Calls Try.prog 43 #[.slice A n cap] w fun e w' => (∃ x y, e = .returned (.tuple #[.int .i64 x, .int .i64 y])) ∧ Below w.heap.size w w' := by
  have H := Lib.hid h
  clear h
  go_enter Try.func43, Try.ntmps43
  go_wp2_with fail
  refine (dFour A n cap zs w H.out hn).mono ?_
  rintro e w1 ⟨⟨x, y, rfl⟩, b1⟩
  have B1 := Lib.hid b1
  clear b1
  go_wp2
  go_ret2
  exact ⟨⟨x, y, rfl⟩, B1.out⟩

theorem dPlaneSub (A : Option Addr) (n cap : Nat) (zs : List Int) (w : World) (h : IsRow .u8 w A n cap zs) (hn : n ≤ 1048576) :
    Calls Try.prog 45 #[.slice A n cap] w fun e w' => (∃ x y, e = .returned (.tuple #[.int .i64 x, .int .i64 y])) ∧ Below w.heap.size w w' := by
  have H := Lib.hid h
  clear h
  go_enter Try.func45, Try.ntmps45
  go_wp2_with fail
  refine (dFour A n cap zs w H.out hn).mono ?_
  rintro e w1 ⟨⟨x, y, rfl⟩, b1⟩
  have B1 := Lib.hid b1
  clear b1
  go_wp2
  go_ret2
  exact ⟨⟨x, y, rfl⟩, B1.out⟩

end Go.Proofs.Ytinfpggpfpmpbaa
