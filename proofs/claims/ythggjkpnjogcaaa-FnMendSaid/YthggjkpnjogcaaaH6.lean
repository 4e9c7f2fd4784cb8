/- The drawing of octads, places, dodecads and near words. -/
import Derived.Test.YthggjkpnjogcaaaH0
namespace Go.Proofs.Ythggjkpnjogcaaa
open Go.RowKit

theorem dOctadIn (A : Option Addr) (n cap : Nat) (zs : List Int) (w : World) (h : IsRow .u8 w A n cap zs) (hn : n ≤ 1048576) :
    Calls Try.prog 40 #[.slice A n cap] w fun e w' => (∃ x, e = .returned (.int .i64 x)) ∧ Below w.heap.size w w' := by
  have H := Lib.hid h
  clear h
  go_enter Try.func40, Try.ntmps40
  go_wp2_with fail
  refine (sopen A n cap zs w H.out hn).mono ?_
  rintro e w1 ⟨g, rfl, r1, b1⟩
  have hgl := r1.lo
  go_wp2_with fail
  refine (soct w.heap.size g 0 w1 r1 (by decide)).mono ?_
  rintro e w2 ⟨x, hx, rfl, q, hq1, hq2, r2, o⟩
  have HB := Lib.hid (Only.drawn b1 (Nat.le_refl _) hgl o)
  clear r1 b1 r2 o hx
  go_wp2
  go_ret
  exact ⟨⟨x, rfl⟩, HB.out⟩

theorem dOctadMeet (A : Option Addr) (n cap : Nat) (zs : List Int) (w : World) (h : IsRow .u8 w A n cap zs) (hn : n ≤ 1048576) :
    Calls Try.prog 37 #[.slice A n cap] w fun e w' => (∃ x, e = .returned (.int .i64 x)) ∧ Below w.heap.size w w' := by
  have H := Lib.hid h
  clear h
  go_enter Try.func37, Try.ntmps37
  go_wp2_with fail
  refine (sopen A n cap zs w H.out hn).mono ?_
  rintro e w1 ⟨g, rfl, r1, b1⟩
  have hgl := r1.lo
  go_wp2_with fail
  refine (soct w.heap.size g 0 w1 r1 (by decide)).mono ?_
  rintro e w2 ⟨x, hx, rfl, q, hq1, hq2, r2, o⟩
  have HB := Lib.hid (Only.drawn b1 (Nat.le_refl _) hgl o)
  clear r1 b1 r2 o hx
  go_wp2
  go_ret
  exact ⟨⟨x, rfl⟩, HB.out⟩

theorem dOctadTriangle (A : Option Addr) (n cap : Nat) (zs : List Int) (w : World) (h : IsRow .u8 w A n cap zs) (hn : n ≤ 1048576) :
    Calls Try.prog 22 #[.slice A n cap] w fun e w' => (∃ x, e = .returned (.int .i64 x)) ∧ Below w.heap.size w w' := by
  have H := Lib.hid h
  clear h
  go_enter Try.func22, Try.ntmps22
  go_wp2_with fail
  refine (sopen A n cap zs w H.out hn).mono ?_
  rintro e w1 ⟨g, rfl, r1, b1⟩
  have hgl := r1.lo
  go_wp2_with fail
  refine (soct w.heap.size g 0 w1 r1 (by decide)).mono ?_
  rintro e w2 ⟨x, hx, rfl, q, hq1, hq2, r2, o⟩
  have HB := Lib.hid (Only.drawn b1 (Nat.le_refl _) hgl o)
  clear r1 b1 r2 o hx
  go_wp2
  go_ret
  exact ⟨⟨x, rfl⟩, HB.out⟩

theorem dCodeNear (A : Option Addr) (n cap : Nat) (zs : List Int) (w : World) (h : IsRow .u8 w A n cap zs) (hn : n ≤ 1048576) :
    Calls Try.prog 53 #[.slice A n cap] w fun e w' => (∃ x, e = .returned (.int .i64 x)) ∧ Below w.heap.size w w' := by
  have H := Lib.hid h
  clear h
  go_enter Try.func53, Try.ntmps53
  go_wp2_with fail
  refine (sopen A n cap zs w H.out hn).mono ?_
  rintro e w1 ⟨g, rfl, r1, b1⟩
  have hgl := r1.lo
  go_wp2_with fail
  refine (sword w.heap.size g 0 w1 r1 (by decide)).mono ?_
  rintro e w2 ⟨x, hx, rfl, q, hq1, hq2, r2, o⟩
  have HB := Lib.hid (Only.drawn b1 (Nat.le_refl _) hgl o)
  clear r1 b1 r2 o hx
  go_wp2
  go_ret
  exact ⟨⟨x, rfl⟩, HB.out⟩

theorem dCodeMend (A : Option Addr) (n cap : Nat) (zs : List Int) (w : World) (h : IsRow .u8 w A n cap zs) (hn : n ≤ 1048576) :
    Calls Try.prog 49 #[.slice A n cap] w fun e w' => (∃ x, e = .returned (.int .i64 x)) ∧ Below w.heap.size w w' := by
  have H := Lib.hid h
  clear h
  go_enter Try.func49, Try.ntmps49
  go_wp2_with fail
  refine (sopen A n cap zs w H.out hn).mono ?_
  rintro e w1 ⟨g, rfl, r1, b1⟩
  have hgl := r1.lo
  go_wp2_with fail
  refine (sword w.heap.size g 0 w1 r1 (by decide)).mono ?_
  rintro e w2 ⟨x, hx, rfl, q, hq1, hq2, r2, o⟩
  have HB := Lib.hid (Only.drawn b1 (Nat.le_refl _) hgl o)
  clear r1 b1 r2 o hx
  go_wp2
  go_ret
  exact ⟨⟨x, rfl⟩, HB.out⟩

theorem dOctadThrough (A : Option Addr) (n cap : Nat) (zs : List Int) (w : World) (h : IsRow .u8 w A n cap zs) (hn : n ≤ 1048576) :
    Calls Try.prog 29 #[.slice A n cap] w fun e w' => (∃ A1 n1 c1 l, n1 ≤ 12 ∧ e = .returned (.slice A1 n1 c1) ∧ Sl w' w'.heap.size A1 n1 c1 l) ∧ Below w.heap.size w w' := by
  have H := Lib.hid h
  clear h
  go_enter Try.func29, Try.ntmps29
  go_wp2_with fail
  refine (sopen A n cap zs w H.out hn).mono ?_
  rintro e w1 ⟨g, rfl, r1, b1⟩
  have hgl := r1.lo
  go_wp2_with fail
  refine (pick_any w.heap.size g 0 12 w1 r1 (by decide) (by decide) (by decide)).mono ?_
  rintro e w2 ⟨k, hk, rfl, r2, o2⟩
  go_wp2_with fail
  rw [show (5 : Int) + (k : Int) / 11 = ((5 + k / 11 : Nat) : Int) from by omega]
  refine (splaces w.heap.size g 1 (5 + k / 11) w2 r2 (by decide) (by omega)).mono ?_
  rintro e w3 ⟨A1, c1, l, rfl, o3, q, hq1, hq2, r3, o⟩
  have HB := Lib.hid (Only.drawn (Only.drawn b1 (Nat.le_refl _) hgl o2) (Nat.le_refl _) hgl o)
  have S := Lib.hid o3.sl
  clear r1 b1 r2 o2 o3 r3 o
  go_wp2
  go_ret
  exact ⟨⟨A1, _, c1, l, by omega, rfl, S.out⟩, HB.out⟩

theorem dOctadList (A : Option Addr) (n cap : Nat) (zs : List Int) (w : World) (h : IsRow .u8 w A n cap zs) (hn : n ≤ 1048576) :
    Calls Try.prog 33 #[.slice A n cap] w fun e w' => (∃ A1 n1 c1 l, n1 ≤ 12 ∧ e = .returned (.slice A1 n1 c1) ∧ Sl w' w'.heap.size A1 n1 c1 l) ∧ Below w.heap.size w w' := by
  have H := Lib.hid h
  clear h
  go_enter Try.func33, Try.ntmps33
  go_wp2_with fail
  refine (sopen A n cap zs w H.out hn).mono ?_
  rintro e w1 ⟨g, rfl, r1, b1⟩
  have hgl := r1.lo
  go_wp2_with fail
  refine (pick_any w.heap.size g 0 5 w1 r1 (by decide) (by decide) (by decide)).mono ?_
  rintro e w2 ⟨k, hk, rfl, r2, o2⟩
  go_wp2_with fail
  rw [show (2 : Int) + (k : Int) = ((2 + k : Nat) : Int) from by omega]
  refine (splaces w.heap.size g 1 (2 + k) w2 r2 (by decide) (by omega)).mono ?_
  rintro e w3 ⟨A1, c1, l, rfl, o3, q, hq1, hq2, r3, o⟩
  have HB := Lib.hid (Only.drawn (Only.drawn b1 (Nat.le_refl _) hgl o2) (Nat.le_refl _) hgl o)
  have S := Lib.hid o3.sl
  clear r1 b1 r2 o2 o3 r3 o
  go_wp2
  go_ret
  exact ⟨⟨A1, _, c1, l, by omega, rfl, S.out⟩, HB.out⟩

theorem dOctadCount (A : Option Addr) (n cap : Nat) (zs : List Int) (w : World) (h : IsRow .u8 w A n cap zs) (hn : n ≤ 1048576) :
    Calls Try.prog 26 #[.slice A n cap] w fun e w' => (∃ x y, e = .returned (.tuple #[.int .i64 x, .int .i64 y])) ∧ Below w.heap.size w w' := by
  have H := Lib.hid h
  clear h
  go_enter Try.func26, Try.ntmps26
  go_wp2_with fail
  refine (sopen A n cap zs w H.out hn).mono ?_
  rintro e w1 ⟨g, rfl, r1, b1⟩
  have hgl := r1.lo
  go_wp2_with fail
  refine (pick_any w.heap.size g 0 6 w1 r1 (by decide) (by decide) (by decide)).mono ?_
  rintro e w2 ⟨k, hk, rfl, r2, o2⟩
  go_wp2_with fail
  refine (splaces w.heap.size g 1 k w2 r2 (by decide) (by omega)).mono ?_
  rintro e w3 ⟨A1, c1, l1, rfl, o3, q, hq1, hq2, r3, o⟩
  have S1 := Lib.hid (sWordOf _ _ _ _ _ w3 o3.sl (by omega))
  generalize (wordOf l1).getD 0 = x at S1
  generalize (wordOf l1).isSome = u at S1
  go_wp2_with fail
  refine S1.out.mono ?_
  rintro e w' ⟨rfl, rfl⟩
  go_wp2_with fail
  refine (pick_any w.heap.size g q 6 w3 r3 (by omega) (by decide) (by decide)).mono ?_
  rintro e w4 ⟨k4, hk4, rfl, r4, o4⟩
  go_wp2_with fail
  refine (splaces w.heap.size g (q + 1) k4 w4 r4 (by omega) (by omega)).mono ?_
  rintro e w5 ⟨A2, c2, l2, rfl, o5, q2, hq3, hq4, r5, oo⟩
  have S2 := Lib.hid (sWordOf _ _ _ _ _ w5 o5.sl (by omega))
  have HB := Lib.hid (Only.drawn (Only.drawn (Only.drawn (Only.drawn b1 (Nat.le_refl _) hgl o2) (Nat.le_refl _) hgl o) (Nat.le_refl _) hgl o4) (Nat.le_refl _) hgl oo)
  clear r1 b1 r2 o2 o3 r3 o r4 o4 o5 r5 oo S1
  generalize (wordOf l2).getD 0 = y at S2
  generalize (wordOf l2).isSome = v at S2
  go_wp2_with fail
  refine S2.out.mono ?_
  rintro e w' ⟨rfl, rfl⟩
  cases u <;> cases v
  all_goals
    go_wp2
    go_ret2
    exact ⟨⟨_, _, rfl⟩, HB.out⟩

theorem dDodecadOf (A : Option Addr) (n cap : Nat) (zs : List Int) (w : World) (h : IsRow .u8 w A n cap zs) (hn : n ≤ 1048576) :
    Calls Try.prog 15 #[.slice A n cap] w fun e w' => (∃ x, e = .returned (.int .i64 x)) ∧ Below w.heap.size w w' := by
  have H := Lib.hid h
  clear h
  go_enter Try.func15, Try.ntmps15
  go_wp2_with fail
  refine (sopen A n cap zs w H.out hn).mono ?_
  rintro e w1 ⟨g, rfl, r1, b1⟩
  have hgl := r1.lo
  go_wp2_with fail
  refine (soct w.heap.size g 0 w1 r1 (by decide)).mono ?_
  rintro e w2 ⟨x, hx, rfl, q, hq1, hq2, r2, o2⟩
  go_wp2_with fail
  refine (soct w.heap.size g q w2 r2 (by omega)).mono ?_
  rintro e w3 ⟨y, hy, rfl, q3, hq3, hq4, r3, o3⟩
  have B3 := Lib.hid (Only.drawn (Only.drawn b1 (Nat.le_refl _) hgl o2) (Nat.le_refl _) hgl o3)
  have R3 := Lib.hid r3
  clear r1 b1 r2 o2 r3 o3
  by_cases h1 : 0 ≤ x
  · have f1 : decide ((0 : Int) ≤ x) = true := by simp; omega
    by_cases h2 : 0 ≤ y
    · have f2 : decide ((0 : Int) ≤ y) = true := by simp; omega
      go_wp2_with fail
      refine (pick_any w.heap.size g q3 4 w3 R3.out (by omega) (by decide) (by decide)).mono ?_
      rintro e w4 ⟨k, hk, rfl, r4, o4⟩
      have B4 := Lib.hid (Only.drawn B3.out (Nat.le_refl _) hgl o4)
      by_cases h0 : k = 0
      · subst h0
        go_wp2_with fail
        refine (scode w.heap.size g (q3 + 1) w4 r4 (by omega)).mono ?_
        rintro e w5 ⟨m, hm, rfl, q5, hq5, hq6, r5, o5⟩
        have HB := Lib.hid (Only.drawn B4.out (Nat.le_refl _) hgl o5)
        clear r4 o4 r5 o5
        go_wp2
        go_ret
        exact ⟨⟨_, rfl⟩, HB.out⟩
      · have e0 : decide ((0 : Int) < (k : Int)) = true := by simp; omega
        clear r4 o4
        go_wp2
        go_ret
        exact ⟨⟨_, rfl⟩, B4.out⟩
    · have f2 : decide ((0 : Int) ≤ y) = false := by simp; omega
      go_wp2_with fail
      refine (scode w.heap.size g q3 w3 R3.out (by omega)).mono ?_
      rintro e w5 ⟨m, hm, rfl, q5, hq5, hq6, r5, o5⟩
      have HB := Lib.hid (Only.drawn B3.out (Nat.le_refl _) hgl o5)
      clear r5 o5
      go_wp2
      go_ret
      exact ⟨⟨_, rfl⟩, HB.out⟩
  · have f1 : decide ((0 : Int) ≤ x) = false := by simp; omega
    go_wp2_with fail
    refine (scode w.heap.size g q3 w3 R3.out (by omega)).mono ?_
    rintro e w5 ⟨m, hm, rfl, q5, hq5, hq6, r5, o5⟩
    have HB := Lib.hid (Only.drawn B3.out (Nat.le_refl _) hgl o5)
    clear r5 o5
    go_wp2
    go_ret
    exact ⟨⟨_, rfl⟩, HB.out⟩

end Go.Proofs.Ythggjkpnjogcaaa
