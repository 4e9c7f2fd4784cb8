/- The drawing of sextets. -/
import Derived.Test.YtbpgaphcpgfafaaH0
namespace Go.Proofs.Ytbpgaphcpgfafaa
open Go.RowKit

theorem dSextetValid (A : Option Addr) (n cap : Nat) (zs : List Int) (w : World) (h : IsRow .u8 w A n cap zs) (hn : n ≤ 1048576) :
    Calls Try.prog 28 #[.slice A n cap] w fun e w' => ∃ A1 n1 c1 l, n1 ≤ 6 ∧ e = .returned (.slice A1 n1 c1) ∧ Sl w' w'.heap.size A1 n1 c1 l ∧ Below w.heap.size w w' := by
  have H := Lib.hid h
  clear h
  go_enter Try.func28, Try.ntmps28
  go_wp2_with fail
  refine (sopen A n cap zs w H.out hn).mono ?_
  rintro e w1 ⟨g, rfl, r1, b1⟩
  go_wp2_with fail
  refine (ssextd w.heap.size g 0 w1 r1 (by decide)).mono ?_
  rintro e w2 ⟨A1, n1, c1, l, h6, rfl, o2, q, hq1, hq2, r2, o⟩
  have hgl := r1.lo
  have S := Lib.hid o2.sl
  have HB := Lib.hid (b1.trans (o.below b1.size (fun z hz => by injection hz with hz; subst hz; exact hgl)))
  clear r1 b1 o2 r2 o
  go_wp2
  go_ret
  exact ⟨A1, n1, c1, l, by omega, rfl, S.out, HB.out⟩

theorem dSextetOctads (A : Option Addr) (n cap : Nat) (zs : List Int) (w : World) (h : IsRow .u8 w A n cap zs) (hn : n ≤ 1048576) :
    Calls Try.prog 41 #[.slice A n cap] w fun e w' => ∃ A1 n1 c1 l, n1 ≤ 6 ∧ e = .returned (.slice A1 n1 c1) ∧ Sl w' w'.heap.size A1 n1 c1 l ∧ Below w.heap.size w w' := by
  have H := Lib.hid h
  clear h
  go_enter Try.func41, Try.ntmps41
  go_wp2_with fail
  refine (sopen A n cap zs w H.out hn).mono ?_
  rintro e w1 ⟨g, rfl, r1, b1⟩
  go_wp2_with fail
  refine (ssextd w.heap.size g 0 w1 r1 (by decide)).mono ?_
  rintro e w2 ⟨A1, n1, c1, l, h6, rfl, o2, q, hq1, hq2, r2, o⟩
  have hgl := r1.lo
  have S := Lib.hid o2.sl
  have HB := Lib.hid (b1.trans (o.below b1.size (fun z hz => by injection hz with hz; subst hz; exact hgl)))
  clear r1 b1 o2 r2 o
  go_wp2
  go_ret
  exact ⟨A1, n1, c1, l, by omega, rfl, S.out, HB.out⟩

theorem dSextetOf (A : Option Addr) (n cap : Nat) (zs : List Int) (w : World) (h : IsRow .u8 w A n cap zs) (hn : n ≤ 1048576) :
    Calls Try.prog 37 #[.slice A n cap] w fun e w' => ∃ x, e = .returned (.int .i64 x) ∧ Below w.heap.size w w' := by
  have H := Lib.hid h
  clear h
  go_enter Try.func37, Try.ntmps37
  go_wp2_with fail
  refine (sopen A n cap zs w H.out hn).mono ?_
  rintro e w1 ⟨g, rfl, r1, b1⟩
  go_wp2_with fail
  refine (stetd w.heap.size g 0 w1 r1 (by decide)).mono ?_
  rintro e w2 ⟨x, hx, rfl, q, hq1, hq2, r2, o⟩
  have hgl := r1.lo
  have HB := Lib.hid (b1.trans (o.below b1.size (fun z hz => by injection hz with hz; subst hz; exact hgl)))
  clear r1 b1 r2 o hx
  go_wp2
  go_ret
  exact ⟨x, rfl, HB.out⟩

set_option maxHeartbeats 1000000 in
theorem dSextetSum (A : Option Addr) (n cap : Nat) (zs : List Int) (w : World) (h : IsRow .u8 w A n cap zs) (hn : n ≤ 1048576) :
    Calls Try.prog 33 #[.slice A n cap] w fun e w' => ∃ x y, e = .returned (.tuple #[.int .i64 x, .int .i64 y]) ∧ Below w.heap.size w w' := by
  have H := Lib.hid h
  clear h
  go_enter Try.func33, Try.ntmps33
  go_wp2_with fail
  refine (sopen A n cap zs w H.out hn).mono ?_
  rintro e w1 ⟨g, rfl, r1, b1⟩
  have hgl := r1.lo
  go_wp2_with fail
  refine (splaces w.heap.size g 0 6 w1 r1 (by decide) (by decide)).mono ?_
  rintro e w2 ⟨A1, c1, l, rfl, o2, q, hq1, hq2, r2, o⟩
  have B2 := Lib.hid (Only.drawn b1 (Nat.le_refl _) hgl o)
  obtain ⟨ga, rfl, -, -⟩ := o2.form (by decide)
  have hc := o2.le
  have hm := o2.sl.max
  have s1 := o2.sl.part 0 4 c1 (by decide) (by omega) hm
  have s2 := o2.sl.part 2 4 (c1 - 2) (by decide) (by omega) (by omega)
  rw [Nat.add_zero] at s1
  have S1 := Lib.hid (sWordOf _ _ _ _ _ w2 s1 (by decide))
  have S2 := Lib.hid (sWordOf _ _ _ _ _ w2 s2 (by decide))
  have R2 := Lib.hid r2
  clear r1 b1 o2 r2 o s1 s2
  generalize (wordOf ((l.drop 0).take 4)).getD 0 = x at S1
  generalize (wordOf ((l.drop 0).take 4)).isSome = u at S1
  generalize (wordOf ((l.drop 2).take 4)).getD 0 = y at S2
  generalize (wordOf ((l.drop 2).take 4)).isSome = v at S2
  go_wp2_with fail
  refine S1.out.mono ?_
  rintro e w' ⟨rfl, rfl⟩
  go_wp2_with fail
  refine S2.out.mono ?_
  rintro e w' ⟨rfl, rfl⟩
  cases u with
  | false =>
    go_wp2_with fail
    refine (stetd w.heap.size g q w2 R2.out (by omega)).mono ?_
    rintro e w3 ⟨x3, hx3, rfl, q3, hq3, hq4, r3, o3⟩
    go_wp2_with fail
    refine (stetd w.heap.size g q3 w3 r3 (by omega)).mono ?_
    rintro e w4 ⟨x4, hx4, rfl, q4, hq5, hq6, r4, o4⟩
    have HB := Lib.hid (Only.drawn (Only.drawn B2.out (Nat.le_refl _) hgl o3) (Nat.le_refl _) hgl o4)
    clear r3 o3 r4 o4 hx3 hx4
    go_wp2
    go_ret2
    exact ⟨_, _, rfl, HB.out⟩
  | true =>
    cases v with
    | false =>
      go_wp2_with fail
      refine (stetd w.heap.size g q w2 R2.out (by omega)).mono ?_
      rintro e w3 ⟨x3, hx3, rfl, q3, hq3, hq4, r3, o3⟩
      go_wp2_with fail
      refine (stetd w.heap.size g q3 w3 r3 (by omega)).mono ?_
      rintro e w4 ⟨x4, hx4, rfl, q4, hq5, hq6, r4, o4⟩
      have HB := Lib.hid (Only.drawn (Only.drawn B2.out (Nat.le_refl _) hgl o3) (Nat.le_refl _) hgl o4)
      clear r3 o3 r4 o4 hx3 hx4
      go_wp2
      go_ret2
      exact ⟨_, _, rfl, HB.out⟩
    | true =>
      go_wp2_with fail
      refine (pick_any w.heap.size g q 4 w2 R2.out (by omega) (by decide) (by decide)).mono ?_
      rintro e w3 ⟨k, hk, rfl, r3, o3⟩
      by_cases h0 : k = 0
      · subst h0
        go_wp2_with fail
        refine (stetd w.heap.size g (q + 1) w3 r3 (by omega)).mono ?_
        rintro e w4 ⟨x4, hx4, rfl, q4, hq5, hq6, r4, o4⟩
        go_wp2_with fail
        refine (stetd w.heap.size g q4 w4 r4 (by omega)).mono ?_
        rintro e w5 ⟨x5, hx5, rfl, q5, hq7, hq8, r5, o5⟩
        have HB := Lib.hid (Only.drawn (Only.drawn (Only.drawn B2.out (Nat.le_refl _) hgl o3) (Nat.le_refl _) hgl o4) (Nat.le_refl _) hgl o5)
        clear r3 o3 r4 o4 r5 o5 hx4 hx5
        go_wp2
        go_ret2
        exact ⟨_, _, rfl, HB.out⟩
      · have e0 : decide ((0 : Int) < (k : Int)) = true := by simp; omega
        have HB := Lib.hid (Only.drawn B2.out (Nat.le_refl _) hgl o3)
        clear r3 o3
        go_wp2
        go_ret2
        exact ⟨_, _, rfl, HB.out⟩

set_option maxHeartbeats 1000000 in
theorem dSextets (A : Option Addr) (n cap : Nat) (zs : List Int) (w : World) (h : IsRow .u8 w A n cap zs) (hn : n ≤ 1048576) :
    Calls Try.prog 65 #[.slice A n cap] w fun e w' => ∃ A1 n1 c1 l1 A2 n2 c2 l2, n1 ≤ 6 ∧ n2 ≤ 6 ∧ e = .returned (.tuple #[.slice A1 n1 c1, .slice A2 n2 c2]) ∧ Sl w' w'.heap.size A1 n1 c1 l1 ∧ Sl w' w'.heap.size A2 n2 c2 l2 ∧ Below w.heap.size w w' := by
  have H := Lib.hid h
  clear h
  go_enter Try.func65, Try.ntmps65
  go_wp2_with fail
  refine (sopen A n cap zs w H.out hn).mono ?_
  rintro e w1 ⟨g, rfl, r1, b1⟩
  have hgl := r1.lo
  have hgi := r1.hi
  go_wp2_with fail
  refine (ssextd w.heap.size g 0 w1 r1 (by decide)).mono ?_
  rintro e w2 ⟨A1, n1, c1, l, h6, rfl, o2, q, hq1, hq2, r2, o⟩
  have B2 := Lib.hid (Only.drawn b1 (Nat.le_refl _) hgl o)
  have R2 := Lib.hid r2
  have O2 := Lib.hid o2
  clear r1 b1 o2 r2 o
  rcases h6 with rfl | rfl
  · go_wp2_with fail
    refine (ssextd w.heap.size g q w2 R2.out (by omega)).mono ?_
    rintro e w3 ⟨A3, n3, c3, l3, h63, rfl, o3, q3, hq3, hq4, r3, oo⟩
    have HB := Lib.hid (Only.drawn B2.out (Nat.le_refl _) hgl oo)
    have S1 := Lib.hid ((O2.out.sl_read hgi oo).sl)
    have S3 := Lib.hid o3.sl
    clear r3 o3 oo
    go_wp2
    go_ret2
    exact ⟨A1, 0, c1, _, A3, n3, c3, _, by decide, by omega, rfl, S1.out, S3.out, HB.out⟩
  · go_wp2_with fail
    refine (pick_any w.heap.size g q 4 w2 R2.out (by omega) (by decide) (by decide)).mono ?_
    rintro e w3 ⟨k, hk, rfl, r3, o3⟩
    have O3 := Lib.hid (O2.out.sl_read hgi o3)
    have B3 := Lib.hid (Only.drawn B2.out (Nat.le_refl _) hgl o3)
    have R3 := Lib.hid r3
    clear r3 o3
    by_cases h0 : k = 0
    · subst h0
      have S1 := Lib.hid O3.out.sl
      go_wp2
      go_ret2
      exact ⟨A1, 6, c1, _, A1, 6, c1, _, by decide, by decide, rfl, S1.out, S1.out, B3.out⟩
    · have e0 : ((k : Int) == 0) = false := by simp; omega
      go_wp2_with fail
      refine (ssextd w.heap.size g (q + 1) w3 R3.out (by omega)).mono ?_
      rintro e w4 ⟨A3, n3, c3, l3, h63, rfl, o4, q3, hq3, hq4, r4, oo⟩
      have HB := Lib.hid (Only.drawn B3.out (Nat.le_refl _) hgl oo)
      have S1 := Lib.hid ((O3.out.sl_read hgi oo).sl)
      have S3 := Lib.hid o4.sl
      clear r4 o4 oo
      go_wp2
      go_ret2
      exact ⟨A1, 6, c1, _, A3, n3, c3, _, by decide, by omega, rfl, S1.out, S3.out, HB.out⟩

theorem dSextetTable (A : Option Addr) (n cap : Nat) (zs : List Int) (w : World) (h : IsRow .u8 w A n cap zs) (hn : n ≤ 1048576) :
    Calls Try.prog 40 #[.slice A n cap] w fun e w' => ∃ A1 n1 c1 l1 A2 n2 c2 l2, n1 ≤ 6 ∧ n2 ≤ 6 ∧ e = .returned (.tuple #[.slice A1 n1 c1, .slice A2 n2 c2]) ∧ Sl w' w'.heap.size A1 n1 c1 l1 ∧ Sl w' w'.heap.size A2 n2 c2 l2 ∧ Below w.heap.size w w' := by
  have H := Lib.hid h
  clear h
  go_enter Try.func40, Try.ntmps40
  go_wp2_with fail
  refine (dSextets A n cap zs w H.out hn).mono ?_
  rintro e w1 ⟨A1, n1, c1, l1, A2, n2, c2, l2, k1, k2, rfl, s1, s2, b1⟩
  have S1 := Lib.hid s1
  have S2 := Lib.hid s2
  have B1 := Lib.hid b1
  clear s1 s2 b1
  go_wp2
  go_ret2
  exact ⟨A1, n1, c1, l1, A2, n2, c2, l2, k1, k2, rfl, S1.out, S2.out, B1.out⟩

theorem dSextetKind (A : Option Addr) (n cap : Nat) (zs : List Int) (w : World) (h : IsRow .u8 w A n cap zs) (hn : n ≤ 1048576) :
    Calls Try.prog 42 #[.slice A n cap] w fun e w' => ∃ A1 n1 c1 l1 A2 n2 c2 l2, n1 ≤ 6 ∧ n2 ≤ 6 ∧ e = .returned (.tuple #[.slice A1 n1 c1, .slice A2 n2 c2]) ∧ Sl w' w'.heap.size A1 n1 c1 l1 ∧ Sl w' w'.heap.size A2 n2 c2 l2 ∧ Below w.heap.size w w' := by
  have H := Lib.hid h
  clear h
  go_enter Try.func42, Try.ntmps42
  go_wp2_with fail
  refine (dSextets A n cap zs w H.out hn).mono ?_
  rintro e w1 ⟨A1, n1, c1, l1, A2, n2, c2, l2, k1, k2, rfl, s1, s2, b1⟩
  have S1 := Lib.hid s1
  have S2 := Lib.hid s2
  have B1 := Lib.hid b1
  clear s1 s2 b1
  go_wp2
  go_ret2
  exact ⟨A1, n1, c1, l1, A2, n2, c2, l2, k1, k2, rfl, S1.out, S2.out, B1.out⟩
end Go.Proofs.Ytbpgaphcpgfafaa
