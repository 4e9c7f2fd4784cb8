/- The point on two lines. -/
import Derived.Test.YtinfpggpfpmpbaaF6
import Derived.Test.YtinfpggpfpmpbaaK1
import Derived.Test.YtinfpggpfpmpbaaM16
namespace Go.Proofs.Ytinfpggpfpmpbaa
open Go.RowKit

/-- What 'PlanePoint' answers. -/
def isLine (b : Nat) (x : Int) : Bool := (nl (lns b 0)).contains x
def pntOk (b x y : Int) : Bool := baseZ b && (decide (x ≠ y) && (isLine b.toNat x && isLine b.toNat y))
def pntR (b x y : Int) : Nat := if pntOk b x y then (pl (x.toNat &&& y.toNat)).headD 0 else 0
theorem isLine_nat {b : Nat} {x : Int} (hb : b < 16777216) (h : isLine b x = true) : ∃ y : Nat, x = y ∧ Line b y ∧ y < 16777216 := by
  unfold isLine nl at h
  rw [List.contains_iff_mem, List.mem_map] at h
  obtain ⟨y, hy, rfl⟩ := h
  have := ((mem_lns hb).1 hy).1
  exact ⟨y, rfl, this, line_lt hb this⟩
theorem pnt_no {b x y : Int} (h : baseZ b = false ∨ x = y ∨ isLine b.toNat x = false ∨ isLine b.toNat y = false) : pntOk b x y = false ∧ pntR b x y = 0 := by
  have h1 : pntOk b x y = false := by unfold pntOk; rcases h with h | h | h | h <;> simp [h]
  exact ⟨h1, by unfold pntR; rw [h1]; rfl⟩
theorem pnt_yes {b y z : Nat} (hb : b < 16777216) (h3 : wt b = 3) (hy : isLine b y = true) (hz : isLine b z = true) (hne : y ≠ z) :
    ∃ p, p < 24 ∧ pl (y &&& z) = [p] ∧ y.testBit p = true ∧ z.testBit p = true ∧ pntOk b y z = true ∧ pntR b y z = p := by
  obtain ⟨y', e1, ly, _⟩ := isLine_nat hb hy
  obtain ⟨z', e2, lz, _⟩ := isLine_nat hb hz
  have e1 : y = y' := Int.ofNat.inj e1
  have e2 : z = z' := Int.ofNat.inj e2
  subst e1
  subst e2
  obtain ⟨p, hp, e, h1, h2⟩ := line_point hb h3 ly lz hne
  have hpl : pl (y &&& z) = [p] := by rw [e]; exact pl_single hp
  have hok : pntOk b y z = true := by
    unfold pntOk
    rw [baseZ_yes hb h3, Int.toNat_natCast, hy, hz]
    simp
    omega
  refine ⟨p, hp, hpl, h1, h2, hok, ?_⟩
  unfold pntR
  rw [hok, Int.toNat_natCast, Int.toNat_natCast, hpl]
  rfl
theorem pnt_nat {b x y : Int} (h : pntOk b x y = true) : ∃ b' y' z' : Nat, b = b' ∧ x = y' ∧ y = z' ∧ b' < 16777216 ∧ wt b' = 3 ∧ isLine b' y' = true ∧ isLine b' z' = true ∧ y' ≠ z' := by
  unfold pntOk at h
  simp only [Bool.and_eq_true, decide_eq_true_eq] at h
  obtain ⟨h1, h2, h3, h4⟩ := h
  obtain ⟨b', rfl, hb, hb3⟩ := baseZ_nat h1
  rw [Int.toNat_natCast] at h3 h4
  obtain ⟨y', rfl, _, _⟩ := isLine_nat hb h3
  obtain ⟨z', rfl, _, _⟩ := isLine_nat hb h4
  exact ⟨b', y', z', rfl, rfl, rfl, hb, hb3, h3, h4, fun e => h2 (by rw [e])⟩

/-- 'l6pIs': whether a word is among the lines. -/
theorem sis_is (B : Nat) (A : Option Addr) (n cap : Nat) (l : List Int) (x : Int) (v : Bool) (hv : l.contains x = v) (w : World) (h : Sl w B A n cap l) (hn : n ≤ 1048576) :
    Calls Try.prog 57 #[.slice A n cap, .int .i64 x] w fun e w' => e = .returned (.bool v) ∧ w = w' := by
  have HS := Lib.hid h
  have HV := Lib.hid hv
  clear h hv
  go_enter Try.func57, Try.ntmps57
  go_wp2
  go_loop [5] (fun i => ∃ k : Nat, k ≤ n ∧ i = .int .i64 k ∧ ∀ j z, j < k → l[j]? = some z → z ≠ x) (fun i => n - (intOf i).toNat)
  case atStart => exact ⟨0, Nat.zero_le _, rfl, by omega⟩
  case round =>
    obtain ⟨k, hk, rfl, hno⟩ := hrel
    have HN := Lib.hid hno
    clear hno
    by_cases hlt : k < n
    · obtain ⟨b, o, y, rfl, hb, hy, hc⟩ := HS.out.get hlt
      have hi1 : decide ((k : Int) < (n : Int)) = true := by simp; omega
      by_cases hxy : y = x
      · subst hxy
        have e1 : (y == y) = true := by simp
        have HR := Lib.hid (show v = true from HV.out.symm.trans (List.contains_iff_mem.2 (List.mem_of_getElem? hy)))
        clear hy
        go_wp2
        go_ret
        rw [HR.out]
        exact ⟨rfl, rfl⟩
      · have e1 : (y == x) = false := by simpa using hxy
        have HY := Lib.hid hy
        clear hy
        go_wp2
        go_round
        case rel =>
          refine ⟨k + 1, by omega, by go_num, fun j z hj hz => ?_⟩
          by_cases hjk : j = k
          · subst hjk
            rw [HY.out] at hz
            injection hz with hz
            rw [← hz]
            exact hxy
          · exact HN.out j z (by omega) hz
        case measure => simp [intOf]; omega
    · obtain rfl : k = n := by omega
      have hi1 : decide ((k : Int) < (k : Int)) = false := by simp
      have HR := Lib.hid (show v = false from by
        rw [← HV.out, Bool.eq_false_iff]
        intro h
        obtain ⟨j, hj⟩ := List.mem_iff_getElem?.1 (List.contains_iff_mem.1 h)
        have h1 := HS.out.len
        have h2 := (List.getElem?_eq_some_iff.1 hj).1
        exact HN.out j x (by omega) hj rfl)
      go_wp2
      go_ret
      rw [HR.out]
      exact ⟨rfl, rfl⟩

theorem sis (B : Nat) (A : Option Addr) (n cap : Nat) (l : List Int) (x : Int) (w : World) (h : Sl w B A n cap l) (hn : n ≤ 1048576) :
    Calls Try.prog 57 #[.slice A n cap, .int .i64 x] w fun e w' => e = .returned (.bool (l.contains x)) ∧ w = w' := sis_is B A n cap l x _ rfl w h hn

set_option maxHeartbeats 1000000 in
theorem iPlanePoint (b x y : Int) (w : World) :
    Calls Try.prog 21 #[.int .i64 b, .int .i64 x, .int .i64 y] w fun e w' => e = .returned (.tuple #[.int .i64 (pntR b x y : Nat), .bool (pntOk b x y)]) ∧ Below w.heap.size w w' := by
  cases hbz : baseZ b with
  | false =>
    have HR := Lib.hid (pnt_no (x := x) (y := y) (.inl hbz))
    have HB := Lib.hid (fun W => ibase_is b _ hbz W)
    clear hbz
    go_enter Try.func21, Try.ntmps21
    go_wp2_with fail
    refine (HB.out _).mono ?_
    rintro e w' ⟨rfl, rfl⟩
    go_wp2
    go_ret2
    rw [HR.out.1, HR.out.2]
    exact ⟨rfl, Below.refl _ _⟩
  | true =>
    have HB := Lib.hid (fun W => ibase_is b _ hbz W)
    obtain ⟨t, rfl, ht, h3⟩ := baseZ_nat hbz
    by_cases hxy : x = y
    · have HR := Lib.hid (pnt_no (b := (t : Int)) (x := x) (y := y) (.inr (.inl hxy)))
      have e1 : (x == y) = true := by simpa using hxy
      clear hbz hxy
      go_enter Try.func21, Try.ntmps21
      go_wp2_with fail
      refine (HB.out _).mono ?_
      rintro e w' ⟨rfl, rfl⟩
      go_wp2
      go_ret2
      rw [HR.out.1, HR.out.2]
      exact ⟨rfl, Below.refl _ _⟩
    · have e1 : (x == y) = false := by simpa using hxy
      have HLI := Lib.hid (fun W => ilines t 0 W ht (by decide) (by simp))
      have hl21 := lines_21 ht h3
      have HL := Lib.hid hl21
      cases hx : isLine t x with
      | false =>
        have HR := Lib.hid (pnt_no (b := (t : Int)) (x := x) (y := y) (.inr (.inr (.inl hx))))
        have HX := Lib.hid (show (nl (lns t 0)).contains x = false from hx)
        clear hbz hxy hx hl21
        go_enter Try.func21, Try.ntmps21
        go_wp2_with fail
        refine (HB.out _).mono ?_
        rintro e w' ⟨rfl, rfl⟩
        go_wp2_with fail
        refine (HLI.out _).mono ?_
        rintro e w1 ⟨A1, n1, c1, rfl, o1, b1⟩
        have hn1 : n1 ≤ 1048576 := by have := o1.length; rw [nl_length, HL.out] at this; omega
        have HC := Lib.hid (containsInts _ _ _ _ _ x w1 o1.sl hn1)
        rw [HX.out] at HC
        have HB1 := Lib.hid b1
        clear o1 b1
        go_wp2_with fail
        refine HC.out.mono ?_
        rintro e w' ⟨rfl, rfl⟩
        go_wp2
        go_ret2
        rw [HR.out.1, HR.out.2]
        exact ⟨rfl, HB1.out⟩
      | true =>
        cases hy : isLine t y with
        | false =>
          have HR := Lib.hid (pnt_no (b := (t : Int)) (x := x) (y := y) (.inr (.inr (.inr hy))))
          have HX := Lib.hid (show (nl (lns t 0)).contains x = true from hx)
          have HY := Lib.hid (show (nl (lns t 0)).contains y = false from hy)
          clear hbz hxy hx hy hl21
          go_enter Try.func21, Try.ntmps21
          go_wp2_with fail
          refine (HB.out _).mono ?_
          rintro e w' ⟨rfl, rfl⟩
          go_wp2_with fail
          refine (HLI.out _).mono ?_
          rintro e w1 ⟨A1, n1, c1, rfl, o1, b1⟩
          have hn1 : n1 ≤ 1048576 := by have := o1.length; rw [nl_length, HL.out] at this; omega
          have HC := Lib.hid (containsInts _ _ _ _ _ x w1 o1.sl hn1)
          have HD := Lib.hid (containsInts _ _ _ _ _ y w1 o1.sl hn1)
          rw [HX.out] at HC
          rw [HY.out] at HD
          have HB1 := Lib.hid b1
          clear o1 b1
          go_wp2_with fail
          refine HC.out.mono ?_
          rintro e w' ⟨rfl, rfl⟩
          go_wp2_with fail
          refine HD.out.mono ?_
          rintro e w' ⟨rfl, rfl⟩
          go_wp2
          go_ret2
          rw [HR.out.1, HR.out.2]
          exact ⟨rfl, HB1.out⟩
        | true =>
          obtain ⟨y1, rfl, ly, lyl⟩ := isLine_nat ht hx
          obtain ⟨z1, rfl, lz, lzl⟩ := isLine_nat ht hy
          obtain ⟨p, hp, hpl, hp1, hp2, hok, hr⟩ := pnt_yes ht h3 hx hy (fun e => hxy (by rw [e]))
          have HR := Lib.hid (And.intro hok hr)
          have HX := Lib.hid (show (nl (lns t 0)).contains (y1 : Int) = true from hx)
          have HY := Lib.hid (show (nl (lns t 0)).contains (z1 : Int) = true from hy)
          have hand := i64_and y1 z1 (by omega) (by omega)
          have HP := Lib.hid (fun W => placesOf_any (y1 &&& z1) W (and_lt lyl))
          rw [hpl] at HP
          clear hbz hxy hx hy hl21 ly lz hpl hp1 hp2 hok hr
          go_enter Try.func21, Try.ntmps21
          go_wp2_with fail
          refine (HB.out _).mono ?_
          rintro e w' ⟨rfl, rfl⟩
          go_wp2_with fail
          refine (HLI.out _).mono ?_
          rintro e w1 ⟨A1, n1, c1, rfl, o1, b1⟩
          have hn1 : n1 ≤ 1048576 := by have := o1.length; rw [nl_length, HL.out] at this; omega
          have HC := Lib.hid (containsInts _ _ _ _ _ (y1 : Int) w1 o1.sl hn1)
          have HD := Lib.hid (containsInts _ _ _ _ _ (z1 : Int) w1 o1.sl hn1)
          rw [HX.out] at HC
          rw [HY.out] at HD
          have HB1 := Lib.hid b1
          clear o1 b1
          go_wp2_with fail
          refine HC.out.mono ?_
          rintro e w' ⟨rfl, rfl⟩
          go_wp2_with fail
          refine HD.out.mono ?_
          rintro e w' ⟨rfl, rfl⟩
          go_wp2_with fail
          refine (HP.out w1).mono ?_
          rintro e w2 ⟨A2, n2, c2, rfl, o2, b2⟩
          obtain rfl : n2 = 1 := by have := o2.length; simp [nl] at this; omega
          obtain ⟨bb, oo, v, rfl, hbb, hv, hc⟩ := o2.sl.nat (k := 0) (by decide)
          obtain rfl : p = v := by simpa using hv
          rw [Nat.add_zero] at hc
          have HB2 := Lib.hid (below_to HB1.out b2 (Nat.le_refl _))
          clear o2 b2 hv
          go_wp2
          go_ret2
          rw [HR.out.1, HR.out.2]
          exact ⟨rfl, HB2.out⟩
set_option maxHeartbeats 1000000 in
theorem sPlanePoint (b x y : Int) (w : World) :
    Calls Try.prog 20 #[.int .i64 b, .int .i64 x, .int .i64 y] w fun e w' => e = .returned (.tuple #[.int .i64 (pntR b x y : Nat), .bool (pntOk b x y)]) ∧ Below w.heap.size w w' := by
  cases hbz : baseZ b with
  | false =>
    have HR := Lib.hid (pnt_no (x := x) (y := y) (.inl hbz))
    have HB := Lib.hid (fun W => sbase_is b _ hbz W)
    clear hbz
    go_enter Try.func20, Try.ntmps20
    go_wp2_with fail
    refine (HB.out _).mono ?_
    rintro e w' ⟨rfl, rfl⟩
    go_wp2
    go_ret2
    rw [HR.out.1, HR.out.2]
    exact ⟨rfl, Below.refl _ _⟩
  | true =>
    have HB := Lib.hid (fun W => sbase_is b _ hbz W)
    obtain ⟨t, rfl, ht, h3⟩ := baseZ_nat hbz
    by_cases hxy : x = y
    · have HR := Lib.hid (pnt_no (b := (t : Int)) (x := x) (y := y) (.inr (.inl hxy)))
      have e1 : (x == y) = true := by simpa using hxy
      clear hbz hxy
      go_enter Try.func20, Try.ntmps20
      go_wp2_with fail
      refine (HB.out _).mono ?_
      rintro e w' ⟨rfl, rfl⟩
      go_wp2
      go_ret2
      rw [HR.out.1, HR.out.2]
      exact ⟨rfl, Below.refl _ _⟩
    · have e1 : (x == y) = false := by simpa using hxy
      have HLI := Lib.hid (fun W => slines t W ht h3)
      have hl21 := lines_21 ht h3
      have HL := Lib.hid hl21
      cases hx : isLine t x with
      | false =>
        have HR := Lib.hid (pnt_no (b := (t : Int)) (x := x) (y := y) (.inr (.inr (.inl hx))))
        have HX := Lib.hid (show (nl (lns t 0)).contains x = false from hx)
        clear hbz hxy hx hl21
        go_enter Try.func20, Try.ntmps20
        go_wp2_with fail
        refine (HB.out _).mono ?_
        rintro e w' ⟨rfl, rfl⟩
        go_wp2_with fail
        refine (HLI.out _).mono ?_
        rintro e w1 ⟨A1, n1, c1, rfl, o1, b1⟩
        have hn1 : n1 ≤ 1048576 := by have := o1.length; rw [nl_length, HL.out] at this; omega
        have HC := Lib.hid (sis _ _ _ _ _ x w1 o1.sl hn1)
        rw [HX.out] at HC
        have HB1 := Lib.hid b1
        clear o1 b1
        go_wp2_with fail
        refine HC.out.mono ?_
        rintro e w' ⟨rfl, rfl⟩
        go_wp2
        go_ret2
        rw [HR.out.1, HR.out.2]
        exact ⟨rfl, HB1.out⟩
      | true =>
        cases hy : isLine t y with
        | false =>
          have HR := Lib.hid (pnt_no (b := (t : Int)) (x := x) (y := y) (.inr (.inr (.inr hy))))
          have HX := Lib.hid (show (nl (lns t 0)).contains x = true from hx)
          have HY := Lib.hid (show (nl (lns t 0)).contains y = false from hy)
          clear hbz hxy hx hy hl21
          go_enter Try.func20, Try.ntmps20
          go_wp2_with fail
          refine (HB.out _).mono ?_
          rintro e w' ⟨rfl, rfl⟩
          go_wp2_with fail
          refine (HLI.out _).mono ?_
          rintro e w1 ⟨A1, n1, c1, rfl, o1, b1⟩
          have hn1 : n1 ≤ 1048576 := by have := o1.length; rw [nl_length, HL.out] at this; omega
          have HC := Lib.hid (sis _ _ _ _ _ x w1 o1.sl hn1)
          have HD := Lib.hid (sis _ _ _ _ _ y w1 o1.sl hn1)
          rw [HX.out] at HC
          rw [HY.out] at HD
          have HB1 := Lib.hid b1
          clear o1 b1
          go_wp2_with fail
          refine HC.out.mono ?_
          rintro e w' ⟨rfl, rfl⟩
          go_wp2_with fail
          refine HD.out.mono ?_
          rintro e w' ⟨rfl, rfl⟩
          go_wp2
          go_ret2
          rw [HR.out.1, HR.out.2]
          exact ⟨rfl, HB1.out⟩
        | true =>
          obtain ⟨y1, rfl, ly, lyl⟩ := isLine_nat ht hx
          obtain ⟨z1, rfl, lz, lzl⟩ := isLine_nat ht hy
          obtain ⟨p, hp, hpl, hp1, hp2, hok, hr⟩ := pnt_yes ht h3 hx hy (fun e => hxy (by rw [e]))
          have HR := Lib.hid (And.intro hok hr)
          have HX := Lib.hid (show (nl (lns t 0)).contains (y1 : Int) = true from hx)
          have HY := Lib.hid (show (nl (lns t 0)).contains (z1 : Int) = true from hy)
          have hand := i64_and y1 z1 (by omega) (by omega)
          have HP := Lib.hid (fun W => sl1Places (y1 &&& z1) W (and_lt lyl))
          rw [hpl] at HP
          clear hbz hxy hx hy hl21 ly lz hpl hp1 hp2 hok hr
          go_enter Try.func20, Try.ntmps20
          go_wp2_with fail
          refine (HB.out _).mono ?_
          rintro e w' ⟨rfl, rfl⟩
          go_wp2_with fail
          refine (HLI.out _).mono ?_
          rintro e w1 ⟨A1, n1, c1, rfl, o1, b1⟩
          have hn1 : n1 ≤ 1048576 := by have := o1.length; rw [nl_length, HL.out] at this; omega
          have HC := Lib.hid (sis _ _ _ _ _ (y1 : Int) w1 o1.sl hn1)
          have HD := Lib.hid (sis _ _ _ _ _ (z1 : Int) w1 o1.sl hn1)
          rw [HX.out] at HC
          rw [HY.out] at HD
          have HB1 := Lib.hid b1
          clear o1 b1
          go_wp2_with fail
          refine HC.out.mono ?_
          rintro e w' ⟨rfl, rfl⟩
          go_wp2_with fail
          refine HD.out.mono ?_
          rintro e w' ⟨rfl, rfl⟩
          go_wp2_with fail
          refine (HP.out w1).mono ?_
          rintro e w2 ⟨A2, n2, c2, rfl, o2, b2⟩
          obtain rfl : n2 = 1 := by have := o2.length; simp [nl] at this; omega
          obtain ⟨bb, oo, v, rfl, hbb, hv, hc⟩ := o2.sl.nat (k := 0) (by decide)
          obtain rfl : p = v := by simpa using hv
          rw [Nat.add_zero] at hc
          have HB2 := Lib.hid (below_to HB1.out b2 (Nat.le_refl _))
          clear o2 b2 hv
          go_wp2
          go_ret2
          rw [HR.out.1, HR.out.2]
          exact ⟨rfl, HB2.out⟩
end Go.Proofs.Ytinfpggpfpmpbaa
