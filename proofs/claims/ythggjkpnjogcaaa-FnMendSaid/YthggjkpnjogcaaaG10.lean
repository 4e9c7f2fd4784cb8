import Derived.Test.YthggjkpnjogcaaaG9
namespace Go.Proofs.Ythggjkpnjogcaaa
open Go.RowKit

theorem mend_facts {x : Int} (h : mendOk x = true) : ∃ a c : Nat, x = a ∧ a < 16777216 ∧ Cod c ∧ wt (c ^^^ a) ≤ 3 ∧ mendR (a : Int) = c := by
  cases hv : nearOk x with
  | false => rw [(mend_out hv).1] at h; cases h
  | true =>
    obtain ⟨n, rfl, hn⟩ := nearOk_yes hv
    by_cases h3 : 3 < farN n
    · rw [(mend_far h3).1] at h; cases h
    · obtain ⟨c, hc, h1, h2⟩ := nearN_short hn (by omega)
      refine ⟨n, c, rfl, hn, h1, by rw [Nat.xor_comm, h2]; omega, (mend_one hn (by omega) hc).2⟩
theorem mend_back {c e : Nat} (hc : Cod c) (he : e < 16777216) (h : wt e ≤ 3) (W : World) :
    Calls Try.prog 50 #[.int .i64 ((c ^^^ e : Nat) : Int)] W fun e w' => e = .returned (.tuple #[.int .i64 (c : Int), .bool true]) ∧ Below W.heap.size W w' := by
  have h2 := iCodeMend ((c ^^^ e : Nat) : Int) W
  have h3 := mend_turn hc h
  have h4 := mend_one (n := c ^^^ e) (c := c) (Nat.xor_lt_two_pow (n := 24) hc.1 he) (by rw [h3.1]; exact h) h3.2
  rwa [h4.1, h4.2] at h2

set_option maxRecDepth 100000 in
set_option maxHeartbeats 1000000 in
theorem lawFnMend (A : Option Addr) (n cap : Nat) (zs : List Int) (w : World) (h : IsRow .u8 w A n cap zs) :
    Calls Try.prog 13 #[.slice A n cap] w fun e w' => e = .returned (.bool true) ∧ Below w.heap.size w w' := by
  have H := Lib.hid h
  clear h
  by_cases hn : n ≤ 1048576
  · have e1 : decide ((1048576 : Int) < (n : Int)) = false := by simp; omega
    go_enter Try.func13, Try.ntmps13
    go_wp2_with fail
    refine (dCodeMend A n cap zs w H.out hn).mono ?_
    rintro e w1 ⟨⟨x, rfl⟩, b1⟩
    have HI := Lib.hid (iCodeMend x w1)
    have HS := Lib.hid (sCodeMend x)
    cases hv : mendOk x with
    | false =>
      rw [hv] at HI HS
      clear hv
      generalize mendR x = r at HI HS
      have e0 : ((r : Int) != r) = false := by simp
      have e2 : ((r : Int) == r) = true := by simp
      go_wp2_with fail
      refine HI.out.mono ?_
      rintro e w2 ⟨rfl, b2⟩
      go_wp2_with fail
      refine (HS.out w2).mono ?_
      rintro e w3 ⟨rfl, b3⟩
      have HB := Lib.hid (below_to (below_to b1 b2 (Nat.le_refl _)) b3 (Nat.le_refl _))
      clear b1 b2 b3
      go_wp2
      go_ret
      exact ⟨rfl, HB.out⟩
    | true =>
      rw [hv] at HI HS
      obtain ⟨a, c, rfl, ha, hc, hw, hr⟩ := mend_facts hv
      rw [hr] at HI HS
      have hcl := hc.1
      have x1 : bits .xor .i64 (c : Int) 1 = ((c ^^^ 1 : Nat) : Int) := i64_xor c 1 (by omega) (by omega)
      have x2 : bits .xor .i64 (c : Int) 128 = ((c ^^^ 128 : Nat) : Int) := i64_xor c 128 (by omega) (by omega)
      have x3 : bits .xor .i64 (c : Int) 8388608 = ((c ^^^ 8388608 : Nat) : Int) := i64_xor c 8388608 (by omega) (by omega)
      have M1 := Lib.hid (mend_back (e := 1) hc (by decide) (by decide))
      have M2 := Lib.hid (mend_back (e := 128) hc (by decide) (by decide))
      have M3 := Lib.hid (mend_back (e := 8388608) hc (by decide) (by decide))
      have HC := Lib.hid (cod_is hc)
      have HM := Lib.hid (fun W => iWordAdd c a W hcl ha)
      have HW := Lib.hid (fun W => iWordWeight (c ^^^ a) W (Nat.xor_lt_two_pow (n := 24) hcl ha))
      have e0 : ((c : Int) != (c : Int)) = false := by simp
      have e2 : ((c : Int) == (c : Int)) = true := by simp
      have e3 : decide ((wt (c ^^^ a) : Int) ≤ 3) = true := by simp; omega
      clear hv hr hc
      generalize wt (c ^^^ a) = d at HW e3 hw
      generalize c ^^^ a = ca at HM HW
      generalize c ^^^ 1 = c1 at x1 M1
      generalize c ^^^ 128 = c2 at x2 M2
      generalize c ^^^ 8388608 = c3 at x3 M3
      go_wp2_with fail
      refine HI.out.mono ?_
      rintro e w2 ⟨rfl, b2⟩
      go_wp2_with fail
      refine (HS.out w2).mono ?_
      rintro e w3 ⟨rfl, b3⟩
      have B3 := below_to (below_to b1 b2 (Nat.le_refl _)) b3 (Nat.le_refl _)
      clear b1 b2 b3 HI HS
      go_wp2_with fail
      refine (HM.out _).mono ?_
      rintro e w' ⟨rfl, rfl⟩
      go_wp2_with fail
      refine (M1.out _).mono ?_
      rintro e w4 ⟨rfl, b4⟩
      have B4 := below_to B3 b4 (Nat.le_refl _)
      clear b4 B3
      go_wp2_with fail
      refine (M2.out _).mono ?_
      rintro e w5 ⟨rfl, b5⟩
      have B5 := below_to B4 b5 (Nat.le_refl _)
      clear b5 B4
      go_wp2_with fail
      refine (M3.out _).mono ?_
      rintro e w6 ⟨rfl, b6⟩
      have B6 := below_to B5 b6 (Nat.le_refl _)
      clear b6 B5
      go_wp2_with fail
      refine (HC.out _).mono ?_
      rintro e w7 ⟨rfl, b7⟩
      have B7 := Lib.hid (below_to B6 b7 (Nat.le_refl _))
      clear b7 B6
      go_wp2_with fail
      refine (HW.out _).mono ?_
      rintro e w' ⟨rfl, rfl⟩
      go_wp2
      go_ret
      exact ⟨rfl, B7.out⟩
  · have e1 : decide ((1048576 : Int) < (n : Int)) = true := by simp; omega
    go_enter Try.func13, Try.ntmps13
    go_wp2
    go_ret
    exact ⟨rfl, Below.refl _ _⟩
end Go.Proofs.Ythggjkpnjogcaaa
