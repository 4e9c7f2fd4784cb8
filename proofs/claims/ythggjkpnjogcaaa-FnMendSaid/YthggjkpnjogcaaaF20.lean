/- The functions on near words: spec. -/
import Derived.Test.YthggjkpnjogcaaaF19
namespace Go.Proofs.Ythggjkpnjogcaaa
open Go.RowKit

set_option maxHeartbeats 1000000 in
theorem sCodeNear (x : Int) (w : World) :
    Calls Try.prog 55 #[.int .i64 x] w (MakesB (nl (nearR x)) (nearOk x) w) := by
  cases hv : nearOk x with
  | false =>
    have HV := Lib.hid (fun W => sWordValid_no x W (nearOk_out hv))
    have HR := Lib.hid (nearR_no hv)
    clear hv
    go_enter Try.func55, Try.ntmps55
    go_wp2_with (go_at_call 73; refine (HV.out _).mono ?_; rintro e w' ⟨rfl, rfl⟩)
    go_ret2
    rw [HR.out]
    exact ⟨_, _, _, rfl, Own.lit w [] (by decide), (Below.refl _ _).alloc (Nat.le_refl _) _⟩
  | true =>
    obtain ⟨n, rfl, hn⟩ := nearOk_yes hv
    have HV := Lib.hid (fun W => sWordValid_yes n W hn)
    have HR := Lib.hid (nearR_nat hn)
    have HN := Lib.hid (fun W => sl3Near n W hn)
    clear hv hn
    go_enter Try.func55, Try.ntmps55
    go_wp2_with (go_at_call 73; refine (HV.out _).mono ?_; rintro e w' ⟨rfl, rfl⟩)
    refine (HN.out _).mono ?_
    rintro e w1 ⟨A1, n1, c1, rfl, o1, b1⟩
    have HO := Lib.hid o1
    have HB := Lib.hid b1
    clear o1 b1
    go_wp2
    go_ret2
    rw [HR.out]
    exact ⟨_, _, _, rfl, HO.out, HB.out⟩

set_option maxHeartbeats 1000000 in
theorem sCodeMend (x : Int) (w : World) :
    Calls Try.prog 51 #[.int .i64 x] w fun e w' => e = .returned (.tuple #[.int .i64 (mendR x), .bool (mendOk x)]) ∧ Below w.heap.size w w' := by
  cases hv : nearOk x with
  | false =>
    have HV := Lib.hid (fun W => sWordValid_no x W (nearOk_out hv))
    have HR := Lib.hid (mend_out hv)
    clear hv
    go_enter Try.func51, Try.ntmps51
    go_wp2_with (go_at_call 73; refine (HV.out _).mono ?_; rintro e w' ⟨rfl, rfl⟩)
    go_ret2
    rw [HR.out.1, HR.out.2]
    exact ⟨rfl, Below.refl _ _⟩
  | true =>
    obtain ⟨n, rfl, hn⟩ := nearOk_yes hv
    have HV := Lib.hid (fun W => sWordValid_yes n W hn)
    have HN := Lib.hid (fun W => sl3Near n W hn)
    by_cases h3 : 3 < farN n
    · have HR := Lib.hid (mend_far h3)
      have hd : decide ((farN n : Int) > 3) = true := by simp; omega
      clear hv hn
      go_enter Try.func51, Try.ntmps51
      go_wp2_with (go_at_call 73; refine (HV.out _).mono ?_; rintro e w' ⟨rfl, rfl⟩)
      refine (HN.out _).mono ?_
      rintro e w1 ⟨A1, n1, c1, rfl, o1, b1⟩
      have HB := Lib.hid b1
      clear o1 b1
      go_wp2
      go_ret2
      rw [HR.out.1, HR.out.2]
      exact ⟨rfl, HB.out⟩
    · obtain ⟨c, hc, -, -⟩ := nearN_short hn (by omega)
      have HR := Lib.hid (mend_one hn (by omega) hc)
      have hd : decide ((farN n : Int) > 3) = false := by simp; omega
      rw [hc] at HN
      clear hv hn hc
      go_enter Try.func51, Try.ntmps51
      go_wp2_with (go_at_call 73; refine (HV.out _).mono ?_; rintro e w' ⟨rfl, rfl⟩)
      refine (HN.out _).mono ?_
      rintro e w1 ⟨A1, n1, c1, rfl, o1, b1⟩
      obtain rfl : n1 = 1 := o1.length.symm
      obtain ⟨b, o, y, rfl, hb, hy, hcell⟩ := o1.sl.nat (k := 0) (by decide)
      obtain rfl : c = y := by injection hy
      rw [Nat.add_zero] at hcell
      have HB := Lib.hid b1
      clear o1 b1 hy
      go_wp2
      go_ret2
      rw [HR.out.1, HR.out.2]
      exact ⟨rfl, HB.out⟩
end Go.Proofs.Ythggjkpnjogcaaa
