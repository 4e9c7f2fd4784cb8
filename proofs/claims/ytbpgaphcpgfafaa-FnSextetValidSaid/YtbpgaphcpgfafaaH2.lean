import Derived.Test.YtbpgaphcpgfafaaH1
import Derived.Test.YtbpgaphcpgfafaaG2
import Derived.Test.YtbpgaphcpgfafaaF9
import Derived.Test.YtbpgaphcpgfafaaF4
import Derived.Test.YtbpgaphcpgfafaaM15
namespace Go.Proofs.Ytbpgaphcpgfafaa
open Go.RowKit

set_option maxRecDepth 100000 in
set_option maxHeartbeats 1000000 in
theorem lawFnSextetValid (A : Option Addr) (n cap : Nat) (zs : List Int) (w : World) (h : IsRow .u8 w A n cap zs) :
    Calls Try.prog 8 #[.slice A n cap] w fun e w' => e = .returned (.bool true) ∧ Below w.heap.size w w' := by
  have H := Lib.hid h
  clear h
  by_cases hn : n ≤ 1048576
  · have e1 : decide ((1048576 : Int) < (n : Int)) = false := by simp; omega
    go_enter Try.func8, Try.ntmps8
    go_wp2_with fail
    refine (dSextetValid A n cap zs w H.out hn).mono ?_
    rintro e w1 ⟨A1, n1, c1, l, h6, rfl, s1, b1⟩
    have HI := Lib.hid (iSextetValid _ A1 n1 c1 l w1 s1 (Nat.le_refl _))
    have HS := Lib.hid (fun W (b : Below w1.heap.size w1 W) => sSextetValid _ A1 n1 c1 l W (s1.below b) b.size)
    cases hv : sxvZ l with
    | false =>
      rw [hv] at HI HS
      go_wp2_with fail
      refine HI.out.mono ?_
      rintro e w2 ⟨rfl, b2⟩
      go_wp2_with fail
      refine (HS.out w2 b2).mono ?_
      rintro e w3 ⟨rfl, b3⟩
      have HB := Lib.hid (below_to (below_to b1 b2 (Nat.le_refl _)) b3 (Nat.le_refl _))
      clear b1 b2 b3 s1 hv
      go_wp2
      go_ret
      exact ⟨rfl, HB.out⟩
    | true =>
      rw [hv] at HI HS
      obtain ⟨t, ht, h4, rfl⟩ := sxv_nat hv
      have hl6 := sext_len ht h4
      obtain rfl : n1 = 6 := by have := s1.len; rw [nl_length, hl6] at this; omega
      have HX := Lib.hid (fun (k x : Nat) (hx : (sext t)[k]? = some x) W => iSextetOf (x : Int) W)
      have HE := Lib.hid (fun (k x : Nat) (hx : (sext t)[k]? = some x) => And.intro (sx_yes (sext_at ht h4 hx).1 (sext_at ht h4 hx).2.1).1 ((sx_yes (sext_at ht h4 hx).1 (sext_at ht h4 hx).2.1).2.trans (sext_at ht h4 hx).2.2))
      have HL := Lib.hid hl6
      clear hv hl6
      generalize sext t = M at HI HS HX HE HL s1
      go_wp2_with fail
      refine HI.out.mono ?_
      rintro e w2 ⟨rfl, b2⟩
      go_wp2_with fail
      refine (HS.out w2 b2).mono ?_
      rintro e w3 ⟨rfl, b3⟩
      have HB := Lib.hid (below_to (below_to b1 b2 (Nat.le_refl _)) b3 (Nat.le_refl _))
      have S3 := Lib.hid (((s1.below b2).more b2.size).below b3)
      have hz3 : w.heap.size ≤ w3.heap.size := HB.out.size
      have S3' := Lib.hid (S3.out.more b3.size)
      clear b1 b2 b3 s1 S3 HI HS
      go_wp2
      go_loopw [6] (fun iv wr => ∃ k : Nat, k ≤ 6 ∧ iv = .int .i64 k ∧ Below w.heap.size w wr ∧ Sl wr wr.heap.size A1 6 c1 (nl M)) (fun iv _ => 6 - (intOf iv).toNat)
      case atStart => exact ⟨0, Nat.zero_le _, rfl, HB.out, S3'.out⟩
      case round =>
        obtain ⟨k, hk, rfl, hb, hs⟩ := hrel
        have B := Lib.hid hb
        have S := Lib.hid hs
        clear hb hs
        by_cases hlt : k < 6
        · obtain ⟨b, o, x, rfl, hbl, hx, hc⟩ := S.out.nat hlt
          have HX1 := Lib.hid (HX.out k x hx wr)
          rw [(HE.out k x hx).1, (HE.out k x hx).2] at HX1
          clear hx
          go_wp2_with fail
          refine HX1.out.mono ?_
          rintro e w4 ⟨A4, n4, c4, rfl, o4, b4⟩
          obtain rfl : n4 = 6 := by have := o4.length; rw [nl_length, HL.out] at this; omega
          go_wp2_with fail
          refine (sameInts w4.heap.size A4 _ 6 6 c4 c1 _ _ w4 o4.sl ((S.out.below b4).more b4.size) (by decide)).mono ?_
          rw [decide_eq_true rfl]
          rintro e w5 ⟨rfl, b5⟩
          have B5 := Lib.hid (below_to (below_to B.out b4 (Nat.le_refl _)) b5 (Nat.le_refl _))
          have S5 := Lib.hid ((((S.out.below b4).more b4.size).below b5).more b5.size)
          clear o4 b4 b5
          go_wp2
          go_roundw
          case rel => exact ⟨k + 1, by omega, by go_num, B5.out, S5.out⟩
          case measure => simp [intOf]; omega
        · obtain rfl : k = 6 := by omega
          go_wp2
          go_ret
          exact ⟨rfl, B.out⟩
  · have e1 : decide ((1048576 : Int) < (n : Int)) = true := by simp; omega
    go_enter Try.func8, Try.ntmps8
    go_wp2
    go_ret
    exact ⟨rfl, Below.refl _ _⟩
end Go.Proofs.Ytbpgaphcpgfafaa
