import Derived.Test.YtbpgaphcpgfafaaH11
import Derived.Test.YtbpgaphcpgfafaaF12
namespace Go.Proofs.Ytbpgaphcpgfafaa
open Go.RowKit

theorem hold_le (y : Nat) (l : List Nat) (k : Nat) : ls (l.take k) (fun z => if z &&& y = 0 then 0 else 1) ≤ k := by
  induction k generalizing l with
  | zero => simp [ls]
  | succ k ih =>
    cases l with
    | nil => simp [ls]
    | cons a l =>
      rw [List.take_succ_cons, ls_cons]
      have := ih l
      split <;> omega

set_option maxRecDepth 100000 in
set_option maxHeartbeats 1000000 in
theorem lawFnHolds (A : Option Addr) (n cap : Nat) (zs : List Int) (w : World) (h : IsRow .u8 w A n cap zs) :
    Calls Try.prog 3 #[.slice A n cap] w fun e w' => e = .returned (.bool true) ∧ Below w.heap.size w w' := by
  have H := Lib.hid h
  clear h
  by_cases hn : n ≤ 1048576
  · have e1 : decide ((1048576 : Int) < (n : Int)) = false := by simp; omega
    go_enter Try.func3, Try.ntmps3
    go_wp2_with fail
    refine (dSextetHolds A n cap zs w H.out hn).mono ?_
    rintro e w1 ⟨A1, n1, c1, l, x, h6, rfl, s1, b1⟩
    have HI := Lib.hid (iSextetHolds _ A1 n1 c1 l x w1 s1 (Nat.le_refl _))
    have HS := Lib.hid (fun W (b : Below w1.heap.size w1 W) => sSextetHolds _ A1 n1 c1 l x W (s1.below b) b.size)
    cases hv : holdZ l x with
    | false =>
      rw [hv] at HI HS
      clear hv
      go_wp2_with fail
      refine HI.out.mono ?_
      rintro e w2 ⟨rfl, b2⟩
      go_wp2_with fail
      refine (HS.out w2 b2).mono ?_
      rintro e w3 ⟨rfl, b3⟩
      have HB := Lib.hid (below_to (below_to b1 b2 (Nat.le_refl _)) b3 (Nat.le_refl _))
      clear b1 b2 b3 s1
      go_wp2
      go_ret
      exact ⟨rfl, HB.out⟩
    | true =>
      rw [hv] at HI HS
      obtain ⟨t, y, rfl, rfl, ht, h4, hy, ho⟩ := hold_nat hv
      have hl6 := sext_len ht h4
      obtain rfl : n1 = 6 := by have := s1.len; rw [nl_length, hl6] at this; omega
      have hyl := oct_lt ho
      have HO := Lib.hid (iOct_is (y : Int) true (by rw [octZ_nat _ hyl]; exact (isOct_iff hyl).2 ho))
      have HF := Lib.hid (fun (k z : Nat) (hz : (sext t)[k]? = some z) => And.intro (sext_at ht h4 hz) (sos_hold ht h4 hy (List.mem_of_getElem? hz)))
      have hcnt := sos_count ht h4 hy
      have HC := Lib.hid (show ls ((sext t).take 6) (fun z => if z &&& y = 0 then 0 else 1) = 2 from by rw [List.take_of_length_le (by omega)]; exact hcnt)
      have HT := Lib.hid (fun (k z : Nat) (hz : (sext t)[k]? = some z) => ls_take hz (fun z => if z &&& y = 0 then 0 else 1))
      have HLE := Lib.hid (fun k => hold_le y (sext t) k)
      clear hv hl6 hcnt ht h4 hy ho
      generalize sext t = L at HI HS HF HC HT HLE s1
      go_wp2_with fail
      refine HI.out.mono ?_
      rintro e w2 ⟨rfl, b2⟩
      go_wp2_with fail
      refine (HS.out w2 b2).mono ?_
      rintro e w3 ⟨rfl, b3⟩
      have B3 := Lib.hid (below_to (below_to b1 b2 (Nat.le_refl _)) b3 (Nat.le_refl _))
      have S3 := Lib.hid (((((s1.below b2).more b2.size).below b3).more b3.size))
      clear b1 b2 b3 s1 HI HS
      go_wp2
      go_loop [7, 8] (fun v iv => ∃ k : Nat, k ≤ 6 ∧ iv = .int .i64 k ∧ v = .int .i64 (ls (L.take k) (fun z => if z &&& y = 0 then 0 else 1) : Nat)) (fun _ iv => 6 - (intOf iv).toNat)
      case atStart => exact ⟨0, Nat.zero_le _, rfl, rfl⟩
      case round =>
        obtain ⟨k, hk, rfl, rfl⟩ := hrel
        have hle := HLE.out k
        by_cases hlt : k < 6
        · obtain ⟨bb, o, z, rfl, hbl, hz, hc⟩ := S3.out.nat hlt
          obtain ⟨⟨hzl, hz4, -⟩, hzy⟩ := HF.out k z hz
          have HTT := Lib.hid (HT.out k z hz)
          have hand := i64_and z y (by omega) (by omega)
          clear hz
          rcases hzy with h0 | h1
          · rw [h0] at hand
            rw [if_pos h0] at HTT
            have hand' : bits .and .i64 (z : Int) (y : Int) = 0 := hand
            clear hand h0
            go_wp2
            go_round
            case rel => exact ⟨k + 1, by omega, by go_num, by rw [HTT.out]; rfl⟩
            case measure => simp [intOf]; omega
          · rw [h1] at hand
            rw [if_neg (by rw [h1]; rintro rfl; rw [wt_0] at hz4; cases hz4)] at HTT
            have e2 : ((z : Int) != 0) = true := by simp; rintro rfl; rw [wt_0] at hz4; cases hz4
            have e3 : ((z : Int) != (z : Int)) = false := by simp
            clear h1 hz4
            go_wp2
            go_round
            case rel => exact ⟨k + 1, by omega, by go_num, by rw [HTT.out]; go_num⟩
            case measure => simp [intOf]; omega
        · obtain rfl : k = 6 := by omega
          rw [HC.out]
          go_wp2_with fail
          refine (HO.out _).mono ?_
          rintro e w5 ⟨rfl, b5⟩
          have HB := Lib.hid (below_to B3.out b5 (Nat.le_refl _))
          clear b5
          go_wp2
          go_ret
          exact ⟨rfl, HB.out⟩
  · have e1 : decide ((1048576 : Int) < (n : Int)) = true := by simp; omega
    go_enter Try.func3, Try.ntmps3
    go_wp2
    go_ret
    exact ⟨rfl, Below.refl _ _⟩
end Go.Proofs.Ytbpgaphcpgfafaa
