import Derived.Test.YthggjkpnjogcaaaH6
import Derived.Test.YthggjkpnjogcaaaF18
import Derived.Test.YthggjkpnjogcaaaF20
import Derived.Test.YthggjkpnjogcaaaC4
import Derived.Test.YthggjkpnjogcaaaG0
import Derived.Test.YthggjkpnjogcaaaG2
import Derived.Test.YthggjkpnjogcaaaB5
import Derived.Test.YthggjkpnjogcaaaM12
import Derived.Test.YthggjkpnjogcaaaM15
namespace Go.Proofs.Ythggjkpnjogcaaa
open Go.RowKit

theorem iWordAdd (a b : Nat) (w : World) (ha : a < 16777216) (hb : b < 16777216) :
    Calls Try.prog 18 #[.int .i64 a, .int .i64 b] w fun e w' => e = .returned (.tuple #[.int .i64 ((a ^^^ b : Nat) : Int), .bool true]) ∧ w = w' := by
  have hxor := i64_xor a b (by omega) (by omega)
  go_enter Try.func18, Try.ntmps18
  go_wp2_with fail
  refine (iWordValid_yes a w ha).mono ?_
  rintro e w' ⟨rfl, rfl⟩
  go_wp2_with fail
  refine (iWordValid_yes b w hb).mono ?_
  rintro e w' ⟨rfl, rfl⟩
  go_wp2
  go_ret2
  exact ⟨rfl, rfl⟩
theorem nearN_asc (w : Nat) : Asc (nearN w) := by unfold nearN; exact nearL_asc _ _
theorem nearR_len (x : Int) : (nl (nearR x)).length ≤ 6 := by
  rw [nl_length]
  cases h : nearOk x with
  | false => rw [nearR_no h]; exact Nat.zero_le _
  | true =>
    obtain ⟨n, rfl, hn⟩ := nearOk_yes h
    rw [nearR_nat hn]
    rcases nearN_len hn with ⟨_, h⟩ | ⟨_, h⟩ <;> omega
theorem cod_is {y : Nat} (h : Cod y) (W : World) : Calls Try.prog 52 #[.int .i64 (y : Int)] W fun e w' => e = .returned (.bool true) ∧ Below W.heap.size W w' := by
  have h2 := iCodeInZ (y : Int) W
  rwa [codZ_nat y h.1, h.2] at h2

set_option maxRecDepth 100000 in
set_option maxHeartbeats 1000000 in
theorem lawFnNear (A : Option Addr) (n cap : Nat) (zs : List Int) (w : World) (h : IsRow .u8 w A n cap zs) :
    Calls Try.prog 14 #[.slice A n cap] w fun e w' => e = .returned (.bool true) ∧ Below w.heap.size w w' := by
  have H := Lib.hid h
  clear h
  by_cases hn : n ≤ 1048576
  · have e1 : decide ((1048576 : Int) < (n : Int)) = false := by simp; omega
    go_enter Try.func14, Try.ntmps14
    go_wp2_with fail
    refine (dCodeNear A n cap zs w H.out hn).mono ?_
    rintro e w1 ⟨⟨x, rfl⟩, b1⟩
    have HI := Lib.hid (iCodeNear x w1)
    have HS := Lib.hid (fun W (_ : Below w1.heap.size w1 W) => sCodeNear x W)
    have hll := nearR_len x
    cases hv : nearOk x with
    | false =>
      rw [hv] at HI HS
      clear hv
      generalize nl (nearR x) = R at HI HS hll
      go_wp2_with fail
      refine HI.out.mono ?_
      rintro e w2 ⟨A2, n2, c2, rfl, o2, b2⟩
      go_wp2_with fail
      refine (HS.out w2 b2).mono ?_
      rintro e w3 ⟨A3, n3, c3, rfl, o3, b3⟩
      have hn2 : n2 ≤ 1048576 := by have := o2.length; omega
      have S2 := (o2.below b3 (Nat.le_refl _)).sl
      have HB3 := below_to (below_to b1 b2 (Nat.le_refl _)) b3 (Nat.le_refl _)
      go_wp2_with fail
      refine (sameInts w3.heap.size A2 A3 n2 n3 c2 c3 _ _ w3 S2 o3.sl hn2).mono ?_
      rw [decide_eq_true rfl]
      rintro e w4 ⟨rfl, b4⟩
      go_wp2_with fail
      refine (sameInts w4.heap.size A2 A3 n2 n3 c2 c3 _ _ w4 ((S2.below b4).more b4.size) ((o3.sl.below b4).more b4.size) hn2).mono ?_
      rw [decide_eq_true rfl]
      rintro e w5 ⟨rfl, b5⟩
      have HB := Lib.hid (below_to (below_to HB3 b4 (Nat.le_refl _)) b5 (Nat.le_refl _))
      clear b1 b2 b3 b4 b5 o2 o3 S2 HB3
      go_wp2
      go_ret
      exact ⟨rfl, HB.out⟩
    | true =>
      obtain ⟨a, rfl, ha⟩ := nearOk_yes hv
      rw [hv] at HI HS
      rw [nearR_nat ha] at HI HS hll
      have HCF := Lib.hid (iCodeFar (a : Int))
      rw [farR_nat ha] at HCF
      have HF := Lib.hid (fun (k y : Nat) (hy : (nearN a)[k]? = some y) => nearN_mem (List.mem_of_getElem? hy))
      have HO := Lib.hid (fun (k y : Nat) (hy : (nearN a)[k]? = some y) W => cod_is (nearN_mem (List.mem_of_getElem? hy)).1 W)
      have HP := Lib.hid (fun (k y z : Nat) (hk : 0 < k) (hy : (nearN a)[k]? = some y) (hz : (nearN a)[k - 1]? = some z) => asc_at (nearN_asc a) (show k - 1 < k by omega) hz hy)
      have HCS := Lib.hid (nearN_len ha)
      clear hv
      generalize nearN a = L at HI HS hll HF HO HP HCS
      generalize farN a = d at HCF HF HCS
      go_wp2_with fail
      refine HI.out.mono ?_
      rintro e w2 ⟨A2, n2, c2, rfl, o2, b2⟩
      go_wp2_with fail
      refine (HS.out w2 b2).mono ?_
      rintro e w3 ⟨A3, n3, c3, rfl, o3, b3⟩
      have hn2 : n2 ≤ 1048576 := by have := o2.length; omega
      have S2 := (o2.below b3 (Nat.le_refl _)).sl
      have HB3 := below_to (below_to b1 b2 (Nat.le_refl _)) b3 (Nat.le_refl _)
      go_wp2_with fail
      refine (sameInts w3.heap.size A2 A3 n2 n3 c2 c3 _ _ w3 S2 o3.sl hn2).mono ?_
      rw [decide_eq_true rfl]
      rintro e w4 ⟨rfl, b4⟩
      have B4 := below_to HB3 b4 (Nat.le_refl _)
      have T2 := (S2.below b4).more b4.size
      have hL2 : L.length = n2 := by have := o2.length; rw [nl_length] at this; exact this
      have hn2' : n2 ≤ 6 := by rw [← hL2]; rw [nl_length] at hll; exact hll
      clear b1 b2 b3 b4 o2 o3 S2 HB3 HI HS hll
      go_wp2_with fail
      refine (HCF.out w4).mono ?_
      rintro e w5 ⟨rfl, b5⟩
      have BB4 := Lib.hid (below_to B4 b5 (Nat.le_refl _))
      have TT2 := Lib.hid ((T2.below b5).more b5.size)
      clear B4 T2 b5 HCF
      go_wp2
      go_loopw [9] (fun iv wr => ∃ k : Nat, k ≤ n2 ∧ iv = .int .i64 k ∧ Below w.heap.size w wr ∧ Sl wr wr.heap.size A2 n2 c2 (nl L)) (fun iv _ => n2 - (intOf iv).toNat)
      case atStart => exact ⟨0, Nat.zero_le _, rfl, BB4.out, TT2.out⟩
      case round =>
        obtain ⟨k, hk, rfl, hb, hs⟩ := hrel
        have B := Lib.hid hb
        have S := Lib.hid hs
        clear hb hs
        by_cases hlt : k < n2
        · have f1 : decide ((k : Int) < (n2 : Int)) = true := by simp; omega
          obtain ⟨bb, o, y, rfl, hbl, hy, hc⟩ := S.out.nat hlt
          obtain ⟨hyc, hyw⟩ := HF.out k y hy
          have hyl := hyc.1
          have HM := Lib.hid (fun W => iWordAdd y a W hyl ha)
          have HW := Lib.hid (fun W => iWordWeight (y ^^^ a) W (Nat.xor_lt_two_pow (n := 24) hyl ha))
          rw [show wt (y ^^^ a) = d from by rw [Nat.xor_comm]; exact hyw] at HW
          have HOx := Lib.hid (HO.out k y hy)
          have e5 : ((d : Int) != (d : Int)) = false := by simp
          have hcw : ∀ w2, Grown wr w2 → w2.cell? ⟨bb, o + k, none⟩ = some (.int .i64 (y : Nat)) := fun w2 b => b.cell hbl hc
          have hbw : ∀ w2, Grown wr w2 → Below w.heap.size w w2 ∧ Sl w2 w2.heap.size (some ⟨bb, o, none⟩) n2 c2 (nl L) := fun w2 b => ⟨b.below B.out, b.sl S.out⟩
          have i0 : (0 : Int) ≤ (k : Int) := by omega
          have i1 : (k : Int) < (n2 : Int) := by omega
          clear hyc hyw
          generalize y ^^^ a = ya at HM HW
          by_cases hk0 : k = 0
          · subst hk0
            rw [Nat.add_zero] at hc hcw
            have f2 : (0 : Int) < (n2 : Int) := by omega
            have f3 : decide ((0 : Int) < (n2 : Int)) = true := by simp; omega
            clear hy
            go_wp2_with fail
            refine (HM.out _).mono ?_
            rintro e w' ⟨rfl, rfl⟩
            go_wp2_with fail
            refine region_class (Grown wr) (by kernel_rfl) (by kernel_rfl) (Grown.drew _) ?_
            repeat (refine WQ_step (fun K hK => ?_); go_simp; first | (refine hK _ ?_; clear hK K) | (apply Exists.intro; refine ⟨fun w2 hw2 => ?_, hK _ ?_⟩; (first | (with_reducible rfl) | (rw [hcw w2 hw2]; exact ⟨rfl, rfl⟩) | (exact hw2.same (HW.out _)) | (exact hw2.call (HOx.out _))); clear hK K))
            refine WQ_nil ?_
            intro w5 hw5
            have F5 := Lib.hid (hbw w5 hw5)
            clear hcw hbw hw5 hc
            go_wp2
            go_roundw
            case rel => exact ⟨1, by omega, by go_num, F5.out.1, F5.out.2⟩
            case measure => simp [intOf]; omega
          · obtain ⟨bb', o', z, e', hbl', hz, hcz⟩ := S.out.nat (k := k - 1) (by omega)
            injection e' with e'
            injection e' with e1 e2
            subst e1
            subst e2
            have hzy := HP.out k y z (by omega) hy hz
            have g1 : decide ((0 : Int) < (k : Int)) = true := by simp; omega
            have g3 : 0 < k := by omega
            have g2 : decide ((y : Int) ≤ (z : Int)) = false := by simp; omega
            have g4 : ¬ y ≤ z := by omega
            have hcv : ∀ w2, Grown wr w2 → w2.cell? ⟨bb, o + (k - 1), none⟩ = some (.int .i64 (z : Nat)) := fun w2 b => b.cell hbl hcz
            have j0 : (0 : Int) ≤ (k : Int) - 1 := by omega
            have j1 : (k : Int) - 1 < (n2 : Int) := by omega
            have j2 : ((k : Int) - 1).toNat = k - 1 := by omega
            have j3 : IntKind.i64.wrap ((k : Int) - 1) = (k : Int) - 1 := by rw [IntKind.wrap_i64]; omega
            have j4 : (1 : Int) ≤ (k : Int) := by omega
            clear hy hz hcz hzy
            go_wp2_with fail
            refine (HM.out _).mono ?_
            rintro e w' ⟨rfl, rfl⟩
            go_wp2_with fail
            refine region_class (Grown wr) (by kernel_rfl) (by kernel_rfl) (Grown.drew _) ?_
            repeat (refine WQ_step (fun K hK => ?_); go_simp; first | (refine hK _ ?_; clear hK K) | (apply Exists.intro; refine ⟨fun w2 hw2 => ?_, hK _ ?_⟩; (first | (with_reducible rfl) | (rw [hcw w2 hw2]; exact ⟨rfl, rfl⟩) | (rw [hcv w2 hw2]; exact ⟨rfl, rfl⟩) | (exact hw2.same (HW.out _)) | (exact hw2.call (HOx.out _))); clear hK K))
            refine WQ_nil ?_
            intro w5 hw5
            have F5 := Lib.hid (hbw w5 hw5)
            clear hcw hbw hw5 hcv hc
            go_wp2
            go_roundw
            case rel => exact ⟨k + 1, by omega, by go_num, F5.out.1, F5.out.2⟩
            case measure => simp [intOf]; omega
        · obtain rfl : k = n2 := by omega
          have f1 : decide ((k : Int) < (k : Int)) = false := by simp
          rw [hL2] at HCS
          rcases HCS.out with ⟨q1, q2⟩ | ⟨q1, q2⟩
          · have p1 : ((d : Int) == 4) = true := by simp; omega
            have p2 : ((k : Int) == 6) = true := by simp; omega
            clear q1 q2
            go_wp2
            go_ret
            exact ⟨rfl, B.out⟩
          · have p1 : ((d : Int) == 4) = false := by simp; omega
            have p3 : decide ((d : Int) < 4) = true := by simp; omega
            have p2 : ((k : Int) == 1) = true := by simp; omega
            clear q1 q2
            go_wp2
            go_ret
            exact ⟨rfl, B.out⟩
  · have e1 : decide ((1048576 : Int) < (n : Int)) = true := by simp; omega
    go_enter Try.func14, Try.ntmps14
    go_wp2
    go_ret
    exact ⟨rfl, Below.refl _ _⟩
end Go.Proofs.Ythggjkpnjogcaaa
