import Derived.Test.YthggjkpnjogcaaaH6
import Derived.Test.YthggjkpnjogcaaaF1
import Derived.Test.YthggjkpnjogcaaaD1
import Derived.Test.YthggjkpnjogcaaaG0
import Derived.Test.YthggjkpnjogcaaaC10
namespace Go.Proofs.Ythggjkpnjogcaaa
open Go.RowKit

theorem through_facts {l : List Int} (h : throughOk l = true) : ∃ a, wordOf l = some a ∧ a < 16777216 ∧ wt a = 5 ∧ Oct (throughR l) ∧ throughR l &&& a = a ∧ cnt a 0 = 1 := by
  have h' := h
  unfold throughOk at h'
  rw [Bool.and_eq_true, decide_eq_true_eq] at h'
  obtain ⟨a, ha⟩ := Option.isSome_iff_exists.1 h'.1
  obtain ⟨f1, f2, _⟩ := wordOf_facts l a ha
  have e := (through_yes ha h'.2).2.2
  have hm := mem_octs.1 (show throughR l ∈ octs (hasf a 0) from by rw [e]; simp)
  exact ⟨a, ha, f1, by omega, hm.1, (hasf_iff.1 hm.2).1, cnt5 f1 (by omega)⟩

set_option maxRecDepth 100000 in
set_option maxHeartbeats 1000000 in
theorem lawFnThrough (A : Option Addr) (n cap : Nat) (zs : List Int) (w : World) (h : IsRow .u8 w A n cap zs) :
    Calls Try.prog 7 #[.slice A n cap] w fun e w' => e = .returned (.bool true) ∧ Below w.heap.size w w' := by
  have H := Lib.hid h
  clear h
  by_cases hn : n ≤ 1048576
  · have e1 : decide ((1048576 : Int) < (n : Int)) = false := by simp; omega
    go_enter Try.func7, Try.ntmps7
    go_wp2_with fail
    refine (dOctadThrough A n cap zs w H.out hn).mono ?_
    rintro e w1 ⟨⟨A1, n1, c1, l, k1, rfl, s1⟩, b1⟩
    have hn1 : n1 ≤ 1048576 := Nat.le_trans k1 (by decide)
    have HI := Lib.hid (iOctadThrough _ A1 n1 c1 l w1 s1 hn1)
    have HS := Lib.hid (fun W (b : Below w1.heap.size w1 W) => sOctadThrough _ A1 n1 c1 l W (s1.below b) hn1)
    have HWO := Lib.hid (fun W (b : Below w1.heap.size w1 W) => iWordOf _ A1 n1 c1 l W (s1.below b) hn1)
    clear s1
    cases hv : throughOk l with
    | false =>
      have hr : throughR l = 0 := by unfold throughR; rw [hv]; exact if_neg (by decide)
      rw [hv, hr] at HI HS
      clear hv hr HWO
      go_wp2_with fail
      refine HI.out.mono ?_
      rintro e w2 ⟨rfl, b2⟩
      go_wp2_with fail
      refine (HS.out w2 b2).mono ?_
      rintro e w3 ⟨rfl, b3⟩
      have HB := Lib.hid (below_to (below_to b1 b2 (Nat.le_refl _)) b3 (Nat.le_refl _))
      clear b1 b2 b3
      go_wp2
      go_ret
      exact ⟨rfl, HB.out⟩
    | true =>
      obtain ⟨a, ha, hal, ha5, ho, hsub, hcnt⟩ := through_facts hv
      rw [ha] at HWO
      rw [hv] at HI HS
      have hol := oct_lt ho
      have HM := Lib.hid (fun W => iWordMeet (throughR l) a W hol hal)
      rw [hsub] at HM
      have hc := iOctadCount (a : Int) ((0 : Nat) : Int)
      rw [(cnt_yes hal (by decide)).1, (cnt_yes hal (by decide)).2, hcnt] at hc
      have HC := Lib.hid hc
      have HO := Lib.hid (iOct_is (throughR l : Int) true (by rw [octZ_nat _ hol]; exact (isOct_iff hol).2 ho))
      clear hv ha ha5 ho hsub hcnt hc
      generalize throughR l = r at *
      have e0 : ((r : Int) != (r : Int)) = false := by simp
      have e2 : ((a : Int) == (a : Int)) = true := by simp
      go_wp2_with fail
      refine HI.out.mono ?_
      rintro e w2 ⟨rfl, b2⟩
      go_wp2_with fail
      refine (HS.out w2 b2).mono ?_
      rintro e w3 ⟨rfl, b3⟩
      go_wp2_with fail
      refine (HWO.out w3 (b2.trans (b3.mono b2.size))).mono ?_
      rintro e w' ⟨rfl, rfl⟩
      go_wp2_with fail
      refine (HM.out w3).mono ?_
      rintro e w' ⟨rfl, rfl⟩
      go_wp2_with fail
      refine (HC.out w3).mono ?_
      rintro e w4 ⟨rfl, b4⟩
      go_wp2_with fail
      refine (HO.out w4).mono ?_
      rintro e w5 ⟨rfl, b5⟩
      have HB := Lib.hid (below_to (below_to (below_to (below_to b1 b2 (Nat.le_refl _)) b3 (Nat.le_refl _)) b4 (Nat.le_refl _)) b5 (Nat.le_refl _))
      clear b1 b2 b3 b4 b5
      go_wp2
      go_ret
      exact ⟨rfl, HB.out⟩
  · have e1 : decide ((1048576 : Int) < (n : Int)) = true := by simp; omega
    go_enter Try.func7, Try.ntmps7
    go_wp2
    go_ret
    exact ⟨rfl, Below.refl _ _⟩
end Go.Proofs.Ythggjkpnjogcaaa
