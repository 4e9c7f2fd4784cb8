import Derived.Test.YthggjkpnjogcaaaH6
import Derived.Test.YthggjkpnjogcaaaF1
import Derived.Test.YthggjkpnjogcaaaC10
import Derived.Test.YthggjkpnjogcaaaG2
import Derived.Test.YthggjkpnjogcaaaG0
import Derived.Test.YthggjkpnjogcaaaB5
import Derived.Test.YthggjkpnjogcaaaM12
import Derived.Test.YthggjkpnjogcaaaM15
namespace Go.Proofs.Ythggjkpnjogcaaa
open Go.RowKit

theorem olist_facts {l : List Int} (h : olistOk l = true) : ∃ a, wordOf l = some a ∧ a < 16777216 ∧ wt a = l.length ∧ olistR l = octs (hasf a 0) ∧ 3 ≤ l.length ∧
    (l.length = 3 ∧ (octs (hasf a 0)).length = 21 ∨ l.length = 4 ∧ (octs (hasf a 0)).length = 5 ∨ l.length = 5 ∧ (octs (hasf a 0)).length = 1 ∨ 5 < l.length ∧ (octs (hasf a 0)).length ≤ 1) := by
  by_cases h1 : (wordOf l).isSome = false
  · rw [(olist_no (.inl h1)).1] at h; cases h
  · by_cases h2 : 3 ≤ l.length ∧ l.length ≤ 8
    · obtain ⟨a, ha⟩ := Option.isSome_iff_exists.1 (by simpa only [Bool.not_eq_false] using h1 : (wordOf l).isSome = true)
      obtain ⟨f1, f2, _⟩ := wordOf_facts l a ha
      refine ⟨a, ha, f1, f2, (olist_yes ha h2).2.1, h2.1, ?_⟩
      rcases (show l.length = 3 ∨ l.length = 4 ∨ l.length = 5 ∨ 5 < l.length from by omega) with e | e | e | e
      · exact .inl ⟨e, cnt3 f1 (by omega)⟩
      · exact .inr (.inl ⟨e, cnt4 f1 (by omega)⟩)
      · exact .inr (.inr (.inl ⟨e, cnt5 f1 (by omega)⟩))
      · exact .inr (.inr (.inr ⟨e, cnt_more (by omega)⟩))
    · rw [(olist_no (.inr h2)).1] at h; cases h

set_option maxRecDepth 100000 in
set_option maxHeartbeats 1000000 in
theorem lawFnOctadList (A : Option Addr) (n cap : Nat) (zs : List Int) (w : World) (h : IsRow .u8 w A n cap zs) :
    Calls Try.prog 8 #[.slice A n cap] w fun e w' => e = .returned (.bool true) ∧ Below w.heap.size w w' := by
  have H := Lib.hid h
  clear h
  by_cases hn : n ≤ 1048576
  · have e1 : decide ((1048576 : Int) < (n : Int)) = false := by simp; omega
    go_enter Try.func8, Try.ntmps8
    go_wp2_with fail
    refine (dOctadList A n cap zs w H.out hn).mono ?_
    rintro e w1 ⟨⟨A1, n1, c1, l, k1, rfl, s1⟩, b1⟩
    have hn1 : n1 ≤ 1048576 := Nat.le_trans k1 (by decide)
    have hl1 := s1.len
    have HI := Lib.hid (iOctadList _ A1 n1 c1 l w1 s1 hn1)
    have HS := Lib.hid (fun W (b : Below w1.heap.size w1 W) => sOctadList _ A1 n1 c1 l W (s1.below b) hn1)
    have HWO := Lib.hid (fun W (b : Below w1.heap.size w1 W) => iWordOf _ A1 n1 c1 l W (s1.below b) hn1)
    have hll := olist_len l
    clear s1
    cases hv : olistOk l with
    | false =>
      rw [hv] at HI HS
      clear hv HWO
      generalize nl (olistR l) = R at HI HS hll
      go_wp2_with fail
      refine HI.out.mono ?_
      rintro e w2 ⟨A2, n2, c2, rfl, o2, b2⟩
      go_wp2_with fail
      refine (HS.out w2 b2).mono ?_
      rintro e w3 ⟨A3, n3, c3, rfl, o3, b3⟩
      have hn2 : n2 ≤ 1048576 := by have := o2.length; omega
      have S2 := (o2.below b3 (Nat.le_refl _)).sl
      have HB3 := below_to (below_to b1 b2 (Nat.le_refl _)) b3 (Nat.le_refl _)
      go_wp2_with fail
      refine (sameInts w3.heap.size A2 A3 n2 n3 c2 c3 _ _ w3 S2 o3.sl hn2).mono ?_
      rw [decide_eq_true rfl]
      rintro e w4 ⟨rfl, b4⟩
      go_wp2_with fail
      refine (sameInts w4.heap.size A2 A3 n2 n3 c2 c3 _ _ w4 ((S2.below b4).more b4.size) ((o3.sl.below b4).more b4.size) hn2).mono ?_
      rw [decide_eq_true rfl]
      rintro e w5 ⟨rfl, b5⟩
      have HB := Lib.hid (below_to (below_to HB3 b4 (Nat.le_refl _)) b5 (Nat.le_refl _))
      clear b1 b2 b3 b4 b5 o2 o3 S2 HB3
      go_wp2
      go_ret
      exact ⟨rfl, HB.out⟩
    | true =>
      rw [hv] at HI HS
      obtain ⟨a, ha, hal, hwa, hR, h3, hcases⟩ := olist_facts hv
      rw [ha] at HWO
      rw [hR] at HI HS hll
      have HF := Lib.hid (fun (k y : Nat) (hy : (octs (hasf a 0))[k]? = some y) => And.intro (oct_lt (oct_has (List.mem_of_getElem? hy)).1) (show y &&& a = a from (oct_has (List.mem_of_getElem? hy)).2))
      have HO := Lib.hid (fun (k y : Nat) (hy : (octs (hasf a 0))[k]? = some y) W => iOct_is (y : Int) true (by have ho := (oct_has (List.mem_of_getElem? hy)).1; rw [octZ_nat _ (oct_lt ho)]; exact (isOct_iff (oct_lt ho)).2 ho) W)
      have HP := Lib.hid (fun (k y z : Nat) (hk : 0 < k) (hy : (octs (hasf a 0))[k]? = some y) (hz : (octs (hasf a 0))[k - 1]? = some z) => asc_at (octs_asc _) (show k - 1 < k by omega) hz hy)
      rw [hl1] at hcases
      have HCS := Lib.hid hcases
      clear hv ha hwa hR h3 hl1 hcases
      generalize octs (hasf a 0) = L at HI HS hll HF HO HP HCS
      go_wp2_with fail
      refine HI.out.mono ?_
      rintro e w2 ⟨A2, n2, c2, rfl, o2, b2⟩
      go_wp2_with fail
      refine (HS.out w2 b2).mono ?_
      rintro e w3 ⟨A3, n3, c3, rfl, o3, b3⟩
      have hn2 : n2 ≤ 1048576 := by have := o2.length; omega
      have S2 := (o2.below b3 (Nat.le_refl _)).sl
      have HB3 := below_to (below_to b1 b2 (Nat.le_refl _)) b3 (Nat.le_refl _)
      go_wp2_with fail
      refine (sameInts w3.heap.size A2 A3 n2 n3 c2 c3 _ _ w3 S2 o3.sl hn2).mono ?_
      rw [decide_eq_true rfl]
      rintro e w4 ⟨rfl, b4⟩
      have B4 := below_to HB3 b4 (Nat.le_refl _)
      have hb14 : Below w1.heap.size w1 w4 := (b2.trans (b3.mono b2.size)).trans (b4.mono (Nat.le_trans b2.size b3.size))
      have T2 := Lib.hid ((S2.below b4).more b4.size)
      have hL2 : L.length = n2 := by have := o2.length; rw [nl_length] at this; exact this
      have hn2' : n2 ≤ 759 := by rw [← hL2]; rw [nl_length] at hll; exact hll
      have BB4 := Lib.hid B4
      clear b2 b3 b4 o2 o3 S2 HB3 HI HS hll B4
      go_wp2_with fail
      refine (HWO.out w4 hb14).mono ?_
      rintro e w' ⟨rfl, rfl⟩
      clear hb14 HWO b1
      go_wp2
      go_loopw [10] (fun iv wr => ∃ k : Nat, k ≤ n2 ∧ iv = .int .i64 k ∧ Below w.heap.size w wr ∧ Sl wr wr.heap.size A2 n2 c2 (nl L)) (fun iv _ => n2 - (intOf iv).toNat)
      case atStart => exact ⟨0, Nat.zero_le _, rfl, BB4.out, T2.out⟩
      case round =>
        obtain ⟨k, hk, rfl, hb, hs⟩ := hrel
        have B := Lib.hid hb
        have S := Lib.hid hs
        clear hb hs
        by_cases hlt : k < n2
        · have f1 : decide ((k : Int) < (n2 : Int)) = true := by simp; omega
          obtain ⟨bb, o, y, rfl, hbl, hy, hc⟩ := S.out.nat hlt
          obtain ⟨hyl, hya⟩ := HF.out k y hy
          have HM := Lib.hid (fun W => iWordMeet y a W hyl hal)
          rw [hya] at HM
          have HOx := Lib.hid (HO.out k y hy)
          have e5 : ((a : Int) != (a : Int)) = false := by simp
          have hcw : ∀ w2, Grown wr w2 → w2.cell? ⟨bb, o + k, none⟩ = some (.int .i64 (y : Nat)) := fun w2 b => b.cell hbl hc
          have hbw : ∀ w2, Grown wr w2 → Below w.heap.size w w2 ∧ Sl w2 w2.heap.size (some ⟨bb, o, none⟩) n2 c2 (nl L) := fun w2 b => ⟨b.below B.out, b.sl S.out⟩
          have i0 : (0 : Int) ≤ (k : Int) := by omega
          have i1 : (k : Int) < (n2 : Int) := by omega
          clear hya
          by_cases hk0 : k = 0
          · subst hk0
            rw [Nat.add_zero] at hc hcw
            have f2 : (0 : Int) < (n2 : Int) := by omega
            have f3 : decide ((0 : Int) < (n2 : Int)) = true := by simp; omega
            clear hy
            go_wp2_with fail
            refine (HM.out _).mono ?_
            rintro e w' ⟨rfl, rfl⟩
            go_wp2_with fail
            refine region_class (Grown wr) (by kernel_rfl) (by kernel_rfl) (Grown.drew _) ?_
            repeat (refine WQ_step (fun K hK => ?_); go_simp; first | (refine hK _ ?_; clear hK K) | (apply Exists.intro; refine ⟨fun w2 hw2 => ?_, hK _ ?_⟩; (first | (with_reducible rfl) | (rw [hcw w2 hw2]; exact ⟨rfl, rfl⟩) | (exact hw2.call (HOx.out _))); clear hK K))
            refine WQ_nil ?_
            intro w5 hw5
            have F5 := Lib.hid (hbw w5 hw5)
            clear hcw hbw hw5 hc
            go_wp2
            go_roundw
            case rel => exact ⟨1, by omega, by go_num, F5.out.1, F5.out.2⟩
            case measure => simp [intOf]; omega
          · obtain ⟨bb', o', z, e', hbl', hz, hcz⟩ := S.out.nat (k := k - 1) (by omega)
            injection e' with e'
            injection e' with e1 e2
            subst e1
            subst e2
            have hzy := HP.out k y z (by omega) hy hz
            have g1 : decide ((0 : Int) < (k : Int)) = true := by simp; omega
            have g3 : 0 < k := by omega
            have g2 : decide ((y : Int) ≤ (z : Int)) = false := by simp; omega
            have g4 : ¬ y ≤ z := by omega
            have hcv : ∀ w2, Grown wr w2 → w2.cell? ⟨bb, o + (k - 1), none⟩ = some (.int .i64 (z : Nat)) := fun w2 b => b.cell hbl hcz
            have j0 : (0 : Int) ≤ (k : Int) - 1 := by omega
            have j1 : (k : Int) - 1 < (n2 : Int) := by omega
            have j2 : ((k : Int) - 1).toNat = k - 1 := by omega
            have j3 : IntKind.i64.wrap ((k : Int) - 1) = (k : Int) - 1 := by rw [IntKind.wrap_i64]; omega
            have j4 : (1 : Int) ≤ (k : Int) := by omega
            clear hy hz hcz hzy
            go_wp2_with fail
            refine (HM.out _).mono ?_
            rintro e w' ⟨rfl, rfl⟩
            go_wp2_with fail
            refine region_class (Grown wr) (by kernel_rfl) (by kernel_rfl) (Grown.drew _) ?_
            repeat (refine WQ_step (fun K hK => ?_); go_simp; first | (refine hK _ ?_; clear hK K) | (apply Exists.intro; refine ⟨fun w2 hw2 => ?_, hK _ ?_⟩; (first | (with_reducible rfl) | (rw [hcw w2 hw2]; exact ⟨rfl, rfl⟩) | (rw [hcv w2 hw2]; exact ⟨rfl, rfl⟩) | (exact hw2.call (HOx.out _))); clear hK K))
            refine WQ_nil ?_
            intro w5 hw5
            have F5 := Lib.hid (hbw w5 hw5)
            clear hcw hbw hw5 hcv hc
            go_wp2
            go_roundw
            case rel => exact ⟨k + 1, by omega, by go_num, F5.out.1, F5.out.2⟩
            case measure => simp [intOf]; omega
        · obtain rfl : k = n2 := by omega
          have f1 : decide ((k : Int) < (k : Int)) = false := by simp
          rw [hL2] at HCS
          rcases HCS.out with ⟨q1, q2⟩ | ⟨q1, q2⟩ | ⟨q1, q2⟩ | ⟨q1, q2⟩
          · have p1 : ((n1 : Int) == 3) = true := by simp; omega
            have p2 : ((k : Int) == 21) = true := by simp; omega
            clear q1 q2
            go_wp2
            go_ret
            exact ⟨rfl, B.out⟩
          · have p1 : ((n1 : Int) == 3) = false := by simp; omega
            have p3 : ((n1 : Int) == 4) = true := by simp; omega
            have p2 : ((k : Int) == 5) = true := by simp; omega
            clear q1 q2
            go_wp2
            go_ret
            exact ⟨rfl, B.out⟩
          · have p1 : ((n1 : Int) == 3) = false := by simp; omega
            have p3 : ((n1 : Int) == 4) = false := by simp; omega
            have p4 : ((n1 : Int) == 5) = true := by simp; omega
            have p2 : ((k : Int) == 1) = true := by simp; omega
            clear q1 q2
            go_wp2
            go_ret
            exact ⟨rfl, B.out⟩
          · have p1 : ((n1 : Int) == 3) = false := by simp; omega
            have p3 : ((n1 : Int) == 4) = false := by simp; omega
            have p4 : ((n1 : Int) == 5) = false := by simp; omega
            have p5 : decide ((5 : Int) < (n1 : Int)) = true := by simp; omega
            have p2 : decide ((k : Int) ≤ 1) = true := by simp; omega
            clear q1 q2
            go_wp2
            go_ret
            exact ⟨rfl, B.out⟩
  · have e1 : decide ((1048576 : Int) < (n : Int)) = true := by simp; omega
    go_enter Try.func8, Try.ntmps8
    go_wp2
    go_ret
    exact ⟨rfl, Below.refl _ _⟩
end Go.Proofs.Ythggjkpnjogcaaa
