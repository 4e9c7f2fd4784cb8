import Derived.Test.YtinfpggpfpmpbaaH12
import Derived.Test.YtinfpggpfpmpbaaH15
import Derived.Test.YtinfpggpfpmpbaaF6
import Derived.Test.YtinfpggpfpmpbaaG2
import Derived.Test.YtinfpggpfpmpbaaB5
import Derived.Test.YtinfpggpfpmpbaaM15
namespace Go.Proofs.Ytinfpggpfpmpbaa
open Go.RowKit

theorem on_nat {x p : Int} (h : onOk x p = true) : ∃ b y : Nat, x = b ∧ p = y ∧ b < 16777216 ∧ wt b = 3 ∧ y < 24 ∧ b.testBit y = false := by
  by_cases h1 : baseZ x = true
  · obtain ⟨b, rfl, hb, h3⟩ := baseZ_nat h1
    by_cases h2 : ptZ b p = true
    · obtain ⟨y, rfl, hy, hby⟩ := pt_nat h2
      exact ⟨b, y, rfl, rfl, hb, h3, hy, hby⟩
    · rw [(on_no (b := (b : Int)) (p := p) (.inr (by rw [Int.toNat_natCast]; simpa only [Bool.not_eq_true] using h2))).1] at h; cases h
  · rw [(on_no (p := p) (.inl (by simpa only [Bool.not_eq_true] using h1))).1] at h; cases h

set_option maxRecDepth 100000 in
set_option maxHeartbeats 1000000 in
theorem lawFnOn (A : Option Addr) (n cap : Nat) (zs : List Int) (w : World) (h : IsRow .u8 w A n cap zs) :
    Calls Try.prog 9 #[.slice A n cap] w fun e w' => e = .returned (.bool true) ∧ Below w.heap.size w w' := by
  have H := Lib.hid h
  clear h
  by_cases hn : n ≤ 1048576
  · have e1 : decide ((1048576 : Int) < (n : Int)) = false := by simp; omega
    go_enter Try.func9, Try.ntmps9
    go_wp2_with fail
    refine (dPlaneOn A n cap zs w H.out hn).mono ?_
    rintro e w1 ⟨⟨x, p, rfl⟩, b1⟩
    have HI := Lib.hid (iPlaneOn x p w1)
    have HS := Lib.hid (fun W (_ : Below w1.heap.size w1 W) => sPlaneOn x p W)
    have hll := on_len x p
    cases hv : onOk x p with
    | false =>
      rw [hv] at HI HS
      clear hv
      generalize nl (onR x p) = R at HI HS hll
      go_wp2_with fail
      refine HI.out.mono ?_
      rintro e w2 ⟨A2, n2, c2, rfl, o2, b2⟩
      go_wp2_with fail
      refine (HS.out w2 b2).mono ?_
      rintro e w3 ⟨A3, n3, c3, rfl, o3, b3⟩
      have hn2 : n2 ≤ 1048576 := by have := o2.length; omega
      have S2 := (o2.below b3 (Nat.le_refl _)).sl
      have HB3 := below_to (below_to b1 b2 (Nat.le_refl _)) b3 (Nat.le_refl _)
      go_wp2_with fail
      refine (sameInts w3.heap.size A2 A3 n2 n3 c2 c3 _ _ w3 S2 o3.sl hn2).mono ?_
      rw [decide_eq_true rfl]
      rintro e w4 ⟨rfl, b4⟩
      go_wp2_with fail
      refine (sameInts w4.heap.size A2 A3 n2 n3 c2 c3 _ _ w4 ((S2.below b4).more b4.size) ((o3.sl.below b4).more b4.size) hn2).mono ?_
      rw [decide_eq_true rfl]
      rintro e w5 ⟨rfl, b5⟩
      have HB := Lib.hid (below_to (below_to HB3 b4 (Nat.le_refl _)) b5 (Nat.le_refl _))
      clear b1 b2 b3 b4 b5 o2 o3 S2 HB3
      go_wp2
      go_ret
      exact ⟨rfl, HB.out⟩
    | true =>
      rw [hv] at HI HS
      obtain ⟨b, y, rfl, rfl, hb, h3, hy, hby⟩ := on_nat hv
      rw [(on_yes hb h3 hy hby).2] at HI HS hll
      have HF := Lib.hid (fun (k u : Nat) (hu : (lns b (1 <<< y))[k]? = some u) => by
        have hm := (mem_lns hb).1 (List.mem_of_getElem? hu)
        exact And.intro (line_lt hb hm.1) (And.intro (odd_bit (sub_one.1 hm.2)) (orL_succ hu)))
      have HP := Lib.hid (fun (k u z : Nat) (hk : 0 < k) (hu : (lns b (1 <<< y))[k]? = some u) (hz : (lns b (1 <<< y))[k - 1]? = some z) => asc_at (lns_asc b _) (show k - 1 < k by omega) hz hu)
      have hlen := lines_on hb h3 hy hby
      have HFULL := Lib.hid (show orL (lns b (1 <<< y)) 5 = b ^^^ 16777215 from by
        unfold orL; rw [List.take_of_length_le (by omega)]; exact lines_all hb h3 hy hby)
      have HLT := Lib.hid (fun k => orL_lt (l := lns b (1 <<< y)) (fun u hu => line_lt hb ((mem_lns hb).1 hu).1) k)
      have hxor := i64_xor b 16777215 (by omega) (by decide)
      have hxor' : bits .xor .i64 (b : Int) 16777215 = ((b ^^^ 16777215 : Nat) : Int) := hxor
      clear hv hby hxor
      generalize lns b (1 <<< y) = L at *
      generalize b ^^^ 16777215 = c at *
      go_wp2_with fail
      refine HI.out.mono ?_
      rintro e w2 ⟨A2, n2, c2, rfl, o2, b2⟩
      go_wp2_with fail
      refine (HS.out w2 b2).mono ?_
      rintro e w3 ⟨A3, n3, c3, rfl, o3, b3⟩
      have hn2 : n2 ≤ 1048576 := by have := o2.length; omega
      have S2 := (o2.below b3 (Nat.le_refl _)).sl
      have HB3 := below_to (below_to b1 b2 (Nat.le_refl _)) b3 (Nat.le_refl _)
      go_wp2_with fail
      refine (sameInts w3.heap.size A2 A3 n2 n3 c2 c3 _ _ w3 S2 o3.sl hn2).mono ?_
      rw [decide_eq_true rfl]
      rintro e w4 ⟨rfl, b4⟩
      have B4 := Lib.hid (below_to HB3 b4 (Nat.le_refl _))
      obtain rfl : n2 = 5 := by have := o2.length; rw [nl_length, hlen] at this; omega
      have T2 := Lib.hid ((S2.below b4).more b4.size)
      clear b1 b2 b3 b4 o2 o3 S2 HB3 HI HS hll
      have hmin : min y 64 = y := by omega
      go_wp2
      go_loopw [9, 10] (fun av iv wr => ∃ k : Nat, k ≤ 5 ∧ iv = .int .i64 k ∧ av = .int .i64 (orL L k : Nat) ∧ Below w.heap.size w wr ∧ Sl wr wr.heap.size A2 5 c2 (nl L)) (fun _ iv _ => 5 - (intOf iv).toNat)
      case atStart => exact ⟨0, Nat.zero_le _, rfl, rfl, B4.out, T2.out⟩
      case round =>
        obtain ⟨k, hk, rfl, rfl, hb1, hs1⟩ := hrel
        have B := Lib.hid hb1
        have S := Lib.hid hs1
        clear hb1 hs1
        have hsl := HLT.out k
        by_cases hlt : k < 5
        · obtain ⟨bb, o, u, rfl, hbl, hu, hc⟩ := S.out.nat hlt
          obtain ⟨hul, ⟨q1, q2⟩, hor⟩ := HF.out k u hu
          have HOR := Lib.hid hor
          have hor2 := i64_or (orL L k) u (by omega) (by omega)
          have hcw : ∀ w2, Grown wr w2 → w2.cell? ⟨bb, o + k, none⟩ = some (.int .i64 (u : Nat)) := fun w2 b => b.cell hbl hc
          have hbw : ∀ w2, Grown wr w2 → Below w.heap.size w w2 ∧ Sl w2 w2.heap.size (some ⟨bb, o, none⟩) 5 c2 (nl L) := fun w2 b => ⟨b.below B.out, b.sl S.out⟩
          have i0 : (0 : Int) ≤ (k : Int) := by omega
          have i1 : (k : Int) < 5 := by omega
          clear hor
          by_cases hk0 : k = 0
          · subst hk0
            rw [Nat.add_zero] at hc hcw
            clear hu
            go_wp2_with fail
            refine region_class (Grown wr) (by kernel_rfl) (by kernel_rfl) (Grown.drew _) ?_
            repeat (refine WQ_step (fun K hK => ?_); go_simp; first | (refine hK _ ?_; clear hK K) | (apply Exists.intro; refine ⟨fun w2 hw2 => ?_, hK _ ?_⟩; (first | (with_reducible rfl) | (rw [hcw w2 hw2]; exact ⟨rfl, rfl⟩)); clear hK K))
            refine WQ_nil ?_
            intro w5 hw5
            have F5 := Lib.hid (hbw w5 hw5)
            have d1 := hcw w5 hw5
            clear hcw hbw hw5 hc
            go_wp2
            go_roundw
            case rel => exact ⟨1, by decide, by go_num, int_eq (by rw [HOR.out]), F5.out.1, F5.out.2⟩
            case measure => simp [intOf]
          · obtain ⟨bb', o', z, e', hbl', hz, hcz⟩ := S.out.nat (k := k - 1) (by omega)
            injection e' with e'
            injection e' with e1 e2
            subst e1
            subst e2
            have hzy := HP.out k u z (by omega) hu hz
            have g1 : decide ((0 : Int) < (k : Int)) = true := by simp; omega
            have g3 : 0 < k := by omega
            have g2 : decide ((u : Int) ≤ (z : Int)) = false := by simp; omega
            have g4 : ¬ u ≤ z := by omega
            have hcv : ∀ w2, Grown wr w2 → w2.cell? ⟨bb, o + (k - 1), none⟩ = some (.int .i64 (z : Nat)) := fun w2 b => b.cell hbl hcz
            have j0 : (0 : Int) ≤ (k : Int) - 1 := by omega
            have j1 : (k : Int) - 1 < 5 := by omega
            have j2 : ((k : Int) - 1).toNat = k - 1 := by omega
            have j3 : IntKind.i64.wrap ((k : Int) - 1) = (k : Int) - 1 := by rw [IntKind.wrap_i64]; omega
            have j4 : (1 : Int) ≤ (k : Int) := by omega
            clear hu hz hcz hzy
            go_wp2_with fail
            refine region_class (Grown wr) (by kernel_rfl) (by kernel_rfl) (Grown.drew _) ?_
            repeat (refine WQ_step (fun K hK => ?_); go_simp; first | (refine hK _ ?_; clear hK K) | (apply Exists.intro; refine ⟨fun w2 hw2 => ?_, hK _ ?_⟩; (first | (with_reducible rfl) | (rw [hcw w2 hw2]; exact ⟨rfl, rfl⟩) | (rw [hcv w2 hw2]; exact ⟨rfl, rfl⟩)); clear hK K))
            refine WQ_nil ?_
            intro w5 hw5
            have F5 := Lib.hid (hbw w5 hw5)
            have d1 := hcw w5 hw5
            clear hcw hbw hw5 hcv hc
            go_wp2
            go_roundw
            case rel => exact ⟨k + 1, by omega, by go_num, int_eq (by rw [HOR.out]), F5.out.1, F5.out.2⟩
            case measure => simp [intOf]; omega
        · obtain rfl : k = 5 := by omega
          rw [HFULL.out]
          have e5 : ((c : Int) == (c : Int)) = true := by simp
          go_wp2
          go_ret
          exact ⟨rfl, B.out⟩
  · have e1 : decide ((1048576 : Int) < (n : Int)) = true := by simp; omega
    go_enter Try.func9, Try.ntmps9
    go_wp2
    go_ret
    exact ⟨rfl, Below.refl _ _⟩
end Go.Proofs.Ytinfpggpfpmpbaa
