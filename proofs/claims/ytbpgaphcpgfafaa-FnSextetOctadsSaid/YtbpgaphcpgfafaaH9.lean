import Derived.Test.YtbpgaphcpgfafaaH1
import Derived.Test.YtbpgaphcpgfafaaG2
import Derived.Test.YtbpgaphcpgfafaaF12
import Derived.Test.YtbpgaphcpgfafaaB5
namespace Go.Proofs.Ytbpgaphcpgfafaa
open Go.RowKit

theorem Sl.later {w w2 : World} {A : Option Addr} {n c : Nat} {l : List Int} (h : Sl w w.heap.size A n c l) (b : Below w.drew.heap.size w.drew w2) : Sl w2 w2.heap.size A n c l := (h.drew.below b).more b.size
theorem so_len15 {t : Nat} (ht : t < 16777216) (h4 : wt t = 4) : (sos t).length = 15 := by
  have := congrArg List.length (sos_srt ht h4)
  rw [srt_length, nl_length, nl_length, prS_len _ (sext_len ht h4)] at this
  exact this.symm
theorem so_hold {t x : Nat} (ht : t < 16777216) (h4 : wt t = 4) (hv : sxvZ (nl (sext t)) = true) (hx : x ∈ sos t) : holdZ (nl (sext t)) (x : Int) = true := by
  rw [hold_eq hv, so_sos ht h4 hv]
  unfold nl
  rw [List.contains_iff_mem, List.mem_map]
  exact ⟨x, hx, rfl⟩

set_option maxRecDepth 100000 in
set_option maxHeartbeats 1000000 in
theorem lawFnSextetOctads (A : Option Addr) (n cap : Nat) (zs : List Int) (w : World) (h : IsRow .u8 w A n cap zs) :
    Calls Try.prog 12 #[.slice A n cap] w fun e w' => e = .returned (.bool true) ∧ Below w.heap.size w w' := by
  have H := Lib.hid h
  clear h
  by_cases hn : n ≤ 1048576
  · have e1 : decide ((1048576 : Int) < (n : Int)) = false := by simp; omega
    go_enter Try.func12, Try.ntmps12
    go_wp2_with fail
    refine (dSextetOctads A n cap zs w H.out hn).mono ?_
    rintro e w1 ⟨A1, n1, c1, l, h6, rfl, s1, b1⟩
    have HI := Lib.hid (iSextetOctads _ A1 n1 c1 l w1 s1 (Nat.le_refl _))
    have HS := Lib.hid (fun W (b : Below w1.heap.size w1 W) => sSextetOctads _ A1 n1 c1 l W (s1.below b) b.size)
    have hl15 := so_len l
    cases hv : sxvZ l with
    | false =>
      rw [hv] at HI HS
      clear hv
      generalize soR l = R at HI HS hl15
      go_wp2_with fail
      refine HI.out.mono ?_
      rintro e w2 ⟨A2, n2, c2, rfl, o2, b2⟩
      go_wp2_with fail
      refine (HS.out w2 b2).mono ?_
      rintro e w3 ⟨A3, n3, c3, rfl, o3, b3⟩
      have hn2 : n2 ≤ 1048576 := by have := o2.length; omega
      have S2 := (o2.below b3 (Nat.le_refl _)).sl
      have HB3 := below_to (below_to b1 b2 (Nat.le_refl _)) b3 (Nat.le_refl _)
      go_wp2_with fail
      refine (sameInts w3.heap.size A2 A3 n2 n3 c2 c3 _ _ w3 S2 o3.sl hn2).mono ?_
      rw [decide_eq_true rfl]
      rintro e w4 ⟨rfl, b4⟩
      go_wp2_with fail
      refine (sameInts w4.heap.size A2 A3 n2 n3 c2 c3 _ _ w4 ((S2.below b4).more b4.size) ((o3.sl.below b4).more b4.size) hn2).mono ?_
      rw [decide_eq_true rfl]
      rintro e w5 ⟨rfl, b5⟩
      have HB := Lib.hid (below_to (below_to HB3 b4 (Nat.le_refl _)) b5 (Nat.le_refl _))
      clear b1 b2 b3 b4 b5 o2 o3 S2 HB3
      go_wp2
      go_ret
      exact ⟨rfl, HB.out⟩
    | true =>
      rw [hv] at HI HS
      obtain ⟨t, ht, h4, rfl⟩ := sxv_nat hv
      have hl6 := sext_len ht h4
      obtain rfl : n1 = 6 := by have := s1.len; rw [nl_length, hl6] at this; omega
      have hlen := so_len15 ht h4
      rw [so_sos ht h4 hv] at HI HS hl15
      have HF := Lib.hid (fun (k x : Nat) (hx : (sos t)[k]? = some x) => And.intro (oct_lt (sos_oct ht h4 (List.mem_of_getElem? hx))) (so_hold ht h4 hv (List.mem_of_getElem? hx)))
      have HO := Lib.hid (fun (k x : Nat) (hx : (sos t)[k]? = some x) W => iOct_is (x : Int) true (by have ho := sos_oct ht h4 (List.mem_of_getElem? hx); rw [octZ_nat _ (oct_lt ho)]; exact (isOct_iff (oct_lt ho)).2 ho) W)
      have HP := Lib.hid (fun (k x y : Nat) (hk : 0 < k) (hx : (sos t)[k]? = some x) (hy : (sos t)[k - 1]? = some y) => asc_at (sos_asc t) (show k - 1 < k by omega) hy hx)
      have HHX := Lib.hid (fun (x : Nat) W (b : Sl W W.heap.size A1 6 c1 (nl (sext t))) => iSextetHolds _ A1 6 c1 (nl (sext t)) (x : Int) W b (Nat.le_refl _))
      clear hv hl6 ht h4
      generalize sext t = M at HI HS HF HHX s1
      generalize sos t = L at HI HS HF HO HP hlen hl15
      go_wp2_with fail
      refine HI.out.mono ?_
      rintro e w2 ⟨A2, n2, c2, rfl, o2, b2⟩
      go_wp2_with fail
      refine (HS.out w2 b2).mono ?_
      rintro e w3 ⟨A3, n3, c3, rfl, o3, b3⟩
      have hn2 : n2 ≤ 1048576 := by have := o2.length; omega
      have S2 := (o2.below b3 (Nat.le_refl _)).sl
      have HB3 := below_to (below_to b1 b2 (Nat.le_refl _)) b3 (Nat.le_refl _)
      go_wp2_with fail
      refine (sameInts w3.heap.size A2 A3 n2 n3 c2 c3 _ _ w3 S2 o3.sl hn2).mono ?_
      rw [decide_eq_true rfl]
      rintro e w4 ⟨rfl, b4⟩
      have B4 := Lib.hid (below_to HB3 b4 (Nat.le_refl _))
      obtain rfl : n2 = 15 := by have := o2.length; rw [nl_length, hlen] at this; omega
      have T1 := Lib.hid ((((((s1.below b2).more b2.size).below b3).more b3.size).below b4).more b4.size)
      have T2 := Lib.hid ((S2.below b4).more b4.size)
      clear b1 b2 b3 b4 o2 o3 S2 HB3 s1 HI HS hlen hl15
      go_wp2
      go_loopw [8] (fun iv wr => ∃ k : Nat, k ≤ 15 ∧ iv = .int .i64 k ∧ Below w.heap.size w wr ∧ Sl wr wr.heap.size A1 6 c1 (nl M) ∧ Sl wr wr.heap.size A2 15 c2 (nl L)) (fun iv _ => 15 - (intOf iv).toNat)
      case atStart => exact ⟨0, Nat.zero_le _, rfl, B4.out, T1.out, T2.out⟩
      case round =>
        obtain ⟨k, hk, rfl, hb, hs1, hs2⟩ := hrel
        have B := Lib.hid hb
        have S1 := Lib.hid hs1
        have S2 := Lib.hid hs2
        clear hb hs1 hs2
        by_cases hlt : k < 15
        · obtain ⟨bb, o, x, rfl, hbl, hx, hc⟩ := S2.out.nat hlt
          have HOx := Lib.hid (HO.out k x hx)
          have hcw : ∀ w2, Grown wr w2 → w2.cell? ⟨bb, o + k, none⟩ = some (.int .i64 (x : Nat)) := fun w2 b => b.cell hbl hc
          have hbw : ∀ w2, Grown wr w2 → Below w.heap.size w w2 ∧ Sl w2 w2.heap.size A1 6 c1 (nl M) ∧ Sl w2 w2.heap.size (some ⟨bb, o, none⟩) 15 c2 (nl L) := fun w2 b => ⟨b.below B.out, b.sl S1.out, b.sl S2.out⟩
          have i0 : (0 : Int) ≤ (k : Int) := by omega
          have i1 : (k : Int) < 15 := by omega
          by_cases hk0 : k = 0
          · subst hk0
            rw [Nat.add_zero] at hc hcw
            clear hx
            go_wp2_with fail
            refine region_class (Grown wr) (by kernel_rfl) (by kernel_rfl) (Grown.drew _) ?_
            repeat (refine WQ_step (fun K hK => ?_); go_simp; first | (refine hK _ ?_; clear hK K) | (apply Exists.intro; refine ⟨fun w2 hw2 => ?_, hK _ ?_⟩; (first | (with_reducible rfl) | (rw [hcw w2 hw2]; exact ⟨rfl, rfl⟩) | (exact hw2.call (HOx.out _))); clear hK K))
            refine WQ_nil ?_
            intro w5 hw5
            have F5 := Lib.hid (hbw w5 hw5)
            clear hcw hbw hw5
            go_wp2
            go_roundw
            case rel => exact ⟨1, by decide, by go_num, F5.out.1, F5.out.2.1, F5.out.2.2⟩
            case measure => simp [intOf]
          · obtain ⟨bb', o', y, e', hbl', hy, hcy⟩ := S2.out.nat (k := k - 1) (by omega)
            injection e' with e'
            injection e' with e1 e2
            subst e1
            subst e2
            have hyx := HP.out k x y (by omega) hx hy
            have g1 : decide ((0 : Int) < (k : Int)) = true := by simp; omega
            have g3 : 0 < k := by omega
            have g2 : decide ((x : Int) ≤ (y : Int)) = false := by simp; omega
            have g4 : ¬ x ≤ y := by omega
            have hcv : ∀ w2, Grown wr w2 → w2.cell? ⟨bb, o + (k - 1), none⟩ = some (.int .i64 (y : Nat)) := fun w2 b => b.cell hbl hcy
            have j0 : (0 : Int) ≤ (k : Int) - 1 := by omega
            have j1 : (k : Int) - 1 < 15 := by omega
            have j2 : ((k : Int) - 1).toNat = k - 1 := by omega
            have j3 : IntKind.i64.wrap ((k : Int) - 1) = (k : Int) - 1 := by rw [IntKind.wrap_i64]; omega
            have j4 : (1 : Int) ≤ (k : Int) := by omega
            clear hx hy hcy hyx
            go_wp2_with fail
            refine region_class (Grown wr) (by kernel_rfl) (by kernel_rfl) (Grown.drew _) ?_
            repeat (refine WQ_step (fun K hK => ?_); go_simp; first | (refine hK _ ?_; clear hK K) | (apply Exists.intro; refine ⟨fun w2 hw2 => ?_, hK _ ?_⟩; (first | (with_reducible rfl) | (rw [hcw w2 hw2]; exact ⟨rfl, rfl⟩) | (rw [hcv w2 hw2]; exact ⟨rfl, rfl⟩) | (exact hw2.call (HOx.out _))); clear hK K))
            refine WQ_nil ?_
            intro w5 hw5
            have F5 := Lib.hid (hbw w5 hw5)
            clear hcw hbw hw5 hcv
            go_wp2
            go_roundw
            case rel => exact ⟨k + 1, by omega, by go_num, F5.out.1, F5.out.2.1, F5.out.2.2⟩
            case measure => simp [intOf]; omega
        · obtain rfl : k = 15 := by omega
          obtain ⟨bb, o, x, rfl, hbl, hx, hc⟩ := S2.out.nat (k := 0) (by decide)
          obtain ⟨bb', o', y, e', hbl', hy, hcy⟩ := S2.out.nat (k := 14) (by decide)
          injection e' with e'
          injection e' with e1 e2
          subst e1
          subst e2
          have HH1 := Lib.hid (HHX.out x wr S1.out)
          rw [(HF.out 0 x hx).2] at HH1
          have HH2 := Lib.hid (fun W b => HHX.out y W b)
          have hy2 := (HF.out 14 y hy).2
          have hcv : ∀ w2, Below wr.heap.size wr w2 → w2.cell? ⟨bb, o + 14, none⟩ = some (.int .i64 (y : Nat)) := fun w2 b => (b.cell (p := ⟨bb, o + 14, none⟩) hbl).trans hcy
          have HCV := Lib.hid hcv
          have HY2 := Lib.hid hy2
          rw [Nat.add_zero] at hc
          clear hx hy hcv hcy hy2
          go_wp2_with fail
          refine HH1.out.mono ?_
          rintro e w5 ⟨rfl, b5⟩
          have c5 := HCV.out w5 b5
          have HK := Lib.hid (HH2.out w5 ((S1.out.below b5).more b5.size))
          rw [HY2.out] at HK
          have B5 := Lib.hid (below_to B.out b5 (Nat.le_refl _))
          clear b5
          go_wp2_with fail
          refine HK.out.mono ?_
          rintro e w6 ⟨rfl, b6⟩
          have HB := Lib.hid (below_to B5.out b6 (Nat.le_refl _))
          clear b6
          go_wp2
          go_ret
          exact ⟨rfl, HB.out⟩
  · have e1 : decide ((1048576 : Int) < (n : Int)) = true := by simp; omega
    go_enter Try.func12, Try.ntmps12
    go_wp2
    go_ret
    exact ⟨rfl, Below.refl _ _⟩
end Go.Proofs.Ytbpgaphcpgfafaa
