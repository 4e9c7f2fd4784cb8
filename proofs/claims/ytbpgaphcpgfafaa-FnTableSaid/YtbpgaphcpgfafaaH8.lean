import Derived.Test.YtbpgaphcpgfafaaH1
import Derived.Test.YtbpgaphcpgfafaaG2
import Derived.Test.YtbpgaphcpgfafaaF14
namespace Go.Proofs.Ytbpgaphcpgfafaa
open Go.RowKit

set_option maxRecDepth 100000 in
set_option maxHeartbeats 1000000 in
theorem lawFnTable (A : Option Addr) (n cap : Nat) (zs : List Int) (w : World) (h : IsRow .u8 w A n cap zs) :
    Calls Try.prog 11 #[.slice A n cap] w fun e w' => e = .returned (.bool true) ∧ Below w.heap.size w w' := by
  have H := Lib.hid h
  clear h
  by_cases hn : n ≤ 1048576
  · have e1 : decide ((1048576 : Int) < (n : Int)) = false := by simp; omega
    go_enter Try.func11, Try.ntmps11
    go_wp2_with fail
    refine (dSextetTable A n cap zs w H.out hn).mono ?_
    rintro e w1 ⟨A1, n1, c1, l1, A2, n2, c2, l2, k1, k2, rfl, s1, s2, b1⟩
    have HI := Lib.hid (iSextetTable _ A1 A2 n1 n2 c1 c2 l1 l2 w1 s1 s2 (Nat.le_refl _))
    have HS := Lib.hid (fun W (b : Below w1.heap.size w1 W) => sSextetTable _ A1 A2 n1 n2 c1 c2 l1 l2 W (s1.below b) (s2.below b) b.size)
    have HJ := Lib.hid (fun W (b : Below w1.heap.size w1 W) => iSextetTable _ A2 A1 n2 n1 c2 c1 l2 l1 W (s2.below b) (s1.below b) b.size)
    have hl36 := tab_len l1 l2
    clear s1 s2
    cases hv : tabOk l1 l2 with
    | false =>
      rw [hv] at HI HS
      clear hv HJ
      generalize tabR l1 l2 = R at HI HS hl36
      go_wp2_with fail
      refine HI.out.mono ?_
      rintro e w2 ⟨A6, n6, c6, rfl, o2, b2⟩
      go_wp2_with fail
      refine (HS.out w2 b2).mono ?_
      rintro e w3 ⟨A3, n3, c3, rfl, o3, b3⟩
      have hn2 : n6 ≤ 1048576 := by have := o2.length; omega
      have S2 := (o2.below b3 (Nat.le_refl _)).sl
      have HB3 := below_to (below_to b1 b2 (Nat.le_refl _)) b3 (Nat.le_refl _)
      go_wp2_with fail
      refine (sameInts w3.heap.size A6 A3 n6 n3 c6 c3 _ _ w3 S2 o3.sl hn2).mono ?_
      rw [decide_eq_true rfl]
      rintro e w4 ⟨rfl, b4⟩
      go_wp2_with fail
      refine (sameInts w4.heap.size A6 A3 n6 n3 c6 c3 _ _ w4 ((S2.below b4).more b4.size) ((o3.sl.below b4).more b4.size) hn2).mono ?_
      rw [decide_eq_true rfl]
      rintro e w5 ⟨rfl, b5⟩
      have HB := Lib.hid (below_to (below_to HB3 b4 (Nat.le_refl _)) b5 (Nat.le_refl _))
      clear b1 b2 b3 b4 b5 o2 o3 S2 HB3
      go_wp2
      go_ret
      exact ⟨rfl, HB.out⟩
    | true =>
      obtain ⟨t, u, rfl, rfl, ht, h4, hu, hu4⟩ := tab_nat hv
      have hv2 : tabOk (nl (sext u)) (nl (sext t)) = true := by unfold tabOk at hv ⊢; rw [Bool.and_comm]; exact hv
      rw [hv, (kind_yes hv).2, nl_back, nl_back] at HI HS
      rw [(kind_yes hv).2, nl_back, nl_back] at hl36
      rw [hv2, (kind_yes hv2).2, nl_back, nl_back] at HJ
      have hT := tab_tab ht h4 hu hu4
      have HTR := Lib.hid hT.row
      have HTC := Lib.hid hT.col
      have HM := Lib.hid (show ∀ i k, tabF (sext t) (sext u) i k ≤ 24 from fun i k => wt_le _)
      have HA1 := Lib.hid (show ∀ i k, i < 6 → k < 6 → (tabTo (sext t) (sext u) 36)[6 * i + k]? = some (tabF (sext t) (sext u) i k) from fun i k hi hk => tabTo_get _ _ hk (by omega))
      have HA2 := Lib.hid (show ∀ i k, i < 6 → k < 6 → (tabTo (sext u) (sext t) 36)[6 * i + k]? = some (tabF (sext t) (sext u) k i) from fun i k hi hk => by rw [tabTo_get _ _ hk (by omega)]; exact congrArg some (tabF_flip _ _ _ _))
      have hL1 : (tabTo (sext t) (sext u) 36).length = 36 := tabTo_len _ _ _
      have hL2 : (tabTo (sext u) (sext t) 36).length = 36 := tabTo_len _ _ _
      clear hv hv2 ht h4 hu hu4 hT
      generalize tabTo (sext t) (sext u) 36 = T1 at HI HS hl36 HA1 hL1
      generalize tabTo (sext u) (sext t) 36 = T2 at HJ HA2 hL2
      generalize tabF (sext t) (sext u) = M at HTR HTC HM HA1 HA2
      go_wp2_with fail
      refine HI.out.mono ?_
      rintro e w2 ⟨A6, n6, c6, rfl, o2, b2⟩
      go_wp2_with fail
      refine (HS.out w2 b2).mono ?_
      rintro e w3 ⟨A3, n3, c3, rfl, o3, b3⟩
      have hn2 : n6 ≤ 1048576 := by have := o2.length; omega
      have S2 := (o2.below b3 (Nat.le_refl _)).sl
      have HB3 := below_to (below_to b1 b2 (Nat.le_refl _)) b3 (Nat.le_refl _)
      go_wp2_with fail
      refine (sameInts w3.heap.size A6 A3 n6 n3 c6 c3 _ _ w3 S2 o3.sl hn2).mono ?_
      rw [decide_eq_true rfl]
      rintro e w4 ⟨rfl, b4⟩
      have B4 := below_to HB3 b4 (Nat.le_refl _)
      have T4 := (S2.below b4).more b4.size
      obtain rfl : n6 = 36 := by have := o2.length; rw [nl_length, hL1] at this; omega
      go_wp2_with fail
      refine (HJ.out w4 ((b2.trans (b3.mono b2.size)).trans (b4.mono (Nat.le_trans b2.size b3.size)))).mono ?_
      rintro e w5 ⟨A5, n5, c5, rfl, o5, b5⟩
      obtain rfl : n5 = 36 := by have := o5.length; rw [nl_length, hL2] at this; omega
      have B5 := Lib.hid (below_to B4 b5 (Nat.le_refl _))
      have V1 := Lib.hid ((T4.below b5).more b5.size)
      have V2 := Lib.hid o5.sl
      clear b1 b2 b3 b4 b5 o2 o3 o5 S2 HB3 B4 T4 HI HS HJ hl36 hL1 hL2
      go_wp2
      go_loopw [11] (fun iv wr => ∃ i : Nat, i ≤ 6 ∧ iv = .int .i64 i ∧ Below w.heap.size w wr ∧ Sl wr wr.heap.size A6 36 c6 (nl T1) ∧ Sl wr wr.heap.size A5 36 c5 (nl T2)) (fun iv _ => 6 - (intOf iv).toNat)
      case atStart => exact ⟨0, Nat.zero_le _, rfl, B5.out, V1.out, V2.out⟩
      case round =>
        obtain ⟨i, hi, rfl, hb, hs1, hs2⟩ := hrel
        have BB := Lib.hid hb
        have S1 := Lib.hid hs1
        have S2 := Lib.hid hs2
        clear hb hs1 hs2
        by_cases hlt : i < 6
        · have f1 : decide ((i : Int) < 6) = true := by simp; omega
          go_wp2
          go_loopw [12, 13, 14] (fun rv cv kv wr2 => ∃ k : Nat, k ≤ 6 ∧ kv = .int .i64 k ∧ rv = .int .i64 (sm k (M i) : Nat) ∧ cv = .int .i64 (sm k (fun j => M j i) : Nat) ∧ Below w.heap.size w wr2 ∧ Sl wr2 wr2.heap.size A6 36 c6 (nl T1) ∧ Sl wr2 wr2.heap.size A5 36 c5 (nl T2)) (fun _ _ kv _ => 6 - (intOf kv).toNat)
          case atStart => exact ⟨0, Nat.zero_le _, rfl, rfl, rfl, BB.out, S1.out, S2.out⟩
          case round =>
            obtain ⟨k, hk, rfl, rfl, rfl, hb2, hs3, hs4⟩ := hrel
            have BC := Lib.hid hb2
            have S3 := Lib.hid hs3
            have S4 := Lib.hid hs4
            clear hb2 hs3 hs4
            have q1 := sm_le (n := k) (f := M i) (g := fun _ => 24) (fun j _ => HM.out i j)
            have q2 := sm_le (n := k) (f := fun j => M j i) (g := fun _ => 24) (fun j _ => HM.out j i)
            rw [sm_const] at q1 q2
            by_cases hkl : k < 6
            · have g1 : decide ((k : Int) < 6) = true := by simp; omega
              obtain ⟨bb, o, x, rfl, hbl, hx, hc⟩ := S3.out.nat (k := 6 * i + k) (by omega)
              obtain ⟨bb', o', y, e', hbl', hy, hcy⟩ := S3.out.nat (k := 6 * k + i) (by omega)
              injection e' with e'
              injection e' with e1 e2
              subst e1
              subst e2
              obtain ⟨b3, o3, z, rfl, hbz, hz, hcz⟩ := S4.out.nat (k := 6 * k + i) (by omega)
              rw [HA1.out i k hlt hkl] at hx
              rw [HA1.out k i hkl hlt] at hy
              rw [HA2.out k i hkl hlt] at hz
              injection hx with hx
              injection hy with hy
              injection hz with hz
              subst hx
              subst hy
              subst hz
              have mx := HM.out i k
              have my := HM.out k i
              have j0 : (0 : Int) ≤ 6 * (i : Int) + (k : Int) := by omega
              have j1 : 6 * (i : Int) + (k : Int) < 36 := by omega
              have j2 : (6 * (i : Int) + (k : Int)).toNat = 6 * i + k := by omega
              have l0 : (0 : Int) ≤ 6 * (k : Int) + (i : Int) := by omega
              have l1 : 6 * (k : Int) + (i : Int) < 36 := by omega
              have l2 : (6 * (k : Int) + (i : Int)).toNat = 6 * k + i := by omega
              have e0 : ((M i k : Int) != (M i k : Int)) = false := by simp
              have HSU1 := Lib.hid (show sm (k + 1) (M i) = sm k (M i) + M i k from rfl)
              have HSU2 := Lib.hid (show sm (k + 1) (fun j => M j i) = sm k (fun j => M j i) + M k i from rfl)
              generalize sm k (M i) = sr at HSU1 q1
              generalize sm k (fun j => M j i) = sc at HSU2 q2
              go_wp2_with fail
              go_quiet (fail)
              go_wp2
              go_roundw
              case rel => exact ⟨k + 1, by omega, by go_num, by rw [HSU1.out]; go_num, by rw [HSU2.out]; go_num, below_drewN BC.out _, S3.out.drewN _, S4.out.drewN _⟩
              case measure => simp [intOf]; omega
            · obtain rfl : k = 6 := by omega
              have h1 := HTR.out i hlt
              have h2 := HTC.out i hlt
              rw [h1, h2]
              go_wp2
              go_roundw
              case rel => exact ⟨i + 1, by omega, by go_num, BC.out, S3.out, S4.out⟩
              case measure => simp [intOf]; omega
        · obtain rfl : i = 6 := by omega
          go_wp2
          go_ret
          exact ⟨rfl, BB.out⟩
  · have e1 : decide ((1048576 : Int) < (n : Int)) = true := by simp; omega
    go_enter Try.func11, Try.ntmps11
    go_wp2
    go_ret
    exact ⟨rfl, Below.refl _ _⟩
end Go.Proofs.Ytbpgaphcpgfafaa
