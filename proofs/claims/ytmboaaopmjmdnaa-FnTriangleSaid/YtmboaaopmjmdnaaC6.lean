import Derived.Test.YtmboaaopmjmdnaaC5
namespace Go.Proofs.Ytmboaaopmjmdnaa
open Go.RowKit

set_option maxHeartbeats 1000000 in
set_option maxRecDepth 100000 in
theorem iwords (w : World) :
    Calls Try.prog 40 #[] w (Makes (nl (wdTo 4096)) w) := by
  go_enter Try.func40, Try.ntmps40
  go_wp2
  go_loopw [1, 4] (fun v i wr => ∃ k A cap, k ≤ 4096 ∧ i = .int .i64 (k : Nat) ∧ v = .slice A k cap ∧ Own wr w.heap.size A k cap (nl (wdTo k)) ∧ Below w.heap.size w wr) (fun _ i _ => 4096 - (intOf i).toNat)
  case atStart => exact ⟨0, _, _, Nat.zero_le _, rfl, rfl, Own.lit w [] (by decide), (Below.refl _ _).alloc (Nat.le_refl _) _⟩
  case round =>
    obtain ⟨k, A, cap, hk, rfl, rfl, hown, hb⟩ := hrel
    have HO := Lib.hid hown
    have HB := Lib.hid hb
    have hsz := hb.size
    clear hown hb
    by_cases hlt : k < 4096
    · have HS := Lib.hid (wdTo_succ k)
      go_wp2_with fail
      refine (icodeOf k _ hlt).mono ?_
      rintro e w1 ⟨rfl, b1⟩
      have HO1 := Lib.hid (HO.out.below b1 (Nat.le_refl _))
      have HB1 := Lib.hid (HB.out.trans (b1.mono hsz))
      have hsz1 := Nat.le_trans hsz b1.size
      clear b1 HO HB
      go_wp2_with (at_builtin; refine wl_app _ rfl (.tmp 7) (.tmp 10) rfl w.heap.size A _ cap (nl (wdTo k)) _ rfl HO1.out rfl (by omega) hsz1 ?_)
      intro A2 cap2 w2 hown2 hb2
      have HO2 := Lib.hid hown2
      have HB2 := Lib.hid hb2
      clear hown2 hb2
      go_wp2
      go_roundw
      case rel =>
        refine ⟨k + 1, A2, cap2, by omega, by go_num, by simp, ?_, HB1.out.trans HB2.out⟩
        have h := HO2.out
        rw [HS.out, nl_append]
        simpa [nl] using h
      case measure => simp [intOf]; omega
    · obtain rfl : k = 4096 := by omega
      go_wp2
      go_ret
      exact ⟨A, _, cap, rfl, HO.out, HB.out⟩

set_option maxHeartbeats 2000000 in
theorem sl3Of (m : Nat) (w : World) (hm : m < 4096) :
    Calls Try.prog 30 #[.int .i64 m] w fun e w' => e = .returned (.int .i64 (cw m)) ∧ Below w.heap.size w w' := by
  have hb6 := bt_le m 6
  have hrow : ∀ W, Calls Try.prog 45 #[.int .i64 ((m : Int) % 4), .int .i64 ((m : Int) / 4 % 4), .int .i64 ((m : Int) / 16 % 4)] W (Makes (nl (rowM m)) W) := by
    intro W
    have h := shexOf (m % 4) (m / 4 % 4) (m / 16 % 4) W (by omega) (by omega) (by omega)
    rw [show ((m % 4 : Nat) : Int) = (m : Int) % 4 from by omega, show ((m / 4 % 4 : Nat) : Int) = (m : Int) / 4 % 4 from by omega, show ((m / 16 % 4 : Nat) : Int) = (m : Int) / 16 % 4 from by omega] at h
    exact h
  have HR := Lib.hid hrow
  clear hrow
  have hpar : (m : Int) / 64 % 2 = ((bt m 6 : Nat) : Int) := by rw [bt_div]; simp
  go_enter Try.func30, Try.ntmps30
  go_wp2_with fail
  refine (HR.out _).mono ?_
  rintro e w1 ⟨A1, n1, c1, rfl, o1, b1⟩
  have hn6 : n1 = 6 := o1.length.symm.trans (nl_length _)
  subst hn6
  obtain ⟨b, o, rfl, hblt, hc⟩ := o1.sl.nats (by decide)
  have HC := Lib.hid hc
  have HB1 := Lib.hid b1
  clear hc b1 o1
  go_wp2
  rw [hpar]
  go_loopw [5, 6, 7] (fun u v i wr => ∃ k : Nat, k ≤ 5 ∧ i = .int .i64 ((k + 1 : Nat) : Int) ∧ u = .int .i64 (cwFrom m k) ∧ v = .int .i64 (topF m k) ∧ Below w1.heap.size w1 wr) (fun _ _ i _ => 6 - (intOf i).toNat)
  case atStart => exact ⟨0, Nat.zero_le _, rfl, rfl, rfl, Below.refl _ _⟩
  case round =>
    obtain ⟨k, hk, rfl, rfl, rfl, hb⟩ := hrel
    have HB := Lib.hid hb
    clear hb
    have ht := topF_lt m k
    by_cases hlt : k < 5
    · have hbit : bits .and .i64 ((m : Int) / 2 ^ (6 + (k + 1))) 1 = (bt m (7 + k) : Int) := by
        rw [show 6 + (k + 1) = 7 + k from by omega]; exact i64_bit m _ (by omega)
      have hbb := bt_le m (7 + k)
      have hxor : bits .xor .i64 (topF m k : Int) (bt m (7 + k) : Int) = (topF m (k + 1) : Int) := i64_xor _ _ (by omega) (by omega)
      have r1 : wr.cell? ⟨b, o + (k + 1), none⟩ = some (.int .i64 ((rowM m).getD (k + 1) 0 : Nat)) := (HB.out.cell (p := ⟨b, o + (k + 1), none⟩) hblt).trans (HC.out (k + 1) (by omega))
      have hl1 := rowM_lt m (k + 1)
      generalize hs : (rowM m).getD (k + 1) 0 = s at r1 hl1
      have hcol : tbl s (bt m 6) (bt m (7 + k)) = colM m (k + 1) := by
        rw [← hs]; unfold colM fstM; rw [if_neg (by omega), show 6 + (k + 1) = 7 + k from by omega]
      have HCol := Lib.hid hcol
      have hi1 : ((k + 1 : Nat) : Int) < 6 := by omega
      clear hs hcol
      go_wp2_with fail
      refine (sl3Fill s (bt m 6) (bt m (7 + k)) _ hl1 (by omega) (by omega)).mono ?_
      rintro e w2 ⟨rfl, b2⟩
      have HB2 := Lib.hid (HB.out.trans (b2.mono HB.out.size))
      clear b2
      go_wp2
      go_roundw
      case rel =>
        refine ⟨k + 1, by omega, by go_num, int_eq ?_, by trivial, HB2.out⟩
        rw [HCol.out, cwFrom_succ]
        have e := col_part m (k + 1) (by omega)
        have e1 : ((colM m (k + 1) : Int) * 2 ^ (4 * (k + 1))) = ((colM m (k + 1) * 2 ^ (4 * (k + 1)) : Nat) : Int) := by simp
        rw [e1, wrap_small _ (by omega)]
        have := cwFrom_lt m k (by omega)
        unfold wrap64; omega
      case measure => simp [intOf]; omega
    · obtain rfl : k = 5 := by omega
      have r1 : wr.cell? ⟨b, o, none⟩ = some (.int .i64 ((rowM m).getD 0 0 : Nat)) := (HB.out.cell (p := ⟨b, o, none⟩) hblt).trans (HC.out 0 (by omega))
      have hl1 := rowM_lt m 0
      have hxor : bits .xor .i64 (topF m 5 : Int) (bt m 6 : Int) = (fst0 m : Int) := by
        rw [← topF_five]; exact i64_xor _ _ (by omega) (by omega)
      have hf2 : fst0 m < 2 := by rw [fst0_eq]; omega
      generalize hs : (rowM m).getD 0 0 = s at r1 hl1
      have hcol : tbl s (bt m 6) (fst0 m) = colM m 0 := by rw [← hs]; rfl
      have HCol := Lib.hid hcol
      clear hs hcol
      go_wp2_with fail
      refine (sl3Fill s (bt m 6) (fst0 m) _ hl1 (by omega) hf2).mono ?_
      rintro e w2 ⟨rfl, b2⟩
      have HB2 := Lib.hid (HB.out.trans (b2.mono HB.out.size))
      have HE := Lib.hid (cwFrom_five m)
      have HL := Lib.hid (cw_lt m)
      clear b2
      go_wp2
      go_ret
      refine ⟨ret_eq (int_eq ?_), below_to HB1.out HB2.out (Nat.le_refl _)⟩
      rw [HCol.out]
      have := HE.out
      have := HL.out
      first | omega | (unfold wrap64; omega)
end Go.Proofs.Ytmboaaopmjmdnaa
