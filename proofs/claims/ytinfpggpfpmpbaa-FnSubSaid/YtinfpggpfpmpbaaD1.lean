import Derived.Test.YtinfpggpfpmpbaaC9
namespace Go.Proofs.Ytinfpggpfpmpbaa
open Go.RowKit

set_option maxRecDepth 100000 in
set_option maxHeartbeats 1000000 in
theorem ioctads2 (fid : FuncId) (p q : Value) (f : Nat → Bool) (w : World) (hf : Tells w fid [p, q] f) :
    Calls Try.prog 53 #[.func (.func fid) #[] #[p, q]] w (Makes (nl (octs f)) w) := by
  have HF := Lib.hid hf
  have HA := Lib.hid (octTo_all f)
  clear hf
  go_enter Try.func53, Try.ntmps53
  go_wp2_with fail
  refine (iwords _).mono ?_
  rintro e w1 ⟨A1, n1, c1, rfl, o1, b1⟩
  have hn1 : n1 = 4096 := o1.length.symm.trans ((nl_length _).trans (wdTo_len _))
  subst hn1
  have R0 := Lib.hid (Run.start (Own.lit w [] (by decide)) ((Below.refl _ _).alloc (Nat.le_refl _) _) (by simp) o1 b1)
  have hs1 : w.heap.size ≤ w1.heap.size := by have := b1.size; simp at this; omega
  clear o1 b1
  go_wp2
  go_loopw [3, 9] (fun v i wr => ∃ k A n cap, k ≤ 4096 ∧ n ≤ k ∧ i = .int .i64 (k : Nat) ∧ v = .slice A n cap ∧ w.heap.size ≤ wr.heap.size ∧ Run w.heap.size w wr A n cap (nl (octTo f k)) A1 4096 c1 (nl (wdTo 4096))) (fun _ i _ => 4096 - (intOf i).toNat)
  case atStart => exact ⟨0, _, _, _, Nat.zero_le _, Nat.zero_le _, rfl, rfl, hs1, R0.out⟩
  case round =>
    obtain ⟨k, A, n, cap, hk, hnk, rfl, rfl, hsz, hrun⟩ := hrel
    have R := Lib.hid hrun
    clear hrun R0
    by_cases hlt : k < 4096
    · obtain ⟨b, o, x, rfl, hb, hx, hc⟩ := R.out.sl.nat hlt
      obtain rfl : x = cw k := by rw [wd_getD k hlt] at hx; injection hx with hx; exact hx.symm
      have hcl := cw_lt k
      have hwl := wt_le (cw k)
      clear hx
      by_cases h8 : wt (cw k) = 8
      · have e1 : ((wt (cw k) : Int) == 8) = true := by rw [show ((8 : Int)) = ((8 : Nat) : Int) from rfl, int_beq]; simp [h8]
        cases hfx : f (cw k) with
        | true =>
          have HS := Lib.hid (octTo_yes f k h8 hfx)
          have HC := Lib.hid (HF.out.2 (cw k) wr hcl R.out.below)
          rw [hfx] at HC
          clear h8 hfx
          go_wp2_with (first | (go_at_call 67; refine (iweight _ _ hcl).mono ?_; rintro e w' ⟨rfl, rfl⟩) | (rw [HF.out.1, Oper.upon_enter]; refine HC.out.mono ?_; rintro e w' ⟨rfl, rfl⟩) | (at_builtin; refine wl_run _ rfl (.tmp 21) (.tmp 23) rfl w.heap.size w A _ cap (nl (octTo f k)) _ _ _ _ _ rfl R.out rfl (by omega) hsz ?_))
          intro A2 cap2 w2 hrun2 hsz2
          have R2 := Lib.hid hrun2
          clear hrun2
          go_wp2
          go_roundw
          case rel =>
            refine ⟨k + 1, A2, n + 1, cap2, by omega, by omega, by go_num, by simp, hsz2, ?_⟩
            have h := R2.out
            rw [HS.out, nl_append]
            simpa [nl] using h
          case measure => simp [intOf]; omega
        | false =>
          have HS := Lib.hid (octTo_no f k (.inr hfx))
          have HC := Lib.hid (HF.out.2 (cw k) wr hcl R.out.below)
          rw [hfx] at HC
          clear h8 hfx
          go_wp2_with (first | (go_at_call 67; refine (iweight _ _ hcl).mono ?_; rintro e w' ⟨rfl, rfl⟩) | (rw [HF.out.1, Oper.upon_enter]; refine HC.out.mono ?_; rintro e w' ⟨rfl, rfl⟩))
          go_roundw
          case rel => exact ⟨k + 1, A, n, cap, by omega, by omega, by go_num, by simp, hsz, by rw [HS.out]; exact R.out⟩
          case measure => simp [intOf]; omega
      · have e1 : ((wt (cw k) : Int) == 8) = false := by rw [show ((8 : Int)) = ((8 : Nat) : Int) from rfl, int_beq]; simp [h8]
        have HS := Lib.hid (octTo_no f k (.inl h8))
        clear h8
        go_wp2_with (first | (go_at_call 67; refine (iweight _ _ hcl).mono ?_; rintro e w' ⟨rfl, rfl⟩))
        go_roundw
        case rel => exact ⟨k + 1, A, n, cap, by omega, by omega, by go_num, by simp, hsz, by rw [HS.out]; exact R.out⟩
        case measure => simp [intOf]; omega
    · obtain rfl : k = 4096 := by omega
      go_wp2_with (first | (go_at_call 55; refine (isorted w.heap.size A n cap _ wr R.out.own (by omega)).mono ?_; rintro e w2 ⟨rfl, o2, b2⟩))
      go_ret
      rw [HA.out] at o2
      exact ⟨A, n, cap, rfl, o2, R.out.below.trans (b2.below hsz R.out.own.at_base)⟩

theorem hasf_two (x y z : Nat) : hasf x y z = ((z &&& x == x) && (z &&& y == 0)) := rfl

/-- What 'OctadCount' answers. -/
def cntOk (a b : Int) : Bool := valid a && valid b
def cntR (a b : Int) : Int := if cntOk a b then (cnt a.toNat b.toNat : Nat) else 0
theorem cnt_yes {a b : Nat} (ha : a < 16777216) (hb : b < 16777216) : cntOk a b = true ∧ cntR a b = (cnt a b : Nat) := by
  have h : cntOk a b = true := by unfold cntOk; rw [valid_yes ha, valid_yes hb]; rfl
  exact ⟨h, by unfold cntR; rw [h]; simp⟩
theorem cnt_no {a b : Int} (h : valid a = false ∨ valid b = false) : cntOk a b = false ∧ cntR a b = 0 := by
  have h1 : cntOk a b = false := by unfold cntOk; rcases h with h | h <;> simp [h]
  exact ⟨h1, by unfold cntR; rw [h1]; rfl⟩

theorem okTo_cnt (x y : Nat) : (okTo (hasf x y) 759).length = cnt x y := by rw [okTo_all]; rfl

end Go.Proofs.Ytinfpggpfpmpbaa
