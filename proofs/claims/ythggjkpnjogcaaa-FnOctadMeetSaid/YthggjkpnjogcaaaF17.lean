/- Counting octads by common places. -/
import Derived.Test.YthggjkpnjogcaaaC9
import Derived.Test.YthggjkpnjogcaaaC10
import Derived.Test.YthggjkpnjogcaaaN2
namespace Go.Proofs.Ythggjkpnjogcaaa
open Go.RowKit

/-- What 'OctadMeet' answers. -/
def meetR (x : Int) : List Nat := if octZ x then [30, 0, 448, 0, 280, 0, 0, 0, 1] else []
theorem meet_no {x : Int} (h : octZ x = false) : meetR x = [] := by unfold meetR; rw [h]; exact if_neg (by decide)
theorem meet_yes {x : Int} (h : octZ x = true) : meetR x = [30, 0, 448, 0, 280, 0, 0, 0, 1] := by unfold meetR; rw [if_pos h]
theorem meet_len (x : Int) : (nl (meetR x)).length ≤ 9 := by
  cases h : octZ x with
  | true => rw [meet_yes h]; decide
  | false => rw [meet_no h]; decide

set_option maxRecDepth 100000 in
set_option maxHeartbeats 1000000 in
theorem iOctadMeet (x : Int) (w : World) :
    Calls Try.prog 38 #[.int .i64 x] w (MakesB (nl (meetR x)) (octZ x) w) := by
  cases hv : octZ x with
  | false =>
    have HI := Lib.hid (fun W => iOct_is x _ hv W)
    have HR := Lib.hid (meet_no hv)
    clear hv
    go_enter Try.func38, Try.ntmps38
    go_wp2_with fail
    refine (HI.out w).mono ?_
    rintro e w1 ⟨rfl, b1⟩
    have HB := Lib.hid b1
    have hz := b1.size
    clear b1
    go_wp2
    go_ret2
    rw [HR.out]
    exact ⟨_, _, _, rfl, (Own.lit w1 [] (by decide)).base_le hz, HB.out.alloc hz _⟩
  | true =>
    have HI := Lib.hid (fun W => iOct_is x _ hv W)
    obtain ⟨n, rfl, ho⟩ := octZ_yes hv
    have hn := oct_lt ho
    have HAll := Lib.hid (fun W => ioctadsWith 0 W (by decide))
    have hyes : hasf 0 0 = yes := by funext z; simp [hasf, yes]
    rw [hyes] at HAll
    have hoc := oct_count
    have HAT := Lib.hid (fun (k a : Nat) (ha : (octs yes)[k]? = some a) => oct_lt (oct_at ha))
    have HST := Lib.hid (fun (k a : Nat) (ha : (octs yes)[k]? = some a) => meetL_step (w := n) ha)
    have HWT := Lib.hid (fun a => meet_wt (w := n) (x := a) ho)
    have HEND := Lib.hid (show meetL n 759 = meetR (n : Int) from (meetL_all (w := n) (n := 759) ho (by rw [hoc]; exact Nat.le_refl _)).trans (meet_yes hv).symm)
    have HLE := Lib.hid (meetTo_le n)
    have H0 := Lib.hid (meetL_zero n)
    clear hv hyes ho
    generalize octs yes = L at HAll hoc HAT HST
    go_enter Try.func38, Try.ntmps38
    go_wp2_with fail
    refine (HI.out w).mono ?_
    rintro e w1 ⟨rfl, b1⟩
    go_wp2_with (at_make; refine wl_make _ rfl (.const (.int .i64 9)) (.const (.int .i64 9)) rfl .i64 .i64 9 9 9 rfl rfl rfl rfl (by decide) ?_)
    intro w2 hown2 hb2
    have B2 := Lib.hid (below_to b1 hb2 (Nat.le_refl _))
    have hz1 := b1.size
    have HO2 := Lib.hid hown2
    have hg2 : w1.heap.size < w2.heap.size := by
      obtain ⟨g, e, h1, h2⟩ := hown2.form (by decide)
      injection e with e
      injection e with e1 e2
      omega
    clear b1 hown2 hb2
    go_wp2_with fail
    refine (HAll.out w2).mono ?_
    rintro e w3 ⟨A3, n3, c3, rfl, o3, b3⟩
    obtain rfl : n3 = 759 := by have := o3.length; rw [nl_length, hoc] at this; omega
    have B3 := Lib.hid (below_to B2.out b3 (Nat.le_refl _))
    have S3 := Lib.hid o3.sl
    have HAT3 := Lib.hid o3.at_base
    have HO3 := Lib.hid (HO2.out.below b3 (Nat.le_refl _))
    clear o3 b3 HI HAll HO2
    go_wp2
    go_loopw [14] (fun iv wr => ∃ k : Nat, k ≤ 759 ∧ iv = .int .i64 k ∧ Own wr w1.heap.size (some ⟨w1.heap.size, 0, none⟩) 9 9 (nl (meetL n k)) ∧ Sl wr wr.heap.size A3 759 c3 (nl L) ∧ Below w.heap.size w wr) (fun iv _ => 759 - (intOf iv).toNat)
    case atStart => exact ⟨0, Nat.zero_le _, rfl, by rw [H0.out]; exact HO3.out, S3.out, B3.out⟩
    case round =>
      obtain ⟨k, hk, rfl, hown, hs, hb⟩ := hrel
      have HO := Lib.hid hown
      have S := Lib.hid hs
      have B := Lib.hid hb
      clear hown hs hb
      by_cases hlt : k < 759
      · obtain ⟨bb, o, a, rfl, hbl, ha, hc⟩ := S.out.nat hlt
        have hal := HAT.out k a ha
        have hand := i64_and a n (by omega) (by omega)
        have hw9 := HWT.out a
        have hcl := HO.out.cell (j := wt (a &&& n)) (x := ((meetTo n k (wt (a &&& n)) : Nat) : Int)) (by rw [nl_get, meetL_get n k _ hw9]; rfl)
        have hfree := HO.out.free (wt (a &&& n))
        have hmle := HLE.out k (wt (a &&& n))
        have HS := Lib.hid (HST.out k a ha)
        have HW := Lib.hid (fun W => iweight (a &&& n) W (and_lt hal))
        have hfar : bb ≠ w1.heap.size := by have := HAT3.out ⟨bb, o, none⟩ rfl; have : w2.heap.size ≤ bb := this; omega
        have hi0 : (0 : Int) ≤ (wt (a &&& n) : Int) := Int.natCast_nonneg _
        have hi1 : (wt (a &&& n) : Int) < 9 := by omega
        have hset := HO.out.set (wt (a &&& n)) ((meetTo n k (wt (a &&& n)) + 1 : Nat) : Int)
        have hs2 : ∀ v, Sl (wr.setCell ⟨w1.heap.size, wt (a &&& n), none⟩ v) wr.heap.size (some ⟨bb, o, none⟩) 759 c3 (nl L) := fun v =>
          S.out.only ((Only.refl wr (some ⟨w1.heap.size, 0, none⟩)).setCell _ v) (Nat.le_refl _) (fun _ p q hp hq => by injection hp with hp; injection hq with hq; subst hp; subst hq; exact fun e => hfar e.symm)
        have hset2 : (nl (meetL n k)).set (wt (a &&& n)) ((meetTo n k (wt (a &&& n)) + 1 : Nat) : Int) = nl (meetL n (k + 1)) := by rw [← HS.out]; unfold nl; rw [List.map_set]; rfl
        rw [hset2] at hset
        have HSET := Lib.hid hset
        have HS2 := Lib.hid hs2
        have HB2 := Lib.hid (fun v => B.out.setCell (p := (⟨w1.heap.size, wt (a &&& n), none⟩ : Addr)) hz1 v)
        clear ha hset hs2 hset2 hw9 HS
        generalize wt (a &&& n) = j at hcl hfree hmle HW hi0 hi1 HSET HS2 HB2
        generalize meetTo n k j = m at hcl hmle HSET
        go_wp2_with (first | (go_at_call 61; refine (HW.out _).mono ?_; rintro e w' ⟨rfl, rfl⟩))
        go_roundw
        case rel => exact ⟨k + 1, by omega, by go_num, HSET.out, by simpa [World.setCell] using HS2.out _, HB2.out _⟩
        case measure => simp [intOf]; omega
      · obtain rfl : k = 759 := by omega
        have ho := HO.out
        rw [HEND.out] at ho
        go_wp2
        go_ret2
        exact ⟨_, _, _, rfl, ho.base_le hz1, B.out⟩
set_option maxRecDepth 100000 in
set_option maxHeartbeats 1000000 in
theorem sOctadMeet (x : Int) (w : World) :
    Calls Try.prog 39 #[.int .i64 x] w (MakesB (nl (meetR x)) (octZ x) w) := by
  cases hv : octZ x with
  | false =>
    have HI := Lib.hid (fun W => sOct_is x _ hv W)
    have HR := Lib.hid (meet_no hv)
    clear hv
    go_enter Try.func39, Try.ntmps39
    go_wp2_with (at_make; refine wl_make _ rfl (.const (.int .i64 9)) (.const (.int .i64 9)) rfl .i64 .i64 9 9 9 rfl rfl rfl rfl (by decide) ?_)
    intro w0 hown0 hb0
    go_wp2_with fail
    refine (HI.out w0).mono ?_
    rintro e w1 ⟨rfl, b1⟩
    have HB := Lib.hid (below_to hb0 b1 (Nat.le_refl _))
    have hz := HB.out.size
    clear b1 hown0 hb0
    go_wp2
    go_ret2
    rw [HR.out]
    exact ⟨_, _, _, rfl, (Own.lit w1 [] (by decide)).base_le hz, HB.out.alloc hz _⟩
  | true =>
    have HI := Lib.hid (fun W => sOct_is x _ hv W)
    obtain ⟨n, rfl, ho⟩ := octZ_yes hv
    have hn := oct_lt ho
    have HAll := Lib.hid (fun W => sl4All W)
    have hoc := oct_count
    have HAT := Lib.hid (fun (k a : Nat) (ha : (octs yes)[k]? = some a) => oct_lt (oct_at ha))
    have HST := Lib.hid (fun (k a : Nat) (ha : (octs yes)[k]? = some a) => meetL_step (w := n) ha)
    have HWT := Lib.hid (fun a => meet_wt (w := n) (x := a) ho)
    have HEND := Lib.hid (show meetL n 759 = meetR (n : Int) from (meetL_all (w := n) (n := 759) ho (by rw [hoc]; exact Nat.le_refl _)).trans (meet_yes hv).symm)
    have HLE := Lib.hid (meetTo_le n)
    have H0 := Lib.hid (meetL_zero n)
    clear hv ho
    generalize octs yes = L at HAll hoc HAT HST
    go_enter Try.func39, Try.ntmps39
    have hz1 : w.heap.size ≤ w.heap.size := Nat.le_refl _
    go_wp2_with (at_make; refine wl_make _ rfl (.const (.int .i64 9)) (.const (.int .i64 9)) rfl .i64 .i64 9 9 9 rfl rfl rfl rfl (by decide) ?_)
    intro w2' hown2 hb2
    have hg2' : w.heap.size < w2'.heap.size := by
      obtain ⟨g, e, h1, h2⟩ := hown2.form (by decide)
      injection e with e
      injection e with e1 e2
      omega
    go_wp2_with fail
    refine (HI.out w2').mono ?_
    rintro e w2 ⟨rfl, b2⟩
    have hg2 := Nat.lt_of_lt_of_le hg2' b2.size
    have B2 := Lib.hid (below_to hb2 b2 (Nat.le_refl _))
    have HO2 := Lib.hid (hown2.below b2 (Nat.le_refl _))
    clear hown2 hb2 b2
    go_wp2_with fail
    refine (HAll.out w2).mono ?_
    rintro e w3 ⟨A3, n3, c3, rfl, o3, b3⟩
    obtain rfl : n3 = 759 := by have := o3.length; rw [nl_length, hoc] at this; omega
    have B3 := Lib.hid (below_to B2.out b3 (Nat.le_refl _))
    have S3 := Lib.hid o3.sl
    have HAT3 := Lib.hid o3.at_base
    have HO3 := Lib.hid (HO2.out.below b3 (Nat.le_refl _))
    clear o3 b3 HI HAll HO2
    go_wp2
    go_loopw [6] (fun iv wr => ∃ k : Nat, k ≤ 759 ∧ iv = .int .i64 k ∧ Own wr w.heap.size (some ⟨w.heap.size, 0, none⟩) 9 9 (nl (meetL n k)) ∧ Sl wr wr.heap.size A3 759 c3 (nl L) ∧ Below w.heap.size w wr) (fun iv _ => 759 - (intOf iv).toNat)
    case atStart => exact ⟨0, Nat.zero_le _, rfl, by rw [H0.out]; exact HO3.out, S3.out, B3.out⟩
    case round =>
      obtain ⟨k, hk, rfl, hown, hs, hb⟩ := hrel
      have HO := Lib.hid hown
      have S := Lib.hid hs
      have B := Lib.hid hb
      clear hown hs hb
      by_cases hlt : k < 759
      · obtain ⟨bb, o, a, rfl, hbl, ha, hc⟩ := S.out.nat hlt
        have hal := HAT.out k a ha
        have hand := i64_and a n (by omega) (by omega)
        have hw9 := HWT.out a
        have hcl := HO.out.cell (j := wt (a &&& n)) (x := ((meetTo n k (wt (a &&& n)) : Nat) : Int)) (by rw [nl_get, meetL_get n k _ hw9]; rfl)
        have hfree := HO.out.free (wt (a &&& n))
        have hmle := HLE.out k (wt (a &&& n))
        have HS := Lib.hid (HST.out k a ha)
        have HW := Lib.hid (fun W => sweight (a &&& n) W (and_lt hal))
        have hfar : bb ≠ w.heap.size := by have := HAT3.out ⟨bb, o, none⟩ rfl; have : w2.heap.size ≤ bb := this; omega
        have hi0 : (0 : Int) ≤ (wt (a &&& n) : Int) := Int.natCast_nonneg _
        have hi1 : (wt (a &&& n) : Int) < 9 := by omega
        have hset := HO.out.set (wt (a &&& n)) ((meetTo n k (wt (a &&& n)) + 1 : Nat) : Int)
        have hs2 : ∀ v, Sl (wr.setCell ⟨w.heap.size, wt (a &&& n), none⟩ v) wr.heap.size (some ⟨bb, o, none⟩) 759 c3 (nl L) := fun v =>
          S.out.only ((Only.refl wr (some ⟨w.heap.size, 0, none⟩)).setCell _ v) (Nat.le_refl _) (fun _ p q hp hq => by injection hp with hp; injection hq with hq; subst hp; subst hq; exact fun e => hfar e.symm)
        have hset2 : (nl (meetL n k)).set (wt (a &&& n)) ((meetTo n k (wt (a &&& n)) + 1 : Nat) : Int) = nl (meetL n (k + 1)) := by rw [← HS.out]; unfold nl; rw [List.map_set]; rfl
        rw [hset2] at hset
        have HSET := Lib.hid hset
        have HS2 := Lib.hid hs2
        have HB2 := Lib.hid (fun v => B.out.setCell (p := (⟨w.heap.size, wt (a &&& n), none⟩ : Addr)) hz1 v)
        clear ha hset hs2 hset2 hw9 HS
        generalize wt (a &&& n) = j at hcl hfree hmle HW hi0 hi1 HSET HS2 HB2
        generalize meetTo n k j = m at hcl hmle HSET
        go_wp2_with (first | (go_at_call 64; refine (HW.out _).mono ?_; rintro e w' ⟨rfl, rfl⟩))
        go_roundw
        case rel => exact ⟨k + 1, by omega, by go_num, HSET.out, by simpa [World.setCell] using HS2.out _, HB2.out _⟩
        case measure => simp [intOf]; omega
      · obtain rfl : k = 759 := by omega
        have ho := HO.out
        rw [HEND.out] at ho
        go_wp2
        go_ret2
        exact ⟨_, _, _, rfl, ho.base_le hz1, B.out⟩
end Go.Proofs.Ythggjkpnjogcaaa
