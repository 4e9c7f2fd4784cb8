/- The words of the code nearest to a word: impl. -/
import Derived.Test.YthggjkpnjogcaaaC7
import Derived.Test.YthggjkpnjogcaaaM17
namespace Go.Proofs.Ythggjkpnjogcaaa
open Go.RowKit

/-- The call hands back a new slice that reads as l, and a number. -/
def MakesI (l : List Int) (i : Int) (w : World) (e : Ending) (w' : World) : Prop := ∃ A n cap, e = .returned (.tuple #[.slice A n cap, .int .i64 i]) ∧ Own w' w.heap.size A n cap l ∧ Below w.heap.size w w'
/-- A fresh empty row in the place of the one that was filled. -/
theorem Run.fresh {base : Nat} {w0 wr : World} {A Aw : Option Addr} {n cap nw cw : Nat} {l lw : List Int} (h : Run base w0 wr A n cap l Aw nw cw lw) (hB : base ≤ wr.heap.size) :
    Run base w0 (wr.alloc (.cells #[] 3)) (some ⟨wr.heap.size, 0, none⟩) 0 0 [] Aw nw cw lw := by
  have hb : Below wr.heap.size wr (wr.alloc (.cells #[] 3)) := (Below.refl _ _).alloc (Nat.le_refl _) _
  refine ⟨Own.empty wr base _ rfl hB, (h.sl.below hb).more hb.size, ?_, h.below.alloc hB _⟩
  intro hn x y hx hy
  obtain ⟨b, o, e, hlt, _⟩ := h.sl.at_ hn
  rw [e] at hy
  injection hx with hx
  injection hy with hy
  subst hx
  subst hy
  simp
  omega

set_option maxRecDepth 100000 in
set_option maxHeartbeats 1000000 in
theorem inear (x : Nat) (w : World) (hx : x < 16777216) :
    Calls Try.prog 79 #[.int .i64 x] w (MakesI (nl (nearN x)) (farN x) w) := by
  have HA := Lib.hid (near_srt x)
  have HF := Lib.hid (farN_eq x)
  go_enter Try.func79, Try.ntmps79
  go_wp2_with fail
  refine (iwords _).mono ?_
  rintro e w1 ⟨A1, n1, c1, rfl, o1, b1⟩
  have hn1 : n1 = 4096 := o1.length.symm.trans ((nl_length _).trans (wdTo_len _))
  subst hn1
  have R0 := Lib.hid (Run.start (Own.lit w [] (by decide)) ((Below.refl _ _).alloc (Nat.le_refl _) _) (by simp) o1 b1)
  have hs1 : w.heap.size ≤ w1.heap.size := by have := b1.size; simp at this; omega
  clear o1 b1
  go_wp2
  go_loopw [4, 5, 12] (fun v u i wr => ∃ k A n cap, k ≤ 4096 ∧ n ≤ k ∧ i = .int .i64 (k : Nat) ∧ u = .int .i64 (leastTo x k : Nat) ∧ v = .slice A n cap ∧ w.heap.size ≤ wr.heap.size ∧ Run w.heap.size w wr A n cap (nl (nrTo x k)) A1 4096 c1 (nl (wdTo 4096))) (fun _ _ i _ => 4096 - (intOf i).toNat)
  case atStart => exact ⟨0, _, _, _, Nat.zero_le _, Nat.zero_le _, rfl, by rw [leastTo_zero]; rfl, rfl, hs1, by rw [nrTo_zero]; exact R0.out⟩
  case round =>
    obtain ⟨k, A, n, cap, hk, hnk, rfl, rfl, rfl, hsz, hrun⟩ := hrel
    have R := Lib.hid hrun
    clear hrun R0
    by_cases hlt : k < 4096
    · obtain ⟨b, o, y, rfl, hb, hy, hc⟩ := R.out.sl.nat hlt
      obtain rfl : y = cw k := by rw [wd_getD k hlt] at hy; injection hy with hy; exact hy.symm
      have hcl := cw_lt k
      have hxl : x ^^^ cw k < 16777216 := Nat.xor_lt_two_pow (n := 24) hx hcl
      have hxor := i64_xor x (cw k) (by omega) (by omega)
      have HW := Lib.hid (fun W => iweight (x ^^^ cw k) W hxl)
      have hwl := wt_le (x ^^^ cw k)
      have htl := leastTo_25 x k
      clear hy
      rcases Nat.lt_trichotomy (wt (x ^^^ cw k)) (leastTo x k) with h | h | h
      · have HS := Lib.hid (nr_new h)
        have RF := Lib.hid (R.out.fresh hsz)
        generalize leastTo x k = t at h htl
        generalize hd : wt (x ^^^ cw k) = d at HW hwl h HS
        have h1 : decide ((d : Int) < (t : Int)) = true := by simp; omega
        have hs2 : w.heap.size ≤ (wr.alloc (.cells #[] 3)).heap.size := by simp; omega
        have hz2 : (wr.alloc (.cells #[] 3)).heap.size = wr.heap.size + 1 := by simp
        clear hd
        go_wp2_with (first | (go_at_call 61; refine (HW.out _).mono ?_; rintro e w' ⟨rfl, rfl⟩) | go_loud (at_builtin; refine wl_run _ rfl (.tmp 28) (.tmp 30) rfl w.heap.size w (some ⟨wr.heap.size, 0, none⟩) 0 0 [] _ _ _ _ _ rfl RF.out (by rw [hz2]; rfl) (by decide) hs2 ?_))
        intro A2 cap2 w2 hrun2 hsz2
        have R2 := Lib.hid hrun2
        clear hrun2
        go_wp2
        go_roundw
        case rel =>
          refine ⟨k + 1, A2, 1, cap2, by omega, by omega, by go_num, by rw [HS.out.1], by simp, hsz2, ?_⟩
          rw [HS.out.2]
          exact R2.out
        case measure => simp [intOf]; omega
      · have HS := Lib.hid (nr_same h)
        generalize leastTo x k = t at h htl HS
        generalize hd : wt (x ^^^ cw k) = d at HW hwl h HS
        subst h
        have h1 : decide ((d : Int) < (d : Int)) = false := by simp
        clear hd
        go_wp2_with (first | (go_at_call 61; refine (HW.out _).mono ?_; rintro e w' ⟨rfl, rfl⟩) | (at_builtin; refine wl_run _ rfl (.tmp 28) (.tmp 30) rfl w.heap.size w A _ cap (nl (nrTo x k)) _ _ _ _ _ rfl R.out rfl (by omega) hsz ?_))
        intro A2 cap2 w2 hrun2 hsz2
        have R2 := Lib.hid hrun2
        clear hrun2
        go_wp2
        go_roundw
        case rel =>
          refine ⟨k + 1, A2, n + 1, cap2, by omega, by omega, by go_num, by rw [HS.out.1], by simp, hsz2, ?_⟩
          have h := R2.out
          rw [HS.out.2, nl_append]
          simpa [nl] using h
        case measure => simp [intOf]; omega
      · have HS := Lib.hid (nr_more h)
        generalize leastTo x k = t at h htl HS
        generalize hd : wt (x ^^^ cw k) = d at HW hwl h
        have h1 : decide ((d : Int) < (t : Int)) = false := by simp; omega
        have h2 : ((d : Int) == (t : Int)) = false := by rw [int_beq]; simp; omega
        clear hd
        go_wp2_with (first | (go_at_call 61; refine (HW.out _).mono ?_; rintro e w' ⟨rfl, rfl⟩))
        go_roundw
        case rel => exact ⟨k + 1, A, n, cap, by omega, by omega, by go_num, by rw [HS.out.1], by simp, hsz, by rw [HS.out.2]; exact R.out⟩
        case measure => simp [intOf]; omega
    · obtain rfl : k = 4096 := by omega
      go_wp2_with (first | (go_at_call 91; refine (isorted w.heap.size A n cap _ wr R.out.own (by omega)).mono ?_; rintro e w2 ⟨rfl, o2, b2⟩))
      have HO2 := Lib.hid o2
      have HB2 := Lib.hid (R.out.below.trans (b2.below hsz R.out.own.at_base))
      clear o2 b2
      go_wp2
      go_ret2
      have o3 := HO2.out
      rw [HA.out] at o3
      exact ⟨A, n, cap, by rw [HF.out]; rfl, o3, HB2.out⟩

/-- What the functions on near words answer. -/
def nearOk (x : Int) : Bool := decide (0 ≤ x ∧ x < 16777216)
def nearR (x : Int) : List Nat := if nearOk x then nearN x.toNat else []
def farR (x : Int) : Int := if nearOk x then (farN x.toNat : Int) else -1
def mendOk (x : Int) : Bool := nearOk x && decide (farN x.toNat ≤ 3)
def mendR (x : Int) : Int := if mendOk x then ((nearN x.toNat).getD 0 0 : Nat) else 0
theorem nearOk_nat {n : Nat} (h : n < 16777216) : nearOk (n : Int) = true := by unfold nearOk; simp; omega
theorem nearOk_no {x : Int} (h : x < 0 ∨ 16777215 < x) : nearOk x = false := by unfold nearOk; simp; omega
theorem nearOk_yes {x : Int} (h : nearOk x = true) : ∃ n : Nat, x = n ∧ n < 16777216 := by
  unfold nearOk at h
  have := of_decide_eq_true h
  exact ⟨x.toNat, by omega, by omega⟩
theorem nearOk_out {x : Int} (h : nearOk x = false) : x < 0 ∨ 16777215 < x := by
  unfold nearOk at h
  have := of_decide_eq_false h
  omega
theorem nearR_nat {n : Nat} (h : n < 16777216) : nearR (n : Int) = nearN n := by unfold nearR; rw [nearOk_nat h]; rfl
theorem nearR_no {x : Int} (h : nearOk x = false) : nearR x = [] := by unfold nearR; rw [h]; rfl
theorem farR_nat {n : Nat} (h : n < 16777216) : farR (n : Int) = farN n := by unfold farR; rw [nearOk_nat h]; rfl
theorem farR_no {x : Int} (h : nearOk x = false) : farR x = -1 := by unfold farR; rw [h]; rfl
theorem mend_out {x : Int} (h : nearOk x = false) : mendOk x = false ∧ mendR x = 0 := by
  have h1 : mendOk x = false := by unfold mendOk; rw [h]; rfl
  exact ⟨h1, by unfold mendR; rw [h1]; rfl⟩
theorem mend_far {n : Nat} (h : 3 < farN n) : mendOk (n : Int) = false ∧ mendR (n : Int) = 0 := by
  have h1 : mendOk (n : Int) = false := by unfold mendOk; rw [Int.toNat_natCast]; simp; omega
  exact ⟨h1, by unfold mendR; rw [h1]; rfl⟩
theorem mend_one {n c : Nat} (hn : n < 16777216) (h : farN n ≤ 3) (hc : nearN n = [c]) : mendOk (n : Int) = true ∧ mendR (n : Int) = c := by
  have h1 : mendOk (n : Int) = true := by unfold mendOk; rw [nearOk_nat hn, Int.toNat_natCast]; simp; exact h
  exact ⟨h1, by unfold mendR; rw [h1, Int.toNat_natCast, hc]; rfl⟩

set_option maxHeartbeats 1000000 in
theorem iCodeNear (x : Int) (w : World) :
    Calls Try.prog 54 #[.int .i64 x] w (MakesB (nl (nearR x)) (nearOk x) w) := by
  cases hv : nearOk x with
  | false =>
    have HV := Lib.hid (fun W => iWordValid_no x W (nearOk_out hv))
    have HR := Lib.hid (nearR_no hv)
    clear hv
    go_enter Try.func54, Try.ntmps54
    go_wp2_with (go_at_call 66; refine (HV.out _).mono ?_; rintro e w' ⟨rfl, rfl⟩)
    go_ret2
    rw [HR.out]
    exact ⟨_, _, _, rfl, Own.lit w [] (by decide), (Below.refl _ _).alloc (Nat.le_refl _) _⟩
  | true =>
    obtain ⟨n, rfl, hn⟩ := nearOk_yes hv
    have HV := Lib.hid (fun W => iWordValid_yes n W hn)
    have HR := Lib.hid (nearR_nat hn)
    have HN := Lib.hid (fun W => inear n W hn)
    clear hv hn
    go_enter Try.func54, Try.ntmps54
    go_wp2_with (go_at_call 66; refine (HV.out _).mono ?_; rintro e w' ⟨rfl, rfl⟩)
    refine (HN.out _).mono ?_
    rintro e w1 ⟨A1, n1, c1, rfl, o1, b1⟩
    have HO := Lib.hid o1
    have HB := Lib.hid b1
    clear o1 b1
    go_wp2
    go_ret2
    rw [HR.out]
    exact ⟨_, _, _, rfl, HO.out, HB.out⟩

set_option maxHeartbeats 1000000 in
theorem iCodeFar (x : Int) (w : World) :
    Calls Try.prog 56 #[.int .i64 x] w fun e w' => e = .returned (.int .i64 (farR x)) ∧ Below w.heap.size w w' := by
  cases hv : nearOk x with
  | false =>
    have HV := Lib.hid (fun W => iWordValid_no x W (nearOk_out hv))
    have HR := Lib.hid (farR_no hv)
    clear hv
    go_enter Try.func56, Try.ntmps56
    go_wp2_with (go_at_call 66; refine (HV.out _).mono ?_; rintro e w' ⟨rfl, rfl⟩)
    go_ret
    rw [HR.out]
    exact ⟨rfl, Below.refl _ _⟩
  | true =>
    obtain ⟨n, rfl, hn⟩ := nearOk_yes hv
    have HV := Lib.hid (fun W => iWordValid_yes n W hn)
    have HR := Lib.hid (farR_nat hn)
    have HN := Lib.hid (fun W => inear n W hn)
    clear hv hn
    go_enter Try.func56, Try.ntmps56
    go_wp2_with (go_at_call 66; refine (HV.out _).mono ?_; rintro e w' ⟨rfl, rfl⟩)
    refine (HN.out _).mono ?_
    rintro e w1 ⟨A1, n1, c1, rfl, o1, b1⟩
    have HB := Lib.hid b1
    clear o1 b1
    go_wp2
    go_ret
    rw [HR.out]
    exact ⟨rfl, HB.out⟩

set_option maxHeartbeats 1000000 in
theorem iCodeMend (x : Int) (w : World) :
    Calls Try.prog 50 #[.int .i64 x] w fun e w' => e = .returned (.tuple #[.int .i64 (mendR x), .bool (mendOk x)]) ∧ Below w.heap.size w w' := by
  cases hv : nearOk x with
  | false =>
    have HV := Lib.hid (fun W => iWordValid_no x W (nearOk_out hv))
    have HR := Lib.hid (mend_out hv)
    clear hv
    go_enter Try.func50, Try.ntmps50
    go_wp2_with (go_at_call 66; refine (HV.out _).mono ?_; rintro e w' ⟨rfl, rfl⟩)
    go_ret2
    rw [HR.out.1, HR.out.2]
    exact ⟨rfl, Below.refl _ _⟩
  | true =>
    obtain ⟨n, rfl, hn⟩ := nearOk_yes hv
    have HV := Lib.hid (fun W => iWordValid_yes n W hn)
    have HN := Lib.hid (fun W => inear n W hn)
    by_cases h3 : 3 < farN n
    · have HR := Lib.hid (mend_far h3)
      have hd : decide ((farN n : Int) > 3) = true := by simp; omega
      clear hv hn
      go_enter Try.func50, Try.ntmps50
      go_wp2_with (go_at_call 66; refine (HV.out _).mono ?_; rintro e w' ⟨rfl, rfl⟩)
      refine (HN.out _).mono ?_
      rintro e w1 ⟨A1, n1, c1, rfl, o1, b1⟩
      have HB := Lib.hid b1
      clear o1 b1
      go_wp2
      go_ret2
      rw [HR.out.1, HR.out.2]
      exact ⟨rfl, HB.out⟩
    · obtain ⟨c, hc, -, -⟩ := nearN_short hn (by omega)
      have HR := Lib.hid (mend_one hn (by omega) hc)
      have hd : decide ((farN n : Int) > 3) = false := by simp; omega
      rw [hc] at HN
      clear hv hn hc
      go_enter Try.func50, Try.ntmps50
      go_wp2_with (go_at_call 66; refine (HV.out _).mono ?_; rintro e w' ⟨rfl, rfl⟩)
      refine (HN.out _).mono ?_
      rintro e w1 ⟨A1, n1, c1, rfl, o1, b1⟩
      obtain rfl : n1 = 1 := o1.length.symm
      obtain ⟨b, o, y, rfl, hb, hy, hcell⟩ := o1.sl.nat (k := 0) (by decide)
      obtain rfl : c = y := by injection hy
      rw [Nat.add_zero] at hcell
      have HB := Lib.hid b1
      clear o1 b1 hy
      go_wp2
      go_ret2
      rw [HR.out.1, HR.out.2]
      exact ⟨rfl, HB.out⟩
end Go.Proofs.Ythggjkpnjogcaaa
