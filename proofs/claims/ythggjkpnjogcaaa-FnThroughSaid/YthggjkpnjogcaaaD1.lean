import Derived.Test.YthggjkpnjogcaaaC9
namespace Go.Proofs.Ythggjkpnjogcaaa
open Go.RowKit

set_option maxRecDepth 100000 in
set_option maxHeartbeats 1000000 in
theorem ioctads2 (fid : FuncId) (p q : Value) (f : Nat → Bool) (w : World) (hf : Tells w fid [p, q] f) :
    Calls Try.prog 71 #[.func (.func fid) #[] #[p, q]] w (Makes (nl (octs f)) w) := by
  have HF := Lib.hid hf
  have HA := Lib.hid (octTo_all f)
  clear hf
  go_enter Try.func71, Try.ntmps71
  go_wp2_with fail
  refine (iwords _).mono ?_
  rintro e w1 ⟨A1, n1, c1, rfl, o1, b1⟩
  have hn1 : n1 = 4096 := o1.length.symm.trans ((nl_length _).trans (wdTo_len _))
  subst hn1
  have R0 := Lib.hid (Run.start (Own.lit w [] (by decide)) ((Below.refl _ _).alloc (Nat.le_refl _) _) (by simp) o1 b1)
  have hs1 : w.heap.size ≤ w1.heap.size := by have := b1.size; simp at this; omega
  clear o1 b1
  go_wp2
  go_loopw [3, 9] (fun v i wr => ∃ k A n cap, k ≤ 4096 ∧ n ≤ k ∧ i = .int .i64 (k : Nat) ∧ v = .slice A n cap ∧ w.heap.size ≤ wr.heap.size ∧ Run w.heap.size w wr A n cap (nl (octTo f k)) A1 4096 c1 (nl (wdTo 4096))) (fun _ i _ => 4096 - (intOf i).toNat)
  case atStart => exact ⟨0, _, _, _, Nat.zero_le _, Nat.zero_le _, rfl, rfl, hs1, R0.out⟩
  case round =>
    obtain ⟨k, A, n, cap, hk, hnk, rfl, rfl, hsz, hrun⟩ := hrel
    have R := Lib.hid hrun
    clear hrun R0
    by_cases hlt : k < 4096
    · obtain ⟨b, o, x, rfl, hb, hx, hc⟩ := R.out.sl.nat hlt
      obtain rfl : x = cw k := by rw [wd_getD k hlt] at hx; injection hx with hx; exact hx.symm
      have hcl := cw_lt k
      have hwl := wt_le (cw k)
      clear hx
      by_cases h8 : wt (cw k) = 8
      · have e1 : ((wt (cw k) : Int) == 8) = true := by rw [show ((8 : Int)) = ((8 : Nat) : Int) from rfl, int_beq]; simp [h8]
        cases hfx : f (cw k) with
        | true =>
          have HS := Lib.hid (octTo_yes f k h8 hfx)
          have HC := Lib.hid (HF.out.2 (cw k) wr hcl R.out.below)
          rw [hfx] at HC
          clear h8 hfx
          go_wp2_with (first | (go_at_call 61; refine (iweight _ _ hcl).mono ?_; rintro e w' ⟨rfl, rfl⟩) | (rw [HF.out.1, Oper.upon_enter]; refine HC.out.mono ?_; rintro e w' ⟨rfl, rfl⟩) | (at_builtin; refine wl_run _ rfl (.tmp 21) (.tmp 23) rfl w.heap.size w A _ cap (nl (octTo f k)) _ _ _ _ _ rfl R.out rfl (by omega) hsz ?_))
          intro A2 cap2 w2 hrun2 hsz2
          have R2 := Lib.hid hrun2
          clear hrun2
          go_wp2
          go_roundw
          case rel =>
            refine ⟨k + 1, A2, n + 1, cap2, by omega, by omega, by go_num, by simp, hsz2, ?_⟩
            have h := R2.out
            rw [HS.out, nl_append]
            simpa [nl] using h
          case measure => simp [intOf]; omega
        | false =>
          have HS := Lib.hid (octTo_no f k (.inr hfx))
          have HC := Lib.hid (HF.out.2 (cw k) wr hcl R.out.below)
          rw [hfx] at HC
          clear h8 hfx
          go_wp2_with (first | (go_at_call 61; refine (iweight _ _ hcl).mono ?_; rintro e w' ⟨rfl, rfl⟩) | (rw [HF.out.1, Oper.upon_enter]; refine HC.out.mono ?_; rintro e w' ⟨rfl, rfl⟩))
          go_roundw
          case rel => exact ⟨k + 1, A, n, cap, by omega, by omega, by go_num, by simp, hsz, by rw [HS.out]; exact R.out⟩
          case measure => simp [intOf]; omega
      · have e1 : ((wt (cw k) : Int) == 8) = false := by rw [show ((8 : Int)) = ((8 : Nat) : Int) from rfl, int_beq]; simp [h8]
        have HS := Lib.hid (octTo_no f k (.inl h8))
        clear h8
        go_wp2_with (first | (go_at_call 61; refine (iweight _ _ hcl).mono ?_; rintro e w' ⟨rfl, rfl⟩))
        go_roundw
        case rel => exact ⟨k + 1, A, n, cap, by omega, by omega, by go_num, by simp, hsz, by rw [HS.out]; exact R.out⟩
        case measure => simp [intOf]; omega
    · obtain rfl : k = 4096 := by omega
      go_wp2_with (first | (go_at_call 91; refine (isorted w.heap.size A n cap _ wr R.out.own (by omega)).mono ?_; rintro e w2 ⟨rfl, o2, b2⟩))
      go_ret
      rw [HA.out] at o2
      exact ⟨A, n, cap, rfl, o2, R.out.below.trans (b2.below hsz R.out.own.at_base)⟩

theorem hasf_two (x y z : Nat) : hasf x y z = ((z &&& x == x) && (z &&& y == 0)) := rfl

theorem ocount_clo (B1 B2 x y z : Nat) (w : World) (hx : x < 16777216) (hy : y < 16777216) (hz : z < 16777216) (hc : w.cell? ⟨B1, 0, none⟩ = some (.int .i64 x)) (hd : w.cell? ⟨B2, 0, none⟩ = some (.int .i64 y)) :
    Calls Try.prog 72 #[.int .i64 z, .pointer (some ⟨B1, 0, none⟩), .pointer (some ⟨B2, 0, none⟩)] w fun e w' => e = .returned (.bool (hasf x y z)) ∧ w = w' := by
  have ha := i64_and z x (by omega) (by omega)
  have hb := i64_and z y (by omega) (by omega)
  have r1 := int_beq' (z &&& x) x
  have r2 := int_beq' (z &&& y) 0
  have HH := Lib.hid (hasf_two x y z)
  cases h1 : (z &&& x == x) with
  | true =>
    rw [h1] at r1 HH
    clear h1
    go_enter Try.func72, Try.ntmps72
    go_wp2
    go_ret
    rw [HH.out, Bool.true_and, ← r2]
    exact ⟨rfl, rfl⟩
  | false =>
    rw [h1] at r1 HH
    clear h1
    go_enter Try.func72, Try.ntmps72
    go_wp2
    go_ret
    rw [HH.out, Bool.false_and]
    exact ⟨rfl, rfl⟩

/-- What 'OctadCount' answers. -/
def cntOk (a b : Int) : Bool := valid a && valid b
def cntR (a b : Int) : Int := if cntOk a b then (cnt a.toNat b.toNat : Nat) else 0
theorem cnt_yes {a b : Nat} (ha : a < 16777216) (hb : b < 16777216) : cntOk a b = true ∧ cntR a b = (cnt a b : Nat) := by
  have h : cntOk a b = true := by unfold cntOk; rw [valid_yes ha, valid_yes hb]; rfl
  exact ⟨h, by unfold cntR; rw [h]; simp⟩
theorem cnt_no {a b : Int} (h : valid a = false ∨ valid b = false) : cntOk a b = false ∧ cntR a b = 0 := by
  have h1 : cntOk a b = false := by unfold cntOk; rcases h with h | h <;> simp [h]
  exact ⟨h1, by unfold cntR; rw [h1]; rfl⟩

theorem iOctadCount (a b : Int) (w : World) :
    Calls Try.prog 27 #[.int .i64 a, .int .i64 b] w fun e w' => e = .returned (.tuple #[.int .i64 (cntR a b), .bool (cntOk a b)]) ∧ Below w.heap.size w w' := by
  have b0 : Below w.heap.size w ((w.alloc (.cells #[.int .i64 a] 3)).alloc (.cells #[.int .i64 b] 3)) := ((Below.refl _ _).alloc (Nat.le_refl _) _).alloc (by simp) _
  have HB := Lib.hid b0
  clear b0
  rcases word_cases a with ⟨x, rfl, hx⟩ | hx
  · rcases word_cases b with ⟨y, rfl, hy⟩ | hy
    · have HR := Lib.hid (cnt_yes hx hy)
      go_enter Try.func27, Try.ntmps27
      go_wp2_with fail
      refine (iWordValid_yes x _ hx).mono ?_
      rintro e w' ⟨rfl, rfl⟩
      go_wp2_with fail
      refine (iWordValid_yes y _ hy).mono ?_
      rintro e w' ⟨rfl, rfl⟩
      have c1 : ((w.alloc (.cells #[.int .i64 (x : Int)] 3)).alloc (.cells #[.int .i64 (y : Int)] 3)).cell? ⟨w.heap.size, 0, none⟩ = some (.int .i64 x) := by
        rw [(((Below.refl (w.heap.size + 1) (w.alloc (.cells #[.int .i64 (x : Int)] 3))).alloc (by simp) _).cell (p := ⟨w.heap.size, 0, none⟩) (by show w.heap.size < _; omega))]
        rw [World.cell?_alloc_at _ _ _ _ rfl]; rfl
      have c2 : ((w.alloc (.cells #[.int .i64 (x : Int)] 3)).alloc (.cells #[.int .i64 (y : Int)] 3)).cell? ⟨w.heap.size + 1, 0, none⟩ = some (.int .i64 y) := by
        rw [World.cell?_alloc_at _ _ _ _ (by simp)]; rfl
      go_wp2_with fail
      refine (ioctads2 72 _ _ (hasf x y) _ ⟨fun args W => callFunc_in Try.func72 (by kernel_rfl) (by kernel_rfl) args W, fun z W hz hb => ocount_clo _ _ x y z W hx hy hz ((hb.cell (p := ⟨w.heap.size, 0, none⟩) (by show w.heap.size < _; simp; omega)).trans c1) ((hb.cell (p := ⟨w.heap.size + 1, 0, none⟩) (by show w.heap.size + 1 < _; simp)).trans c2)⟩).mono ?_
      rintro e w1 ⟨A, n, c, rfl, o1, b1⟩
      have hn : n = cnt x y := by have h := o1.length; rw [nl_length] at h; exact h.symm
      subst hn
      have HB1 := Lib.hid b1
      clear b1 o1 c1 c2
      go_wp2
      go_ret2
      rw [HR.out.1, HR.out.2]
      exact ⟨rfl, below_to HB.out HB1.out (Nat.le_refl _)⟩
    · have HR := Lib.hid (cnt_no (a := (x : Int)) (.inr (valid_no hy)))
      go_enter Try.func27, Try.ntmps27
      go_wp2_with fail
      refine (iWordValid_yes x _ hx).mono ?_
      rintro e w' ⟨rfl, rfl⟩
      go_wp2_with fail
      refine (iWordValid_no b _ hy).mono ?_
      rintro e w' ⟨rfl, rfl⟩
      go_wp2
      go_ret2
      rw [HR.out.1, HR.out.2]
      exact ⟨rfl, HB.out⟩
  · have HR := Lib.hid (cnt_no (b := b) (.inl (valid_no hx)))
    go_enter Try.func27, Try.ntmps27
    go_wp2_with fail
    refine (iWordValid_no a _ hx).mono ?_
    rintro e w' ⟨rfl, rfl⟩
    go_wp2
    go_ret2
    rw [HR.out.1, HR.out.2]
    exact ⟨rfl, HB.out⟩

theorem okTo_cnt (x y : Nat) : (okTo (hasf x y) 759).length = cnt x y := by rw [okTo_all]; rfl

set_option maxRecDepth 100000 in
set_option maxHeartbeats 1000000 in
theorem sOctadCount (a b : Int) (w : World) :
    Calls Try.prog 28 #[.int .i64 a, .int .i64 b] w fun e w' => e = .returned (.tuple #[.int .i64 (cntR a b), .bool (cntOk a b)]) ∧ Below w.heap.size w w' := by
  rcases word_cases a with ⟨x, rfl, hx⟩ | hx
  · rcases word_cases b with ⟨y, rfl, hy⟩ | hy
    · have HR := Lib.hid (cnt_yes hx hy)
      have HE := Lib.hid (okTo_cnt x y)
      go_enter Try.func28, Try.ntmps28
      go_wp2_with fail
      refine (sWordValid_yes x _ hx).mono ?_
      rintro e w' ⟨rfl, rfl⟩
      go_wp2_with fail
      refine (sWordValid_yes y _ hy).mono ?_
      rintro e w' ⟨rfl, rfl⟩
      go_wp2_with fail
      refine (sl4All _).mono ?_
      rintro e w1 ⟨A1, n1, c1, rfl, o1, b1⟩
      have hn1 : n1 = 759 := o1.length.symm.trans ((nl_length _).trans oct_count)
      subst hn1
      have HS := Lib.hid o1.sl
      have HB1 := Lib.hid b1
      clear o1 b1
      go_wp2
      go_loop [6, 8] (fun u i => ∃ k : Nat, k ≤ 759 ∧ i = .int .i64 k ∧ u = .int .i64 ((okTo (hasf x y) k).length : Nat)) (fun _ i => 759 - (intOf i).toNat)
      case atStart => exact ⟨0, Nat.zero_le _, rfl, rfl⟩
      case round =>
        obtain ⟨k, hk, rfl, rfl⟩ := hrel
        have hle := okTo_len (hasf x y) k
        by_cases hlt : k < 759
        · obtain ⟨b', o, z, rfl, hb', hz, hc⟩ := HS.out.nat hlt
          have hzl := oct_lt (oct_at hz)
          have ha := i64_and z x (by omega) (by omega)
          have hb := i64_and z y (by omega) (by omega)
          have r1 := int_beq' (z &&& x) x
          have r2 := int_beq' (z &&& y) 0
          have hh := hasf_two x y z
          cases h1 : (z &&& x == x) with
          | true =>
            rw [h1] at r1
            cases h2 : (z &&& y == 0) with
            | true =>
              rw [h2] at r2
              rw [h1, h2] at hh
              have HF := Lib.hid (show (okTo (hasf x y) (k + 1)).length = (okTo (hasf x y) k).length + 1 from by rw [okTo_yes hz hh]; simp)
              clear h1 h2 hh hz
              go_wp2
              go_round
              case rel => exact ⟨k + 1, by omega, by go_num, int_eq (by rw [HF.out]; omega)⟩
              case measure => simp [intOf]; omega
            | false =>
              rw [h2] at r2
              rw [h1, h2] at hh
              have HF := Lib.hid (show okTo (hasf x y) (k + 1) = okTo (hasf x y) k from okTo_no hz hh)
              clear h1 h2 hh hz
              go_wp2
              go_round
              case rel => exact ⟨k + 1, by omega, by go_num, by rw [HF.out]⟩
              case measure => simp [intOf]; omega
          | false =>
            rw [h1] at r1
            rw [h1, Bool.false_and] at hh
            have HF := Lib.hid (show okTo (hasf x y) (k + 1) = okTo (hasf x y) k from okTo_no hz hh)
            clear h1 hh hz
            go_wp2
            go_round
            case rel => exact ⟨k + 1, by omega, by go_num, by rw [HF.out]⟩
            case measure => simp [intOf]; omega
        · obtain rfl : k = 759 := by omega
          go_wp2
          go_ret2
          rw [HR.out.1, HR.out.2, HE.out]
          exact ⟨rfl, HB1.out⟩
    · have HR := Lib.hid (cnt_no (a := (x : Int)) (.inr (valid_no hy)))
      go_enter Try.func28, Try.ntmps28
      go_wp2_with fail
      refine (sWordValid_yes x _ hx).mono ?_
      rintro e w' ⟨rfl, rfl⟩
      go_wp2_with fail
      refine (sWordValid_no b _ hy).mono ?_
      rintro e w' ⟨rfl, rfl⟩
      go_wp2
      go_ret2
      rw [HR.out.1, HR.out.2]
      exact ⟨rfl, Below.refl _ _⟩
  · have HR := Lib.hid (cnt_no (b := b) (.inl (valid_no hx)))
    go_enter Try.func28, Try.ntmps28
    go_wp2_with fail
    refine (sWordValid_no a _ hx).mono ?_
    rintro e w' ⟨rfl, rfl⟩
    go_wp2
    go_ret2
    rw [HR.out.1, HR.out.2]
    exact ⟨rfl, Below.refl _ _⟩
end Go.Proofs.Ythggjkpnjogcaaa
