import Derived.Test.YtinfpggpfpmpbaaF7
import Derived.Test.YtinfpggpfpmpbaaM13
import Derived.Test.YtinfpggpfpmpbaaD1
import Derived.Test.YtinfpggpfpmpbaaB3
namespace Go.Proofs.Ytinfpggpfpmpbaa
open Go.RowKit

/-- What 'PlaneOvals' answers. -/
def ovPt (b : Nat) (p : Int) : Bool := decide (0 ≤ p ∧ p ≤ 23) && b.testBit p.toNat
def ovOk (b p q : Int) : Bool := baseZ b && (ovPt b.toNat p && (ovPt b.toNat q && decide (p ≠ q)))
def ovR (b p q : Int) : List Nat := if ovOk b p q then ovs b.toNat (1 <<< p.toNat ||| 1 <<< q.toNat) else []
theorem ov_no {b p q : Int} (h : baseZ b = false ∨ ovPt b.toNat p = false ∨ ovPt b.toNat q = false ∨ p = q) : ovOk b p q = false ∧ ovR b p q = [] := by
  have h1 : ovOk b p q = false := by unfold ovOk; rcases h with h | h | h | h <;> simp [h]
  exact ⟨h1, by unfold ovR; rw [h1]; rfl⟩
theorem ovPt_no {b : Nat} {p : Int} (h : p < 0 ∨ 23 < p) : ovPt b p = false := by
  unfold ovPt; rw [decide_eq_false (by omega), Bool.false_and]
theorem ovPt_eq {b p : Nat} (h : p < 24) : ovPt b p = b.testBit p := by
  unfold ovPt; rw [decide_eq_true (by omega), Bool.true_and]; rfl
theorem ov_yes {b p q : Nat} (hb : b < 16777216) (h3 : wt b = 3) (hp : b.testBit p = true) (hq : b.testBit q = true) (hne : p ≠ q) :
    ovOk b p q = true ∧ ovR b p q = ovs b (1 <<< p ||| 1 <<< q) := by
  have h1 : ovOk b p q = true := by
    unfold ovOk
    rw [baseZ_yes hb h3, Int.toNat_natCast, ovPt_eq (bit_lt hb hp), ovPt_eq (bit_lt hb hq), hp, hq]
    simp; omega
  exact ⟨h1, by unfold ovR; rw [h1]; rfl⟩
theorem ov_nat {b p q : Int} (h : ovOk b p q = true) : ∃ b' p' q' r : Nat, b = b' ∧ p = p' ∧ q = q' ∧ Two b' p' q' r := by
  unfold ovOk at h
  simp only [Bool.and_eq_true, decide_eq_true_eq] at h
  obtain ⟨hb, hp, hq, hne⟩ := h
  obtain ⟨t, rfl, ht, h3⟩ := baseZ_nat hb
  rcases (show (p < 0 ∨ 23 < p) ∨ (0 ≤ p ∧ p ≤ 23) from by omega) with h1 | h1
  · rw [ovPt_no h1] at hp; cases hp
  rcases (show (q < 0 ∨ 23 < q) ∨ (0 ≤ q ∧ q ≤ 23) from by omega) with h2 | h2
  · rw [ovPt_no h2] at hq; cases hq
  obtain ⟨x, rfl⟩ := Int.eq_ofNat_of_zero_le h1.1
  obtain ⟨y, rfl⟩ := Int.eq_ofNat_of_zero_le h2.1
  rw [Int.toNat_natCast, ovPt_eq (by omega)] at hp
  rw [Int.toNat_natCast, ovPt_eq (by omega)] at hq
  obtain ⟨r, hr⟩ := two_of ht h3 hp hq (by omega)
  exact ⟨t, x, y, r, rfl, rfl, rfl, hr⟩
theorem ov_len (b p q : Int) : (nl (ovR b p q)).length ≤ 56 := by
  rw [nl_length]
  cases h : ovOk b p q with
  | true =>
    obtain ⟨b', p', q', r, rfl, rfl, rfl, ht⟩ := ov_nat h
    unfold ovR
    rw [h]
    have := ht.ovs_len
    simp only [Int.toNat_natCast, if_true]
    omega
  | false => unfold ovR; rw [h]; simp

theorem ovals_clo (B1 B2 x y z : Nat) (w : World) (hx : x < 16777216) (_ : y < 16777216) (hz : z < 16777216) (hc : w.cell? ⟨B1, 0, none⟩ = some (.int .i64 x)) (hd : w.cell? ⟨B2, 0, none⟩ = some (.int .i64 y)) :
    Calls Try.prog 54 #[.int .i64 z, .pointer (some ⟨B1, 0, none⟩), .pointer (some ⟨B2, 0, none⟩)] w fun e w' => e = .returned (.bool (justIn x y z)) ∧ w = w' := by
  have ha := i64_and z x (by omega) (by omega)
  have r1 := int_beq' (z &&& x) y
  have HJ := Lib.hid (show justIn x y z = (z &&& x == y) from rfl)
  go_enter Try.func54, Try.ntmps54
  go_wp2
  go_ret
  rw [HJ.out, ← r1]
  exact ⟨rfl, rfl⟩
-- WALKS
set_option maxHeartbeats 2000000 in
theorem iPlaneOvals (b p q : Int) (w : World) :
    Calls Try.prog 16 #[.int .i64 b, .int .i64 p, .int .i64 q] w (MakesB (nl (ovR b p q)) (ovOk b p q) w) := by
  cases hbz : baseZ b with
  | false =>
    have HB := Lib.hid (ibase_is _ _ hbz)
    have HR := Lib.hid (ov_no (p := p) (q := q) (.inl hbz))
    clear hbz
    go_enter Try.func16, Try.ntmps16
    go_wp2_with fail
    refine (HB.out _).mono ?_
    rintro e w' ⟨rfl, rfl⟩
    go_wp2
    go_ret2
    rw [HR.out.1, HR.out.2]
    exact ⟨_, _, _, rfl, Own.empty _ w.heap.size (w.heap.size + 1) (by simp) (by omega), (((Below.refl _ _).alloc (Nat.le_refl _) _).alloc (by simp) _)⟩
  | true =>
    have HB := Lib.hid (ibase_is _ _ hbz)
    obtain ⟨t, rfl, ht, h3⟩ := baseZ_nat hbz
    clear hbz
    rcases (show (p < 0 ∨ 23 < p) ∨ (0 ≤ p ∧ p ≤ 23) from by omega) with hn | hp
    · have HP := Lib.hid (fun W => iplaceOk_no p W hn)
      have HR := Lib.hid (ov_no (b := (t : Int)) (p := p) (q := q) (.inr (.inl (ovPt_no hn))))
      clear hn h3
      go_enter Try.func16, Try.ntmps16
      go_wp2_with fail
      refine (HB.out _).mono ?_
      rintro e w' ⟨rfl, rfl⟩
      go_wp2_with fail
      refine (HP.out _).mono ?_
      rintro e w' ⟨rfl, rfl⟩
      go_wp2
      go_ret2
      rw [HR.out.1, HR.out.2]
      exact ⟨_, _, _, rfl, Own.empty _ w.heap.size (w.heap.size + 1) (by simp) (by omega), (((Below.refl _ _).alloc (Nat.le_refl _) _).alloc (by simp) _)⟩
    · obtain ⟨x, rfl⟩ := Int.eq_ofNat_of_zero_le hp.1
      have hx : x < 24 := by omega
      have HP := Lib.hid (fun W => iplaceOk_yes x W (by omega))
      clear hp
      rcases (show (q < 0 ∨ 23 < q) ∨ (0 ≤ q ∧ q ≤ 23) from by omega) with hn | hq
      · have HQ := Lib.hid (fun W => iplaceOk_no q W hn)
        have HR := Lib.hid (ov_no (b := (t : Int)) (p := (x : Int)) (q := q) (.inr (.inr (.inl (ovPt_no hn)))))
        clear hn h3
        go_enter Try.func16, Try.ntmps16
        go_wp2_with fail
        refine (HB.out _).mono ?_
        rintro e w' ⟨rfl, rfl⟩
        go_wp2_with fail
        refine (HP.out _).mono ?_
        rintro e w' ⟨rfl, rfl⟩
        go_wp2_with fail
        refine (HQ.out _).mono ?_
        rintro e w' ⟨rfl, rfl⟩
        go_wp2
        go_ret2
        rw [HR.out.1, HR.out.2]
        exact ⟨_, _, _, rfl, Own.empty _ w.heap.size (w.heap.size + 1) (by simp) (by omega), (((Below.refl _ _).alloc (Nat.le_refl _) _).alloc (by simp) _)⟩
      · obtain ⟨y, rfl⟩ := Int.eq_ofNat_of_zero_le hq.1
        have hy : y < 24 := by omega
        have HQ := Lib.hid (fun W => iplaceOk_yes y W (by omega))
        clear hq
        by_cases hxy : x = y
        · have e1 : ((x : Int) == (y : Int)) = true := by simp [hxy]
          have HR := Lib.hid (ov_no (b := (t : Int)) (p := (x : Int)) (q := (y : Int)) (.inr (.inr (.inr (by omega)))))
          clear hxy h3
          go_enter Try.func16, Try.ntmps16
          go_wp2_with fail
          refine (HB.out _).mono ?_
          rintro e w' ⟨rfl, rfl⟩
          go_wp2_with fail
          refine (HP.out _).mono ?_
          rintro e w' ⟨rfl, rfl⟩
          go_wp2_with fail
          refine (HQ.out _).mono ?_
          rintro e w' ⟨rfl, rfl⟩
          go_wp2
          go_ret2
          rw [HR.out.1, HR.out.2]
          exact ⟨_, _, _, rfl, Own.empty _ w.heap.size (w.heap.size + 1) (by simp) (by omega), (((Below.refl _ _).alloc (Nat.le_refl _) _).alloc (by simp) _)⟩
        · have e1 : ((x : Int) == (y : Int)) = false := by simp; omega
          have bx : bits .and .i64 ((t : Int) / 2 ^ x) 1 = (bt t x : Int) := i64_bit t x (by omega)
          have by_ : bits .and .i64 ((t : Int) / 2 ^ y) 1 = (bt t y : Int) := i64_bit t y (by omega)
          cases hbx : t.testBit x with
          | false =>
            have e2 : ((bt t x : Int) == 0) = true := by rw [bt_eq0, hbx]; rfl
            have HR := Lib.hid (ov_no (b := (t : Int)) (p := (x : Int)) (q := (y : Int)) (.inr (.inl (by rw [Int.toNat_natCast, ovPt_eq hx, hbx]))))
            clear hbx hxy h3
            go_enter Try.func16, Try.ntmps16
            go_wp2_with fail
            refine (HB.out _).mono ?_
            rintro e w' ⟨rfl, rfl⟩
            go_wp2_with fail
            refine (HP.out _).mono ?_
            rintro e w' ⟨rfl, rfl⟩
            go_wp2_with fail
            refine (HQ.out _).mono ?_
            rintro e w' ⟨rfl, rfl⟩
            go_wp2
            go_ret2
            rw [HR.out.1, HR.out.2]
            exact ⟨_, _, _, rfl, Own.empty _ w.heap.size (w.heap.size + 1) (by simp) (by omega), (((Below.refl _ _).alloc (Nat.le_refl _) _).alloc (by simp) _)⟩
          | true =>
            have e2 : ((bt t x : Int) == 0) = false := by rw [bt_eq0, hbx]; rfl
            cases hby : t.testBit y with
            | false =>
              have e3 : ((bt t y : Int) == 0) = true := by rw [bt_eq0, hby]; rfl
              have HR := Lib.hid (ov_no (b := (t : Int)) (p := (x : Int)) (q := (y : Int)) (.inr (.inr (.inl (by rw [Int.toNat_natCast, ovPt_eq hy, hby])))))
              clear hbx hby hxy h3
              go_enter Try.func16, Try.ntmps16
              go_wp2_with fail
              refine (HB.out _).mono ?_
              rintro e w' ⟨rfl, rfl⟩
              go_wp2_with fail
              refine (HP.out _).mono ?_
              rintro e w' ⟨rfl, rfl⟩
              go_wp2_with fail
              refine (HQ.out _).mono ?_
              rintro e w' ⟨rfl, rfl⟩
              go_wp2
              go_ret2
              rw [HR.out.1, HR.out.2]
              exact ⟨_, _, _, rfl, Own.empty _ w.heap.size (w.heap.size + 1) (by simp) (by omega), (((Below.refl _ _).alloc (Nat.le_refl _) _).alloc (by simp) _)⟩
            | true =>
              have e3 : ((bt t y : Int) == 0) = false := by rw [bt_eq0, hby]; rfl
              have HR := Lib.hid (ov_yes ht h3 hbx hby hxy)
              obtain ⟨r, htwo⟩ := two_of ht h3 hbx hby hxy
              clear hbx hby h3
              go_enter Try.func16, Try.ntmps16
              go_wp2_with fail
              refine (HB.out _).mono ?_
              rintro e w' ⟨rfl, rfl⟩
              go_wp2_with fail
              refine (HP.out _).mono ?_
              rintro e w' ⟨rfl, rfl⟩
              go_wp2_with fail
              refine (HQ.out _).mono ?_
              rintro e w' ⟨rfl, rfl⟩
              have hD := (htwo.facts).1
              have HEq := Lib.hid (two_or64 hx hy)
              have HC := Lib.hid (htwo.count)
              have HE := Lib.hid (ovs_srt (b := t) hD)
              have HL1 : ∀ k z : Nat, (octs (justIn t (1 <<< x ||| 1 <<< y)))[k]? = some z → z < 16777216 ∧ Sub (1 <<< x ||| 1 <<< y) z := fun k z h => by
                have hm := mem_octs.1 (List.mem_of_getElem? h)
                exact ⟨oct_lt hm.1, just_sub hm.2⟩
              have HL := Lib.hid HL1
              clear HL1 htwo
              generalize hDD : 1 <<< x ||| 1 <<< y = D at HR hD HEq HC HE HL
              clear hDD
              go_wp2_with fail
              go_region
              rw [HEq.out]
              have a1 : Below w.heap.size w ((((w.alloc (.cells #[.int .i64 (t : Int)] 3)).alloc (.cells #[] 3)).alloc (.cells #[.int .i64 (D : Int)] 3)).drew) := ((((Below.refl _ _).alloc (Nat.le_refl _) _).alloc (by simp) _).alloc (by simp; omega) _).drew
              have a2 : ((((w.alloc (.cells #[.int .i64 (t : Int)] 3)).alloc (.cells #[] 3)).alloc (.cells #[.int .i64 (D : Int)] 3)).drew).cell? ⟨w.heap.size, 0, none⟩ = some (.int .i64 t) := by
                show (((w.alloc _).alloc _).alloc _).cell? _ = _
                rw [((((Below.refl (w.heap.size + 1) (w.alloc (.cells #[.int .i64 (t : Int)] 3))).alloc (by simp) _).alloc (by simp) _).cell (p := ⟨w.heap.size, 0, none⟩) (by show w.heap.size < _; omega))]
                rw [World.cell?_alloc_at _ _ _ _ rfl]; rfl
              have a3 : ((((w.alloc (.cells #[.int .i64 (t : Int)] 3)).alloc (.cells #[] 3)).alloc (.cells #[.int .i64 (D : Int)] 3)).drew).cell? ⟨w.heap.size + 1 + 1, 0, none⟩ = some (.int .i64 D) := by
                show (((w.alloc _).alloc _).alloc _).cell? _ = _
                rw [World.cell?_alloc_at _ _ _ _ (by simp)]; rfl
              have a4 : Own ((((w.alloc (.cells #[.int .i64 (t : Int)] 3)).alloc (.cells #[] 3)).alloc (.cells #[.int .i64 (D : Int)] 3)).drew) w.heap.size (some ⟨w.heap.size + 1, 0, none⟩) 0 0 [] := ((Own.empty (w.alloc (.cells #[.int .i64 (t : Int)] 3)) w.heap.size (w.heap.size + 1) (by simp) (by omega)).alloc _).drew
              have a5 : ((((w.alloc (.cells #[.int .i64 (t : Int)] 3)).alloc (.cells #[] 3)).alloc (.cells #[.int .i64 (D : Int)] 3)).drew).heap.size = w.heap.size + 3 := by
                show (((w.alloc _).alloc _).alloc _).heap.size = _
                simp
              have A1 := Lib.hid a1
              have A2 := Lib.hid a2
              have A3 := Lib.hid a3
              have A4 := Lib.hid a4
              have hz5 := a5
              clear a1 a2 a3 a4 a5
              generalize (((w.alloc (.cells #[.int .i64 (t : Int)] 3)).alloc (.cells #[] 3)).alloc (.cells #[.int .i64 (D : Int)] 3)).drew = w5 at A1 A2 A3 A4 hz5 ⊢
              go_wp2_with fail
              refine (ioctads2 54 _ _ (justIn t D) w5 ⟨fun args W => callFunc_in Try.func54 (by kernel_rfl) (by kernel_rfl) args W, fun z W hz hb => ovals_clo _ _ t D z W ht hD hz ((hb.cell (p := ⟨w.heap.size, 0, none⟩) (by show w.heap.size < _; omega)).trans A2.out) ((hb.cell (p := ⟨w.heap.size + 1 + 1, 0, none⟩) (by show w.heap.size + 1 + 1 < _; omega)).trans A3.out)⟩).mono ?_
              rintro e w6 ⟨A6, n6, c6, rfl, o1, b1⟩
              obtain rfl : n6 = 56 := by have := o1.length; rw [nl_length, HC.out] at this; omega
              have R0 := Lib.hid (Run.start A4.out A1.out (by omega) o1 b1)
              have C0 := Lib.hid ((b1.cell (p := ⟨w.heap.size + 1 + 1, 0, none⟩) (by show w.heap.size + 1 + 1 < _; omega)).trans A3.out)
              have hs6 : w.heap.size + 1 + 1 < w6.heap.size := by have := b1.size; omega
              clear o1 b1
              generalize octs (justIn t D) = L at HC HE HL R0
              go_wp2
              go_loopw [8, 54] (fun v i wr => ∃ k A cap, k ≤ 56 ∧ i = .int .i64 (k : Nat) ∧ v = .slice A k cap ∧ w.heap.size + 1 + 1 < wr.heap.size ∧ Run w.heap.size w wr A k cap (nl (adTo D L k)) A6 56 c6 (nl L) ∧ wr.cell? ⟨w.heap.size + 1 + 1, 0, none⟩ = some (.int .i64 D) ∧ ∀ z : Addr, A = some z → w.heap.size + 1 + 1 ≠ z.block) (fun _ i _ => 56 - (intOf i).toNat)
              case atStart => exact ⟨0, _, _, Nat.zero_le _, rfl, rfl, hs6, R0.out, C0.out, fun z hz => by injection hz with hz; subst hz; show w.heap.size + 1 + 1 ≠ w.heap.size + 1; omega⟩
              case round =>
                obtain ⟨k, A, cap, hk, rfl, rfl, hsz, hrun, hcd, hne⟩ := hrel
                have R := Lib.hid hrun
                have NE := Lib.hid hne
                have CD := Lib.hid hcd
                clear hrun R0 C0 hne
                by_cases hlt : k < 56
                · obtain ⟨b', o, z, rfl, hb', hz, hc⟩ := R.out.sl.nat hlt
                  obtain ⟨hzl, hsub⟩ := HL.out k z hz
                  have hless := i64_less z D (by omega) (by omega)
                  rw [less_xor hsub] at hless
                  have HS := Lib.hid (adTo_succ (c := D) hz)
                  clear hz hsub
                  go_wp2_with (at_builtin; refine wl_run3 _ rfl (.tmp 58) (.tmp 62) rfl w.heap.size w A _ cap (nl (adTo D L k)) _ _ _ _ _ rfl R.out rfl (by omega) (by omega) ?_)
                  intro A2 cap2 w7 hrun2 hsz2 hst
                  obtain ⟨st1, st2⟩ := hst ⟨w.heap.size + 1 + 1, 0, none⟩ hsz NE.out
                  have R2 := Lib.hid hrun2
                  have C2 := Lib.hid (st1.trans CD.out)
                  have N2 := Lib.hid st2
                  have hsz7 : w.heap.size + 1 + 1 < w7.heap.size := World.block_lt_of_cell? w7 ⟨w.heap.size + 1 + 1, 0, none⟩ C2.out
                  clear hrun2 hst st1 st2
                  go_wp2
                  go_roundw
                  case rel =>
                    refine ⟨k + 1, A2, cap2, by omega, by go_num, by simp, hsz7, ?_, C2.out, N2.out⟩
                    have h := R2.out
                    rw [HS.out, nl_append]
                    simpa [nl] using h
                  case measure => simp [intOf]; omega
                · obtain rfl : k = 56 := by omega
                  go_wp2_with (first | (go_at_call 55; refine (isorted w.heap.size A 56 cap _ wr R.out.own (by decide)).mono ?_; rintro e w8 ⟨rfl, o8, b8⟩))
                  go_ret2
                  rw [adTo_all D L 56 (by rw [HC.out]; exact Nat.le_refl _), HE.out] at o8
                  rw [HR.out.1, HR.out.2]
                  exact ⟨A, 56, cap, rfl, o8, R.out.below.trans (b8.below (by omega) R.out.own.at_base)⟩

set_option maxRecDepth 100000 in
set_option maxHeartbeats 2000000 in
theorem sPlaneOvals (b p q : Int) (w : World) :
    Calls Try.prog 15 #[.int .i64 b, .int .i64 p, .int .i64 q] w (MakesB (nl (ovR b p q)) (ovOk b p q) w) := by
  cases hbz : baseZ b with
  | false =>
    have HB := Lib.hid (sbase_is _ _ hbz)
    have HR := Lib.hid (ov_no (p := p) (q := q) (.inl hbz))
    clear hbz
    go_enter Try.func15, Try.ntmps15
    go_wp2_with fail
    refine (HB.out _).mono ?_
    rintro e w' ⟨rfl, rfl⟩
    go_wp2
    go_ret2
    rw [HR.out.1, HR.out.2]
    exact ⟨_, _, _, rfl, Own.lit w [] (by decide), ((Below.refl _ _).alloc (Nat.le_refl _) _)⟩
  | true =>
    have HB := Lib.hid (sbase_is _ _ hbz)
    obtain ⟨t, rfl, ht, h3⟩ := baseZ_nat hbz
    clear hbz
    rcases (show (p < 0 ∨ 23 < p) ∨ (0 ≤ p ∧ p ≤ 23) from by omega) with hn | hp
    · have HP := Lib.hid (fun W => l6In_no p 0 23 W hn)
      have HR := Lib.hid (ov_no (b := (t : Int)) (p := p) (q := q) (.inr (.inl (ovPt_no hn))))
      clear hn h3
      go_enter Try.func15, Try.ntmps15
      go_wp2_with fail
      refine (HB.out _).mono ?_
      rintro e w' ⟨rfl, rfl⟩
      go_wp2_with fail
      refine (HP.out _).mono ?_
      rintro e w' ⟨rfl, rfl⟩
      go_wp2
      go_ret2
      rw [HR.out.1, HR.out.2]
      exact ⟨_, _, _, rfl, Own.lit w [] (by decide), ((Below.refl _ _).alloc (Nat.le_refl _) _)⟩
    · obtain ⟨x, rfl⟩ := Int.eq_ofNat_of_zero_le hp.1
      have hx : x < 24 := by omega
      have HP := Lib.hid (fun W => l6In_yes (x : Int) 0 23 W (by omega) (by omega))
      clear hp
      rcases (show (q < 0 ∨ 23 < q) ∨ (0 ≤ q ∧ q ≤ 23) from by omega) with hn | hq
      · have HQ := Lib.hid (fun W => l6In_no q 0 23 W hn)
        have HR := Lib.hid (ov_no (b := (t : Int)) (p := (x : Int)) (q := q) (.inr (.inr (.inl (ovPt_no hn)))))
        clear hn h3
        go_enter Try.func15, Try.ntmps15
        go_wp2_with fail
        refine (HB.out _).mono ?_
        rintro e w' ⟨rfl, rfl⟩
        go_wp2_with fail
        refine (HP.out _).mono ?_
        rintro e w' ⟨rfl, rfl⟩
        go_wp2_with fail
        refine (HQ.out _).mono ?_
        rintro e w' ⟨rfl, rfl⟩
        go_wp2
        go_ret2
        rw [HR.out.1, HR.out.2]
        exact ⟨_, _, _, rfl, Own.lit w [] (by decide), ((Below.refl _ _).alloc (Nat.le_refl _) _)⟩
      · obtain ⟨y, rfl⟩ := Int.eq_ofNat_of_zero_le hq.1
        have hy : y < 24 := by omega
        have HQ := Lib.hid (fun W => l6In_yes (y : Int) 0 23 W (by omega) (by omega))
        clear hq
        by_cases hxy : x = y
        · have e1 : ((x : Int) == (y : Int)) = true := by simp [hxy]
          have HR := Lib.hid (ov_no (b := (t : Int)) (p := (x : Int)) (q := (y : Int)) (.inr (.inr (.inr (by omega)))))
          clear hxy h3
          go_enter Try.func15, Try.ntmps15
          go_wp2_with fail
          refine (HB.out _).mono ?_
          rintro e w' ⟨rfl, rfl⟩
          go_wp2_with fail
          refine (HP.out _).mono ?_
          rintro e w' ⟨rfl, rfl⟩
          go_wp2_with fail
          refine (HQ.out _).mono ?_
          rintro e w' ⟨rfl, rfl⟩
          go_wp2
          go_ret2
          rw [HR.out.1, HR.out.2]
          exact ⟨_, _, _, rfl, Own.lit w [] (by decide), ((Below.refl _ _).alloc (Nat.le_refl _) _)⟩
        · have e1 : ((x : Int) == (y : Int)) = false := by simp; omega
          have HX := Lib.hid (fun W => l1Bit_any t x W (by omega) hx)
          have HY := Lib.hid (fun W => l1Bit_any t y W (by omega) hy)
          cases hbx : t.testBit x with
          | false =>
            have e2 : ((bt t x : Int) == 0) = true := by rw [bt_eq0, hbx]; rfl
            have HR := Lib.hid (ov_no (b := (t : Int)) (p := (x : Int)) (q := (y : Int)) (.inr (.inl (by rw [Int.toNat_natCast, ovPt_eq hx, hbx]))))
            clear hbx hxy h3
            go_enter Try.func15, Try.ntmps15
            go_wp2_with fail
            refine (HB.out _).mono ?_
            rintro e w' ⟨rfl, rfl⟩
            go_wp2_with fail
            refine (HP.out _).mono ?_
            rintro e w' ⟨rfl, rfl⟩
            go_wp2_with fail
            refine (HQ.out _).mono ?_
            rintro e w' ⟨rfl, rfl⟩
            go_wp2_with fail
            refine (HX.out _).mono ?_
            rintro e w' ⟨rfl, rfl⟩
            go_wp2
            go_ret2
            rw [HR.out.1, HR.out.2]
            exact ⟨_, _, _, rfl, Own.lit w [] (by decide), ((Below.refl _ _).alloc (Nat.le_refl _) _)⟩
          | true =>
            have e2 : ((bt t x : Int) == 0) = false := by rw [bt_eq0, hbx]; rfl
            cases hby : t.testBit y with
            | false =>
              have e3 : ((bt t y : Int) == 0) = true := by rw [bt_eq0, hby]; rfl
              have HR := Lib.hid (ov_no (b := (t : Int)) (p := (x : Int)) (q := (y : Int)) (.inr (.inr (.inl (by rw [Int.toNat_natCast, ovPt_eq hy, hby])))))
              clear hbx hby hxy h3
              go_enter Try.func15, Try.ntmps15
              go_wp2_with fail
              refine (HB.out _).mono ?_
              rintro e w' ⟨rfl, rfl⟩
              go_wp2_with fail
              refine (HP.out _).mono ?_
              rintro e w' ⟨rfl, rfl⟩
              go_wp2_with fail
              refine (HQ.out _).mono ?_
              rintro e w' ⟨rfl, rfl⟩
              go_wp2_with fail
              refine (HX.out _).mono ?_
              rintro e w' ⟨rfl, rfl⟩
              go_wp2_with fail
              refine (HY.out _).mono ?_
              rintro e w' ⟨rfl, rfl⟩
              go_wp2
              go_ret2
              rw [HR.out.1, HR.out.2]
              exact ⟨_, _, _, rfl, Own.lit w [] (by decide), ((Below.refl _ _).alloc (Nat.le_refl _) _)⟩
            | true =>
              have e3 : ((bt t y : Int) == 0) = false := by rw [bt_eq0, hby]; rfl
              have HR := Lib.hid (ov_yes ht h3 hbx hby hxy)
              obtain ⟨r, htwo⟩ := two_of ht h3 hbx hby hxy
              clear hbx hby h3
              go_enter Try.func15, Try.ntmps15
              go_wp2_with fail
              refine (HB.out _).mono ?_
              rintro e w' ⟨rfl, rfl⟩
              go_wp2_with fail
              refine (HP.out _).mono ?_
              rintro e w' ⟨rfl, rfl⟩
              go_wp2_with fail
              refine (HQ.out _).mono ?_
              rintro e w' ⟨rfl, rfl⟩
              go_wp2_with fail
              refine (HX.out _).mono ?_
              rintro e w' ⟨rfl, rfl⟩
              go_wp2_with fail
              refine (HY.out _).mono ?_
              rintro e w' ⟨rfl, rfl⟩
              have hD := (htwo.facts).1
              have HEq := Lib.hid (two_wrap64 hx hy hxy)
              have HC := Lib.hid (htwo.count)
              have HE := Lib.hid (ovs_srt (b := t) hD)
              clear htwo
              generalize hDD : 1 <<< x ||| 1 <<< y = D at HR hD HEq HC HE
              clear hDD hxy
              go_wp2_with fail
              go_quiet (fail)
              rw [HEq.out]
              have A1 := Lib.hid (below_drewN ((Below.refl w.heap.size w).alloc (Nat.le_refl _) (.cells #[] 3)) nq)
              have A4 := Lib.hid ((Own.lit w [] (by decide)).drewN nq)
              have hz5 : ((w.alloc (.cells #[] 3)).drewN nq).heap.size = w.heap.size + 1 := by
                show (w.alloc _).heap.size = _
                simp
              have A4' : Own ((w.alloc (.cells #[] 3)).drewN nq) w.heap.size (some ⟨w.heap.size, 0, none⟩) 0 0 [] := A4.out
              clear A4
              have A4 := Lib.hid A4'
              clear A4'
              generalize (w.alloc (.cells #[] 3)).drewN nq = w5 at A1 A4 hz5 ⊢
              go_wp2_with fail
              refine (sl4All w5).mono ?_
              rintro e w6 ⟨A6, n6, c6, rfl, o1, b1⟩
              have hn6 : n6 = 759 := o1.length.symm.trans ((nl_length _).trans oct_count)
              subst hn6
              have R0 := Lib.hid (Run.start A4.out A1.out (by omega) o1 b1)
              have hs6 : w.heap.size ≤ w6.heap.size := by have := b1.size; omega
              have HK := Lib.hid (okTo_all (justIn t D))
              clear o1 b1
              go_wp2
              go_loopw [8, 11] (fun v i wr => ∃ k A n cap, k ≤ 759 ∧ n ≤ k ∧ i = .int .i64 (k : Nat) ∧ v = .slice A n cap ∧ w.heap.size ≤ wr.heap.size ∧ Run w.heap.size w wr A n cap (nl ((okTo (justIn t D) k).map (· ^^^ D))) A6 759 c6 (nl (octs yes))) (fun _ i _ => 759 - (intOf i).toNat)
              case atStart => exact ⟨0, _, _, _, Nat.zero_le _, Nat.zero_le _, rfl, rfl, hs6, R0.out⟩
              case round =>
                obtain ⟨k, A, n, cap, hk, hnk, rfl, rfl, hsz, hrun⟩ := hrel
                have R := Lib.hid hrun
                clear hrun R0
                by_cases hlt : k < 759
                · obtain ⟨b', o, z, rfl, hb', hz, hc⟩ := R.out.sl.nat hlt
                  have hzl := oct_lt (oct_at hz)
                  have ha := i64_and z t (by omega) (by omega)
                  have hr := int_beq' (z &&& t) D
                  have hxor := i64_xor z D (by omega) (by omega)
                  have hj : justIn t D z = (z &&& t == D) := rfl
                  cases hv : (z &&& t == D) with
                  | true =>
                    rw [hv] at hr
                    have HS := Lib.hid (okTo_yes hz (hj.trans hv))
                    clear hv hj hz
                    go_wp2_with (at_builtin; refine wl_run _ rfl (.tmp 64) (.tmp 71) rfl w.heap.size w A _ cap (nl ((okTo (justIn t D) k).map (· ^^^ D))) _ _ _ _ _ rfl R.out rfl (by omega) hsz ?_)
                    intro A2 cap2 w7 hrun2 hsz2
                    have R2 := Lib.hid hrun2
                    clear hrun2
                    go_wp2
                    go_roundw
                    case rel =>
                      refine ⟨k + 1, A2, n + 1, cap2, by omega, by omega, by go_num, by simp, hsz2, ?_⟩
                      have h := R2.out
                      rw [HS.out, List.map_append, nl_append]
                      simpa [nl] using h
                    case measure => simp [intOf]; omega
                  | false =>
                    rw [hv] at hr
                    have HS := Lib.hid (okTo_no hz (hj.trans hv))
                    clear hv hj hz
                    go_wp2
                    go_roundw
                    case rel => exact ⟨k + 1, A, n, cap, by omega, by omega, by go_num, by simp, hsz, by rw [HS.out]; exact R.out⟩
                    case measure => simp [intOf]; omega
                · obtain rfl : k = 759 := by omega
                  have hn : n = 56 := by
                    have := R.out.own.length
                    rw [nl_length, List.length_map, HK.out, HC.out] at this
                    exact this.symm
                  subst hn
                  go_wp2_with fail
                  refine (sl4Sort 56 wr.heap.size A cap _ wr R.out.own.sl (Nat.le_refl _) (by decide)).mono ?_
                  rintro e w8 ⟨A8, c8, rfl, -, b8, -, o8⟩
                  have HO := Lib.hid (o8 (by decide))
                  have HB8 := Lib.hid b8
                  clear o8 b8
                  go_wp2
                  go_ret2
                  have h := HO.out
                  rw [HK.out, HE.out] at h
                  rw [HR.out.1, HR.out.2]
                  exact ⟨A8, _, c8, rfl, h.base_le hsz, R.out.below.trans (HB8.out.mono hsz)⟩
end Go.Proofs.Ytinfpggpfpmpbaa
