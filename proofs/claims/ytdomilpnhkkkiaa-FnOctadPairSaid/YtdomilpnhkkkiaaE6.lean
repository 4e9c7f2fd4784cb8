import Derived.Test.YtdomilpnhkkkiaaE5
import Derived.StillTailTactics
namespace Go.Proofs.Ytdomilpnhkkkiaa
open Go.RowKit

set_option maxHeartbeats 400000 in
theorem sl1Places (x : Nat) (w : World) (hx : x < 16777216) :
    Calls Try.prog 68 #[.int .i64 x] w (Makes (nl (pl x)) w) := by
  go_enter Try.func68, Try.ntmps68
  go_wp2
  go_loopw [3, 4] (fun v i wr => ∃ k A cap, k ≤ 24 ∧ i = .int .i64 (k : Nat) ∧ v = .slice A (plTo x k).length cap ∧ Own wr w.heap.size A (plTo x k).length cap (nl (plTo x k)) ∧ Below w.heap.size w wr) (fun _ i _ => 24 - (intOf i).toNat)
  case atStart => exact ⟨0, _, _, Nat.zero_le _, rfl, rfl, Own.lit w [] (by decide), (Below.refl _ _).alloc (Nat.le_refl _) _⟩
  case round =>
    obtain ⟨k, A, cap, hk, rfl, rfl, hown, hb⟩ := hrel
    have HO := Lib.hid hown
    have HB := Lib.hid hb
    have hlen : (plTo x k).length ≤ 24 := by rw [plTo_len]; have := sm_le (n := k) (f := bt x) (g := fun _ => 1) (fun i _ => bt_le x i); rw [sm_const] at this; omega
    have hsz := hb.size
    clear hown hb
    by_cases hlt : k < 24
    · have hbit : bits .and .i64 ((x : Int) / 2 ^ k) 1 = (bt x k : Int) := i64_bit x k (by omega)
      cases hv : x.testBit k with
      | true =>
        have e1 : ((bt x k : Int) == 1) = true := by rw [bt_one.2 hv]; rfl
        have hy := plTo_yes hv
        have HY := Lib.hid hy
        clear hv hy
        go_wp2_with (first | (go_at_call 46; refine (l1Bit_any x k _ (by omega) hlt).mono ?_; rintro e w' ⟨rfl, rfl⟩) | (at_builtin; refine wl_app _ rfl (.tmp 14) (.tmp 16) rfl w.heap.size A _ cap (nl (plTo x k)) k rfl HO.out rfl (by omega) hsz ?_))
        intro A' cap' w1 hown1 hb1
        have HO1 := Lib.hid hown1
        clear hown1
        go_wp2
        go_roundw
        case rel =>
          refine ⟨k + 1, A', cap', by omega, by go_num, ?_, ?_, HB.out.trans hb1⟩
          · rw [HY.out]; simp
          · have := HO1.out
            rw [HY.out]
            simpa [nl_append, nl] using this
        case measure => simp [intOf]; omega
      | false =>
        have e1 : ((bt x k : Int) == 1) = false := by rw [bt_zero.2 hv]; rfl
        have hy := plTo_no hv
        have HY := Lib.hid hy
        clear hv hy
        go_wp2_with (first | (go_at_call 46; refine (l1Bit_any x k _ (by omega) hlt).mono ?_; rintro e w' ⟨rfl, rfl⟩))
        go_roundw
        case rel => exact ⟨k + 1, A, cap, by omega, by go_num, by rw [HY.out], by rw [HY.out]; exact HO.out, HB.out⟩
        case measure => simp [intOf]; omega
    · obtain rfl : k = 24 := by omega
      go_wp2
      go_ret
      exact ⟨A, _, cap, rfl, HO.out, HB.out⟩

/-- What is left of a drawn number under the mask of all places. -/
def maskR (x : Int) : Nat := if x = -1 then 16777215 else if x = 16777216 then 0 else x.toNat
theorem mask_eq {x : Int} (h : Near x) : bits .and .i64 x 16777215 = (maskR x : Int) ∧ maskR x < 16777216 := by
  obtain ⟨h1, h2⟩ := h
  by_cases e1 : x = -1
  · subst e1; exact ⟨rfl, by decide⟩
  · by_cases e2 : x = 16777216
    · subst e2; exact ⟨rfl, by decide⟩
    · obtain ⟨n, rfl⟩ := Int.eq_ofNat_of_zero_le (show 0 ≤ x from by omega)
      have hn : n < 16777216 := by omega
      have hm : maskR (n : Int) = n := by unfold maskR; rw [if_neg (by omega), if_neg (by omega)]; rfl
      rw [hm]
      refine ⟨?_, hn⟩
      have h := i64_and n 16777215 (by omega) (by decide)
      rw [show (n &&& 16777215 : Nat) = n from by
        rw [show (16777215 : Nat) = 2 ^ 24 - 1 from rfl, Nat.and_two_pow_sub_one_eq_mod]; exact Nat.mod_eq_of_lt hn] at h
      exact h
/-- Four different places. -/
theorem four_sum {a b c d : Nat} (h1 : a < b) (h2 : b < c) (h3 : c < d) (h4 : d < 24) : 1 <<< a + 1 <<< b + 1 <<< c + 1 <<< d < 16777216 := by
  have hb : ∀ {x y : Nat}, x < y → (1 <<< x).testBit y = false := fun h => by rw [bit_one]; simp; omega
  have e1 := or_add (one_shl_lt (show a < 24 by omega)) (show b < 24 by omega) (hb h1)
  have l1 := or_lt (one_shl_lt (show a < 24 by omega)) (one_shl_lt (show b < 24 by omega))
  have e2 := or_add l1 (show c < 24 by omega) (by rw [Nat.testBit_or, hb (show a < c by omega), hb h2]; rfl)
  have l2 := or_lt l1 (one_shl_lt (show c < 24 by omega))
  have e3 := or_add l2 h4 (by rw [Nat.testBit_or, Nat.testBit_or, hb (show a < d by omega), hb (show b < d by omega), hb h3]; rfl)
  have l3 := or_lt l2 (one_shl_lt h4)
  rw [← e1, ← e2, ← e3]
  exact l3
theorem wrap_nat {n : Nat} (h : n < 9223372036854775808) : IntKind.i64.wrap (n : Int) = (n : Int) := by rw [IntKind.wrap_i64]; omega
theorem four_wrap {a b c d : Nat} (h : 1 <<< a + 1 <<< b + 1 <<< c + 1 <<< d < 16777216) :
    IntKind.i64.wrap (IntKind.i64.wrap (IntKind.i64.wrap (IntKind.i64.wrap (2 ^ a) + IntKind.i64.wrap (2 ^ b)) + IntKind.i64.wrap (2 ^ c)) + IntKind.i64.wrap (2 ^ d)) = ((1 <<< a + 1 <<< b + 1 <<< c + 1 <<< d : Nat) : Int) := by
  rw [two_pow a, two_pow b, two_pow c, two_pow d]
  generalize 1 <<< a = x at *
  generalize 1 <<< b = y at *
  generalize 1 <<< c = z at *
  generalize 1 <<< d = u at *
  rw [wrap_nat (n := x) (by omega), wrap_nat (n := y) (by omega), wrap_nat (n := z) (by omega), wrap_nat (n := u) (by omega)]
  rw [show (x : Int) + (y : Int) = ((x + y : Nat) : Int) from by omega, wrap_nat (n := x + y) (by omega)]
  rw [show ((x + y : Nat) : Int) + (z : Int) = ((x + y + z : Nat) : Int) from by omega, wrap_nat (n := x + y + z) (by omega)]
  rw [show ((x + y + z : Nat) : Int) + (u : Int) = ((x + y + z + u : Nat) : Int) from by omega, wrap_nat (n := x + y + z + u) (by omega)]
theorem pl_four {m : Nat} (h : 4 ≤ (pl m).length) : ∃ a b c d, (pl m).getD 0 0 = a ∧ (pl m).getD 1 0 = b ∧ (pl m).getD 2 0 = c ∧ (pl m).getD 3 0 = d ∧ a < b ∧ b < c ∧ c < d ∧ d < 24 := by
  have hs := pl_sorted m
  have hm : ∀ i ∈ pl m, i < 24 := fun i hi => (mem_pl.1 hi).1
  match hp : pl m, h with
  | a :: b :: c :: d :: r, _ =>
    rw [hp] at hs hm
    simp only [List.pairwise_cons, List.mem_cons] at hs
    exact ⟨a, b, c, d, rfl, rfl, rfl, rfl, hs.1 b (.inl rfl), hs.2.1 c (.inl rfl), hs.2.2.1 d (.inl rfl), hm d (by simp)⟩

set_option maxHeartbeats 1000000 in
theorem dOctadPair (A : Option Addr) (n cap : Nat) (zs : List Int) (w : World) (h : IsRow .u8 w A n cap zs) (hn : n ≤ 1048576) :
    Calls Try.prog 38 #[.slice A n cap] w fun e w' => ∃ x y, e = .returned (.tuple #[.int .i64 x, .int .i64 y]) ∧ Below w.heap.size w w' := by
  have H := Lib.hid h
  clear h
  go_enter Try.func38, Try.ntmps38
  go_wp2_with fail
  refine (sopen A n cap zs w H.out hn).mono ?_
  rintro e w1 ⟨g, rfl, r1, b1⟩
  go_wp2_with fail
  refine (soct w.heap.size g 0 w1 r1 (by decide)).mono ?_
  rintro e w2 ⟨x, hx, rfl, q, hq1, hq2, r2, o2⟩
  obtain ⟨hmask, hml⟩ := mask_eq hx
  have hgl := r1.lo
  have R2 := Lib.hid r2
  have B2 := Lib.hid (b1.trans (o2.below (Nat.le_trans (Nat.le_refl _) b1.size) (fun z hz => by injection hz with hz; subst hz; exact hgl)))
  clear r1 b1 r2 o2
  go_wp2_with fail
  refine (sl1Places (maskR x) w2 hml).mono ?_
  rintro e w3 ⟨A3, n3, c3, rfl, o3, b3⟩
  have hl3 := o3.length
  have hn3 : n3 ≤ 24 := by rw [nl_length, pl_len] at hl3; have := wt_le (maskR x); omega
  have hsl := o3.sl
  have HB3 := Lib.hid o3.at_base
  have R3 := Lib.hid (R2.out.below b3)
  have B3 := Lib.hid (below_to B2.out b3 (Nat.le_refl _))
  have HS := Lib.hid hsl
  have HL := Lib.hid hl3
  have hz3 := b3.size
  have hz2 := B2.out.size
  clear o3 b3 hsl hl3 hx
  by_cases h4 : n3 < 4
  · have e1 : decide ((n3 : Int) < 4) = true := by simp; omega
    go_wp2_with fail
    refine (soct w.heap.size g q w3 R3.out (by omega)).mono ?_
    rintro e w4 ⟨y, hy, rfl, q2, hq3, hq4, r4, o4⟩
    have HD := Lib.hid (B3.out.trans (o4.below (Nat.le_trans hz2 hz3) (fun z hz => by injection hz with hz; subst hz; exact hgl)))
    clear r4 o4 hy
    go_wp2
    go_ret2
    exact ⟨x, y, rfl, HD.out⟩
  · have e1 : decide ((n3 : Int) < 4) = false := by simp; omega
    go_wp2_with fail
    refine (pick_any w.heap.size g q 3 w3 R3.out (by omega) (by decide) (by decide)).mono ?_
    rintro e w4 ⟨k4, hk4, rfl, r4, o4⟩
    have R4 := Lib.hid r4
    have B4 := Lib.hid (B3.out.trans (o4.below (Nat.le_trans hz2 hz3) (fun z hz => by injection hz with hz; subst hz; exact hgl)))
    have hz4 := o4.size
    by_cases h0 : k4 = 0
    · subst h0
      clear r4 o4
      go_wp2_with fail
      refine (soct w.heap.size g (q + 1) w4 R4.out (by omega)).mono ?_
      rintro e w5 ⟨y, hy, rfl, q2, hq3, hq4, r5, o5⟩
      have HD := Lib.hid (B4.out.trans (o5.below (Nat.le_trans hz2 (Nat.le_trans hz3 hz4)) (fun z hz => by injection hz with hz; subst hz; exact hgl)))
      clear r5 o5 hy
      go_wp2
      go_ret2
      exact ⟨x, y, rfl, HD.out⟩
    · have e2 : ((k4 : Int) == 0) = false := by simp; omega
      have hgi := R2.out.hi
      have hS4 := HS.out.only o4 (Nat.le_refl _) (fun _ p1 p2 hp1 hp2 => by injection hp1 with hp1; subst hp1; have := HB3.out p2 hp2; show g ≠ p2.block; omega)
      obtain ⟨b, o, rfl, hblt, hcells⟩ := hS4.nats (by omega)
      obtain ⟨pa, pb, pc, pd, e0, e1', e2', e3', h12, h23, h34, hd24⟩ := pl_four (m := maskR x) (by have := HL.out; rw [nl_length] at this; omega)
      have c0 := hcells 0 (by omega)
      have c1 := hcells 1 (by omega)
      have c2 := hcells 2 (by omega)
      have c3' := hcells 3 (by omega)
      rw [e0, Nat.add_zero] at c0
      rw [e1'] at c1
      rw [e2'] at c2
      rw [e3'] at c3'
      have n0 : (0 : Int) < (n3 : Int) := by omega
      have n1 : (1 : Int) < (n3 : Int) := by omega
      have n2 : (2 : Int) < (n3 : Int) := by omega
      have n3' : (3 : Int) < (n3 : Int) := by omega
      have m0 : 0 < n3 := by omega
      have m1 : 1 < n3 := by omega
      have m2 : 2 < n3 := by omega
      have m3 : 3 < n3 := by omega
      have hX := four_sum h12 h23 h34 hd24
      clear hcells hS4 e0 e1' e2' e3' r4 o4
      go_wp2_with fail
      have R4d := Lib.hid R4.out.drew
      have B4d := Lib.hid B4.out.drew
      have hz4d : w3.heap.size ≤ w4.drew.heap.size := hz4
      go_still_tail 19, (by kernel_rfl)
      change wpList _ _ _ _ _ w4.drew
      rw [four_wrap hX]
      generalize 1 <<< pa + 1 <<< pb + 1 <<< pc + 1 <<< pd = X at hX ⊢
      generalize w4.drew = w5 at R4d B4d hz4d ⊢
      clear c0 c1 c2 c3' HS HB3
      go_wp2_with fail
      refine (sl4With X w5 hX).mono ?_
      rintro e w6 ⟨A6, n6, c6, rfl, o6, b6⟩
      have hn6 : n6 ≤ 759 := by have := o6.length; rw [nl_length] at this; have := octs_len (hasf X 0); omega
      have hlt6 : ∀ k, k < n6 → ∃ y : Nat, (octs (hasf X 0))[k]? = some y := fun k hk => by
        have := o6.length
        rw [nl_length] at this
        exact ⟨_, List.getElem?_eq_getElem (by omega)⟩
      generalize octs (hasf X 0) = L at o6 hlt6
      have R6 := Lib.hid (R4d.out.below b6)
      have B6 := Lib.hid (below_to B4d.out b6 (Nat.le_refl _))
      have hz6 := b6.size
      have hgi5 := R4d.out.hi
      by_cases hn0 : n6 = 0
      · subst hn0
        clear o6 b6 hlt6
        go_wp2
        go_ret2
        exact ⟨x, x, rfl, B6.out⟩
      · have e3 : ((n6 : Int) == 0) = false := by simp; omega
        have S6 := o6.sl
        have hat6 := o6.at_base
        have R6d := Lib.hid R6.out.drew
        have B6d := Lib.hid B6.out.drew
        have S6d := Lib.hid (show Sl w6.drew w6.heap.size A6 n6 c6 (nl L) from S6.drew)
        have hz6d : w6.heap.size ≤ w6.drew.heap.size := Nat.le_refl _
        have HAT := Lib.hid hat6
        clear o6 b6 S6 hat6
        have hi1' : ∀ k : Nat, k < n6 → (k : Int) < (n6 : Int) := fun k hk => by omega
        have hbl : ∀ w8, Only w6.drew w8 (some ⟨g, 0, none⟩) → Below w.heap.size w w8 := fun w8 o8 => B6d.out.trans (o8.below (by omega) (fun z hz => by injection hz with hz; subst hz; exact hgl))
        have hp1 : q + 1 ≤ 1000000 := by omega
        have hp2 : 1 ≤ n6 := by omega
        have hp3 : n6 ≤ 1000000 := by omega
        have hcell : ∀ (w8 : World) (k : Nat), Only w6.drew w8 (some ⟨g, 0, none⟩) → k < n6 → ∃ bb ob y, A6 = some ⟨bb, ob, none⟩ ∧ w8.cell? ⟨bb, ob + k, none⟩ = some (.int .i64 (y : Nat)) := fun w8 k o8 hk => by
          have S8 := S6d.out.only o8 hz6d (fun _ p1 p2 hp1 hp2 => by injection hp1 with hp1; subst hp1; have := HAT.out p2 hp2; show g ≠ p2.block; omega)
          obtain ⟨bb, ob, y, rfl, hbb, hy, hcy⟩ := S8.nat hk
          exact ⟨bb, ob, y, rfl, hcy⟩
        obtain ⟨bb, ob, y0, rfl, _⟩ := hcell w6.drew 0 (Only.refl _ _) (by omega)
        have hcell2 : ∀ (w8 : World) (k : Nat), Only w6.drew w8 (some ⟨g, 0, none⟩) → k < n6 → ∃ y : Nat, w8.cell? ⟨bb, ob + k, none⟩ = some (.int .i64 (y : Nat)) := fun w8 k o8 hk => by
          obtain ⟨b1, o1, y, e, hc⟩ := hcell w8 k o8 hk
          injection e with e
          injection e with e1 e2
          subst e1
          subst e2
          exact ⟨y, hc⟩
        have HCell := Lib.hid hcell2
        have HBl := Lib.hid hbl
        have HI := Lib.hid hi1'
        clear hcell hcell2 hbl hi1'
        go_wp2_with fail
        go_region_with (first | (go_at_call 59; refine (pick_any w.heap.size g (q + 1) n6 _ ?_ hp1 hp2 hp3).mono ?_; (exact R6d.out); rintro e w8 ⟨k, hk, rfl, r8, o8⟩; have hi0 : (0 : Int) ≤ (k : Int) := Int.natCast_nonneg _; have hi1 := HI.out k hk; obtain ⟨y, hcy⟩ := HCell.out w8 k o8 hk; have B8 := HBl.out w8 o8; clear r8 o8))
        all_goals
          have HB8 := Lib.hid B8
          clear B8
          go_wp2
          go_ret2
          exact ⟨x, y, rfl, HB8.out⟩
end Go.Proofs.Ytdomilpnhkkkiaa
