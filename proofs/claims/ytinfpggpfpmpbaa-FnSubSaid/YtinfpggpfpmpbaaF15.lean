/- The line through two of the places that a list holds. -/
import Derived.Test.YtinfpggpfpmpbaaF7
import Derived.Test.YtinfpggpfpmpbaaK1
import Derived.Test.YtinfpggpfpmpbaaB5
import Derived.Test.YtinfpggpfpmpbaaD3
import Derived.Test.YtinfpggpfpmpbaaM16
import Derived.StillTailTactics
namespace Go.Proofs.Ytinfpggpfpmpbaa
open Go.RowKit

set_option maxHeartbeats 1000000 in
theorem ifour_clo (B1 B2 gp go c b i j y z : Nat) (w : World) (h : Pts b y z) (hi : i < 4) (hj : j < 4)
    (h1 : w.cell? ⟨B1, 0, none⟩ = some (.int .i64 (b : Nat))) (h2 : w.cell? ⟨B2, 0, none⟩ = some (.slice (some ⟨gp, go, none⟩) 4 c))
    (hy : w.cell? ⟨gp, go + i, none⟩ = some (.int .i64 (y : Nat))) (hz : w.cell? ⟨gp, go + j, none⟩ = some (.int .i64 (z : Nat))) :
    Calls Try.prog 68 #[.int .i64 i, .int .i64 j, .pointer (some ⟨B1, 0, none⟩), .pointer (some ⟨B2, 0, none⟩)] w fun e w' => e = .returned (.int .i64 (thr b y z : Nat)) ∧ Below w.heap.size w w' := by
  have hxl := or_lt (one_shl_lt h.hp) (one_shl_lt h.hq)
  have HL := Lib.hid (fun W => ilines b (1 <<< y ||| 1 <<< z) W h.hb hxl (pts_disj h))
  have HLi := Lib.hid (thr_list h)
  have hx64 : y ≤ 64 := by have := h.hp; omega
  have hy64 : z ≤ 64 := by have := h.hq; omega
  have HS1 := Lib.hid (two_or h.hp h.hq)
  have HS2 := Lib.hid (two_or64 h.hp h.hq)
  have i0 : (0 : Int) ≤ (i : Int) := Int.natCast_nonneg _
  have i1 : (i : Int) < 4 := by omega
  have j0 : (0 : Int) ≤ (j : Int) := Int.natCast_nonneg _
  have j1 : (j : Int) < 4 := by omega
  rw [HLi.out] at HL
  clear h hxl
  go_enter Try.func68, Try.ntmps68
  go_wp2_with fail
  go_still_tail 12, (by kernel_rfl)
  change wpList _ _ _ _ _ w.drew
  have B0 := Lib.hid (Below.drew (Below.refl w.heap.size w))
  generalize w.drew = w5 at B0 ⊢
  (first | rw [Nat.min_eq_left hx64, Nat.min_eq_left hy64, HS1.out] | rw [HS1.out] | rw [HS2.out])
  clear h1 h2 hy hz
  go_wp2_with fail
  refine (HL.out w5).mono ?_
  rintro e w1 ⟨A1, n1, c1, rfl, o1, b1⟩
  obtain rfl : n1 = 1 := o1.length.symm
  obtain ⟨b', o, u, rfl, hb', hu, hc⟩ := o1.sl.nat (k := 0) (by decide)
  obtain rfl : thr b y z = u := by simpa using hu
  rw [Nat.add_zero] at hc
  have HB1 := Lib.hid (B0.out.trans (b1.mono B0.out.size))
  clear hu o1 b1
  go_wp2
  go_ret
  exact ⟨rfl, HB1.out⟩

/-- What 'PlaneFour' answers. -/
def fourOk (b x : Int) : Bool := spreadZ b x && decide (wt x.toNat = 4)
def fourR (b x : Int) : Nat := if fourOk b x then frOf b.toNat ((pl x.toNat).getD 0 0) ((pl x.toNat).getD 1 0) ((pl x.toNat).getD 2 0) ((pl x.toNat).getD 3 0) else 0
theorem four_no {b x : Int} (h : spreadZ b x = false ∨ wt x.toNat ≠ 4) : fourOk b x = false ∧ fourR b x = 0 := by
  have h1 : fourOk b x = false := by unfold fourOk; rcases h with h | h <;> simp [h]
  exact ⟨h1, by unfold fourR; rw [h1]; exact if_neg (by decide)⟩
theorem spread_nats {x y : Int} (h : spreadZ x y = true) : ∃ b u : Nat, x = b ∧ y = u ∧ b < 16777216 ∧ wt b = 3 ∧ u < 16777216 ∧ u &&& b = 0 ∧ Thin b u := by
  have h' := h
  unfold spreadZ at h'
  simp only [Bool.and_eq_true, decide_eq_true_eq] at h'
  obtain ⟨b, rfl, hb, h3⟩ := baseZ_nat h'.1
  have h2 : ∃ u : Nat, y = u ∧ u < 16777216 := by
    rcases word_cases y with h4 | h4
    · exact h4
    · rw [spread_no2 (valid_no h4)] at h; cases h
  obtain ⟨u, rfl, hu⟩ := h2
  have h4 := h'.2.2
  rw [Int.toNat_natCast, Int.toNat_natCast] at h4
  exact ⟨b, u, rfl, rfl, hb, h3, hu, h4.1, (thinL_iff hb).1 h4.2⟩
theorem four_nat {b x : Int} (h : fourOk b x = true) : ∃ t u p0 p1 p2 p3 : Nat, b = t ∧ x = u ∧ t < 16777216 ∧ wt t = 3 ∧ u < 16777216 ∧ pl u = [p0, p1, p2, p3] ∧ u = four p0 p1 p2 p3 ∧ Quad t p0 p1 p2 p3 ∧ fourR b x = frOf t p0 p1 p2 p3 := by
  have h' := h
  unfold fourOk at h'
  rw [Bool.and_eq_true, decide_eq_true_eq] at h'
  obtain ⟨t, u, rfl, rfl, ht, h3, hu, hd, hth⟩ := spread_nats h'.1
  obtain ⟨p0, p1, p2, p3, hp, he, hq⟩ := quad_of ht h3 hu h'.2 hd hth
  refine ⟨t, u, p0, p1, p2, p3, rfl, rfl, ht, h3, hu, hp, he, hq, ?_⟩
  unfold fourR
  rw [if_pos h, Int.toNat_natCast, Int.toNat_natCast, hp]
  rfl
/-- The two boxes that the line's function holds, and the places. -/
structure Box (w : World) (B1 B2 gp c b p0 p1 p2 p3 : Nat) : Prop where
  l1 : B1 < w.heap.size
  l2 : B2 < w.heap.size
  l3 : gp < w.heap.size
  h1 : w.cell? ⟨B1, 0, none⟩ = some (.int .i64 (b : Nat))
  h2 : w.cell? ⟨B2, 0, none⟩ = some (.slice (some ⟨gp, 0, none⟩) 4 c)
  q0 : w.cell? ⟨gp, 0 + 0, none⟩ = some (.int .i64 (p0 : Nat))
  q1 : w.cell? ⟨gp, 0 + 1, none⟩ = some (.int .i64 (p1 : Nat))
  q2 : w.cell? ⟨gp, 0 + 2, none⟩ = some (.int .i64 (p2 : Nat))
  q3 : w.cell? ⟨gp, 0 + 3, none⟩ = some (.int .i64 (p3 : Nat))
theorem Box.below {w w1 : World} {B1 B2 gp c b p0 p1 p2 p3 : Nat} (h : Box w B1 B2 gp c b p0 p1 p2 p3) (k : Below w.heap.size w w1) : Box w1 B1 B2 gp c b p0 p1 p2 p3 :=
  ⟨Nat.lt_of_lt_of_le h.l1 k.size, Nat.lt_of_lt_of_le h.l2 k.size, Nat.lt_of_lt_of_le h.l3 k.size, (k.cell (p := ⟨B1, 0, none⟩) h.l1).trans h.h1, (k.cell (p := ⟨B2, 0, none⟩) h.l2).trans h.h2,
    (k.cell (p := ⟨gp, 0 + 0, none⟩) h.l3).trans h.q0, (k.cell (p := ⟨gp, 0 + 1, none⟩) h.l3).trans h.q1, (k.cell (p := ⟨gp, 0 + 2, none⟩) h.l3).trans h.q2, (k.cell (p := ⟨gp, 0 + 3, none⟩) h.l3).trans h.q3⟩

set_option maxHeartbeats 1000000 in
theorem iPlaneFour (b x : Int) (w : World) :
    Calls Try.prog 23 #[.int .i64 b, .int .i64 x] w fun e w' => e = .returned (.tuple #[.int .i64 (fourR b x : Nat), .bool (fourOk b x)]) ∧ Below w.heap.size w w' := by
  have b0 : Below w.heap.size w (w.alloc (.cells #[.int .i64 b] 3)) := (Below.refl _ _).alloc (Nat.le_refl _) _
  have hcb : (w.alloc (.cells #[.int .i64 b] 3)).cell? ⟨w.heap.size, 0, none⟩ = some (.int .i64 b) := by rw [World.cell?_alloc_at _ _ _ _ rfl]; rfl
  have hsz0 : w.heap.size < (w.alloc (.cells #[.int .i64 b] 3)).heap.size := by simp
  have HI := Lib.hid (ispread b x (w.alloc (.cells #[.int .i64 b] 3)))
  have B0 := Lib.hid b0
  clear b0
  cases hs : spreadZ b x with
  | false =>
    rw [hs] at HI
    have HR := Lib.hid (four_no (.inl hs))
    clear hs hsz0
    go_enter Try.func23, Try.ntmps23
    go_wp2_with fail
    refine HI.out.mono ?_
    rintro e w1 ⟨rfl, b1⟩
    have HB := Lib.hid (below_to B0.out b1 (Nat.le_refl _))
    clear b1
    go_wp2
    go_ret2
    rw [HR.out.1, HR.out.2]
    exact ⟨rfl, HB.out⟩
  | true =>
    rw [hs] at HI
    obtain ⟨t, u, rfl, rfl, ht, h3, hu, hd, hth⟩ := spread_nats hs
    have HW := Lib.hid (fun W => iweight u W hu)
    by_cases h4 : wt u = 4
    · have hok : fourOk (t : Int) (u : Int) = true := by unfold fourOk; rw [hs, Int.toNat_natCast, h4]; rfl
      obtain ⟨t', u', p0, p1, p2, p3, e1, e2, -, -, -, hp, -, hq, hr⟩ := four_nat hok
      obtain rfl : t = t' := Int.ofNat.inj e1
      obtain rfl : u = u' := Int.ofNat.inj e2
      have HR := Lib.hid (And.intro hok hr)
      rw [h4] at HW
      have HP := Lib.hid (fun W => placesOf_any u W hu)
      rw [hp] at HP
      have HQ := Lib.hid hq
      have l01 := line_lt ht (thr_spec hq.p01).1
      have l02 := line_lt ht (thr_spec hq.p02).1
      have l03 := line_lt ht (thr_spec hq.p03).1
      have l12 := line_lt ht (thr_spec hq.p12).1
      have l13 := line_lt ht (thr_spec hq.p13).1
      have l23 := line_lt ht (thr_spec hq.p23).1
      clear hs h3 hd hth h4 hok hp hq hr e1 e2
      go_enter Try.func23, Try.ntmps23
      go_wp2_with fail
      refine HI.out.mono ?_
      rintro e w1 ⟨rfl, b1⟩
      have hc1 := (b1.cell (p := ⟨w.heap.size, 0, none⟩) hsz0).trans hcb
      have hsz1 := Nat.lt_of_lt_of_le hsz0 b1.size
      go_wp2_with fail
      refine (HW.out w1).mono ?_
      rintro e w' ⟨rfl, rfl⟩
      go_wp2_with fail
      refine (HP.out w1).mono ?_
      rintro e w2 ⟨A2, n2, c2, rfl, o2, b2⟩
      obtain rfl : n2 = 4 := by have := o2.length; simp [nl] at this; omega
      obtain ⟨gp, rfl, -, hgp⟩ := o2.form (by decide)
      have hc2 := (b2.cell (p := ⟨w.heap.size, 0, none⟩) hsz1).trans hc1
      have hsz2 := Nat.lt_of_lt_of_le hsz1 b2.size
      have S2 := Lib.hid o2.sl
      have B2 := Lib.hid (below_to (below_to B0.out b1 (Nat.le_refl _)) b2 (Nat.le_refl _))
      clear b1 b2 o2 hc1 hcb
      have hb3 : Below w2.heap.size w2 (w2.alloc (.cells #[.slice (some ⟨gp, 0, none⟩) 4 c2] 22)) := (Below.refl _ _).alloc (Nat.le_refl _) _
      have hbox : Box (w2.alloc (.cells #[.slice (some ⟨gp, 0, none⟩) 4 c2] 22)) w.heap.size w2.heap.size gp c2 t p0 p1 p2 p3 := by
        obtain ⟨b', o', e', _, hc⟩ := S2.out.nats (by decide)
        injection e' with e'
        injection e' with e1 e2
        subst e1
        subst e2
        refine ⟨Nat.lt_of_lt_of_le hsz2 hb3.size, by simp, Nat.lt_of_lt_of_le hgp hb3.size, (hb3.cell (p := ⟨w.heap.size, 0, none⟩) hsz2).trans hc2, by rw [World.cell?_alloc_at _ _ _ _ rfl]; rfl, ?_, ?_, ?_, ?_⟩
        · exact (hb3.cell (p := ⟨gp, 0 + 0, none⟩) hgp).trans (hc 0 (by decide))
        · exact (hb3.cell (p := ⟨gp, 0 + 1, none⟩) hgp).trans (hc 1 (by decide))
        · exact (hb3.cell (p := ⟨gp, 0 + 2, none⟩) hgp).trans (hc 2 (by decide))
        · exact (hb3.cell (p := ⟨gp, 0 + 3, none⟩) hgp).trans (hc 3 (by decide))
      have BX0 := Lib.hid hbox
      have BB0 := Lib.hid (B2.out.trans (hb3.mono B2.out.size))
      have a1 := i64_and (thr t p0 p1) (thr t p2 p3) (by omega) (by omega)
      have a2 := i64_and (thr t p0 p2) (thr t p1 p3) (by omega) (by omega)
      have a3 := i64_and (thr t p0 p3) (thr t p1 p2) (by omega) (by omega)
      have m1 := and_lt (b := thr t p2 p3) l01
      have m2 := and_lt (b := thr t p1 p3) l02
      have m3 := and_lt (b := thr t p1 p2) l03
      have o1' := i64_or (thr t p0 p1 &&& thr t p2 p3) (thr t p0 p2 &&& thr t p1 p3) (by omega) (by omega)
      have m4 := or_lt m1 m2
      have o2' := i64_or (thr t p0 p1 &&& thr t p2 p3 ||| thr t p0 p2 &&& thr t p1 p3) (thr t p0 p3 &&& thr t p1 p2) (by omega) (by omega)
      clear hb3 hbox hc2 S2
      go_wp2_with fail
      refine (ifour_clo w.heap.size w2.heap.size gp 0 c2 t 0 1 p0 p1 (w2.alloc (.cells #[.slice (some ⟨gp, 0, none⟩) 4 c2] 22)) HQ.out.p01 (by decide) (by decide) BX0.out.h1 BX0.out.h2 BX0.out.q0 BX0.out.q1).mono ?_
      rintro e v1 ⟨rfl, d1⟩
      have BX1 := Lib.hid (BX0.out.below d1)
      have BB1 := Lib.hid (below_to BB0.out d1 (Nat.le_refl _))
      clear d1 BX0 BB0
      go_wp2_with fail
      refine (ifour_clo w.heap.size w2.heap.size gp 0 c2 t 2 3 p2 p3 v1 HQ.out.p23 (by decide) (by decide) BX1.out.h1 BX1.out.h2 BX1.out.q2 BX1.out.q3).mono ?_
      rintro e v2 ⟨rfl, d2⟩
      have BX2 := Lib.hid (BX1.out.below d2)
      have BB2 := Lib.hid (below_to BB1.out d2 (Nat.le_refl _))
      clear d2 BX1 BB1
      go_wp2_with fail
      refine (ifour_clo w.heap.size w2.heap.size gp 0 c2 t 0 2 p0 p2 v2 HQ.out.p02 (by decide) (by decide) BX2.out.h1 BX2.out.h2 BX2.out.q0 BX2.out.q2).mono ?_
      rintro e v3 ⟨rfl, d3⟩
      have BX3 := Lib.hid (BX2.out.below d3)
      have BB3 := Lib.hid (below_to BB2.out d3 (Nat.le_refl _))
      clear d3 BX2 BB2
      go_wp2_with fail
      refine (ifour_clo w.heap.size w2.heap.size gp 0 c2 t 1 3 p1 p3 v3 HQ.out.p13 (by decide) (by decide) BX3.out.h1 BX3.out.h2 BX3.out.q1 BX3.out.q3).mono ?_
      rintro e v4 ⟨rfl, d4⟩
      have BX4 := Lib.hid (BX3.out.below d4)
      have BB4 := Lib.hid (below_to BB3.out d4 (Nat.le_refl _))
      clear d4 BX3 BB3
      go_wp2_with fail
      refine (ifour_clo w.heap.size w2.heap.size gp 0 c2 t 0 3 p0 p3 v4 HQ.out.p03 (by decide) (by decide) BX4.out.h1 BX4.out.h2 BX4.out.q0 BX4.out.q3).mono ?_
      rintro e v5 ⟨rfl, d5⟩
      have BX5 := Lib.hid (BX4.out.below d5)
      have BB5 := Lib.hid (below_to BB4.out d5 (Nat.le_refl _))
      clear d5 BX4 BB4
      go_wp2_with fail
      refine (ifour_clo w.heap.size w2.heap.size gp 0 c2 t 1 2 p1 p2 v5 HQ.out.p12 (by decide) (by decide) BX5.out.h1 BX5.out.h2 BX5.out.q1 BX5.out.q2).mono ?_
      rintro e v6 ⟨rfl, d6⟩
      have BX6 := Lib.hid (BX5.out.below d6)
      have BB6 := Lib.hid (below_to BB5.out d6 (Nat.le_refl _))
      clear d6 BX5 BB5
      go_wp2
      go_ret2
      rw [HR.out.1, HR.out.2]
      exact ⟨rfl, BB6.out⟩
    · have HR := Lib.hid (four_no (b := (t : Int)) (x := (u : Int)) (.inr h4))
      have e1 : ((wt u : Int) != 4) = true := by simp; omega
      clear hs h3 hd hth h4 hsz0
      go_enter Try.func23, Try.ntmps23
      go_wp2_with fail
      refine HI.out.mono ?_
      rintro e w1 ⟨rfl, b1⟩
      go_wp2_with fail
      refine (HW.out w1).mono ?_
      rintro e w' ⟨rfl, rfl⟩
      have HB := Lib.hid (below_to B0.out b1 (Nat.le_refl _))
      clear b1
      go_wp2
      go_ret2
      rw [HR.out.1, HR.out.2]
      exact ⟨rfl, HB.out⟩

theorem Grown.drew2 {w w1 : World} (h : Grown w w1) : Grown w w1.drew := h.more (Below.drew (Below.refl _ _))

set_option maxHeartbeats 2000000 in
theorem sPlaneFour (b x : Int) (w : World) :
    Calls Try.prog 22 #[.int .i64 b, .int .i64 x] w fun e w' => e = .returned (.tuple #[.int .i64 (fourR b x : Nat), .bool (fourOk b x)]) ∧ Below w.heap.size w w' := by
  cases hb : baseZ b with
  | false =>
    have HB := Lib.hid (fun W => sbase_is b _ hb W)
    have HR := Lib.hid (four_no (.inl (spread_no1 (x := x) hb)))
    clear hb
    go_enter Try.func22, Try.ntmps22
    go_wp2_with fail
    refine (HB.out _).mono ?_
    rintro e w' ⟨rfl, rfl⟩
    go_wp2
    go_ret2
    rw [HR.out.1, HR.out.2]
    exact ⟨rfl, Below.refl _ _⟩
  | true =>
    have HB := Lib.hid (fun W => sbase_is b _ hb W)
    obtain ⟨t, rfl, ht, h3⟩ := baseZ_nat hb
    rcases word_cases x with ⟨u, rfl, hu⟩ | hx
    · have HV := Lib.hid (fun W => sWordValid_yes u W hu)
      have HW := Lib.hid (fun W => sweight u W hu)
      by_cases h4 : wt u = 4
      · rw [h4] at HW
        have hand := i64_and u t (by omega) (by omega)
        by_cases hd : u &&& t = 0
        · rw [hd] at hand
          have hand' : bits .and .i64 (u : Int) (t : Int) = 0 := hand
          have hse := spread_eq ht h3 hu hd
          have HLN := Lib.hid (fun W => slines t W ht h3)
          have hlen := lines_21 ht h3
          have HTH := Lib.hid (fun (A1 : Option Addr) (c1 : Nat) W (s : Sl W W.heap.size A1 21 c1 (nl (lns t 0))) => sthin _ A1 21 c1 (lns t 0) u W s (fun k y hy => lns_at ht hy) hu (by decide))
          cases hth : thinL u (lns t 0) with
          | false =>
            rw [hth] at HTH
            have HR := Lib.hid (four_no (b := (t : Int)) (x := (u : Int)) (.inl (by rw [hse]; exact hth)))
            clear hb h4 hd hse hth hand
            go_enter Try.func22, Try.ntmps22
            go_wp2_with fail
            refine (HB.out _).mono ?_
            rintro e w' ⟨rfl, rfl⟩
            go_wp2_with fail
            refine (HV.out _).mono ?_
            rintro e w' ⟨rfl, rfl⟩
            go_wp2_with fail
            refine (HW.out _).mono ?_
            rintro e w' ⟨rfl, rfl⟩
            go_wp2_with fail
            refine (HLN.out _).mono ?_
            rintro e w3 ⟨A1, n1, c1, rfl, o1, b1⟩
            obtain rfl : n1 = 21 := by have := o1.length; rw [nl_length, hlen] at this; omega
            have HT := Lib.hid (HTH.out A1 c1 w3 o1.sl)
            have B1 := Lib.hid b1
            clear o1 b1
            go_wp2_with fail
            refine HT.out.mono ?_
            rintro e w' ⟨rfl, rfl⟩
            go_wp2
            go_ret2
            rw [HR.out.1, HR.out.2]
            exact ⟨rfl, B1.out⟩
          | true =>
            rw [hth] at HTH
            have hok : fourOk (t : Int) (u : Int) = true := by unfold fourOk; rw [hse, hth, Int.toNat_natCast, h4]; rfl
            obtain ⟨t', u', p0, p1, p2, p3, e1, e2, -, -, -, hp, -, hq, hr⟩ := four_nat hok
            obtain rfl : t = t' := Int.ofNat.inj e1
            obtain rfl : u = u' := Int.ofNat.inj e2
            have HR := Lib.hid (And.intro hok hr)
            have HP := Lib.hid (fun W => sl1Places u W hu)
            rw [hp] at HP
            have HQ := Lib.hid hq
            have l01 := line_lt ht (thr_spec hq.p01).1
            have l02 := line_lt ht (thr_spec hq.p02).1
            have l03 := line_lt ht (thr_spec hq.p03).1
            have l12 := line_lt ht (thr_spec hq.p12).1
            have l13 := line_lt ht (thr_spec hq.p13).1
            have l23 := line_lt ht (thr_spec hq.p23).1
            have a1 := i64_and (thr t p0 p1) (thr t p2 p3) (by omega) (by omega)
            have a2 := i64_and (thr t p0 p2) (thr t p1 p3) (by omega) (by omega)
            have a3 := i64_and (thr t p0 p3) (thr t p1 p2) (by omega) (by omega)
            have m1 := and_lt (b := thr t p2 p3) l01
            have m2 := and_lt (b := thr t p1 p3) l02
            have m3 := and_lt (b := thr t p1 p2) l03
            have o1' := i64_or (thr t p0 p1 &&& thr t p2 p3) (thr t p0 p2 &&& thr t p1 p3) (by omega) (by omega)
            have m4 := or_lt m1 m2
            have o2' := i64_or (thr t p0 p1 &&& thr t p2 p3 ||| thr t p0 p2 &&& thr t p1 p3) (thr t p0 p3 &&& thr t p1 p2) (by omega) (by omega)
            clear hb h4 hd hse hth hand h3 hok hp hq hr e1 e2
            go_enter Try.func22, Try.ntmps22
            go_wp2_with fail
            refine (HB.out _).mono ?_
            rintro e w' ⟨rfl, rfl⟩
            go_wp2_with fail
            refine (HV.out _).mono ?_
            rintro e w' ⟨rfl, rfl⟩
            go_wp2_with fail
            refine (HW.out _).mono ?_
            rintro e w' ⟨rfl, rfl⟩
            go_wp2_with fail
            refine (HLN.out _).mono ?_
            rintro e w3 ⟨A1, n1, c1, rfl, o1, b1⟩
            obtain rfl : n1 = 21 := by have := o1.length; rw [nl_length, hlen] at this; omega
            have HT := Lib.hid (HTH.out A1 c1 w3 o1.sl)
            go_wp2_with fail
            refine HT.out.mono ?_
            rintro e w' ⟨rfl, rfl⟩
            go_wp2_with fail
            refine (HP.out w3).mono ?_
            rintro e w4 ⟨A2, n2, c2, rfl, o2, b2⟩
            obtain rfl : n2 = 4 := by have := o2.length; simp [nl] at this; omega
            obtain ⟨gp, rfl, -, hgp⟩ := o2.form (by decide)
            have S1 := Lib.hid (((o1.sl.below b2).more b2.size))
            have B4 := Lib.hid (below_to b1 b2 (Nat.le_refl _))
            obtain ⟨b', o', e', _, hc⟩ := o2.sl.nats (by decide)
            injection e' with e'
            injection e' with e1 e2
            subst e1
            subst e2
            have k0 : ∀ w2, Grown w4 w2 → w2.cell? ⟨gp, 0, none⟩ = some (.int .i64 (p0 : Nat)) := fun w2 g => g.cell hgp (hc 0 (by decide))
            have k1 : ∀ w2, Grown w4 w2 → w2.cell? ⟨gp, 1, none⟩ = some (.int .i64 (p1 : Nat)) := fun w2 g => g.cell hgp (hc 1 (by decide))
            have k2 : ∀ w2, Grown w4 w2 → w2.cell? ⟨gp, 2, none⟩ = some (.int .i64 (p2 : Nat)) := fun w2 g => g.cell hgp (hc 2 (by decide))
            have k3 : ∀ w2, Grown w4 w2 → w2.cell? ⟨gp, 3, none⟩ = some (.int .i64 (p3 : Nat)) := fun w2 g => g.cell hgp (hc 3 (by decide))
            have hfin : ∀ w2, Grown w4 w2 → Below w.heap.size w w2 := fun w2 g => g.below B4.out
            clear o1 b1 o2 b2 hc HT
            go_wp2_with fail
            refine region_class (Grown w4) (by kernel_rfl) (by kernel_rfl) (Grown.drew _) ?_
            repeat (refine WQ_step (fun K hK => ?_); go_simp; first | (refine hK _ ?_; clear hK K) | (apply Exists.intro; refine ⟨fun w2 hw2 => ?_, hK _ ?_⟩; (first | (with_reducible rfl) | (rw [k0 w2 hw2]; exact ⟨rfl, rfl⟩) | (rw [k1 w2 hw2]; exact ⟨rfl, rfl⟩) | (rw [k2 w2 hw2]; exact ⟨rfl, rfl⟩) | (rw [k3 w2 hw2]; exact ⟨rfl, rfl⟩) | (with_reducible exact hw2.call (sthrough _ _ c1 t p0 p1 w2 (hw2.sl S1.out) HQ.out.p01)) | (with_reducible exact hw2.call (sthrough _ _ c1 t p2 p3 w2 (hw2.sl S1.out) HQ.out.p23))); clear hK K))
            refine WQ_nil ?_
            intro w5 hw5
            go_wp2_with fail
            refine region_class (Grown w4) (by kernel_rfl) (by kernel_rfl) hw5.drew2 ?_
            repeat (refine WQ_step (fun K hK => ?_); go_simp; first | (refine hK _ ?_; clear hK K) | (apply Exists.intro; refine ⟨fun w2 hw2 => ?_, hK _ ?_⟩; (first | (with_reducible rfl) | (rw [k0 w2 hw2]; exact ⟨rfl, rfl⟩) | (rw [k1 w2 hw2]; exact ⟨rfl, rfl⟩) | (rw [k2 w2 hw2]; exact ⟨rfl, rfl⟩) | (rw [k3 w2 hw2]; exact ⟨rfl, rfl⟩) | (with_reducible exact hw2.call (sthrough _ _ c1 t p0 p2 w2 (hw2.sl S1.out) HQ.out.p02)) | (with_reducible exact hw2.call (sthrough _ _ c1 t p1 p3 w2 (hw2.sl S1.out) HQ.out.p13))); clear hK K))
            refine WQ_nil ?_
            intro w6 hw6
            go_wp2_with fail
            refine region_class (Grown w4) (by kernel_rfl) (by kernel_rfl) hw6.drew2 ?_
            repeat (refine WQ_step (fun K hK => ?_); go_simp; first | (refine hK _ ?_; clear hK K) | (apply Exists.intro; refine ⟨fun w2 hw2 => ?_, hK _ ?_⟩; (first | (with_reducible rfl) | (rw [k0 w2 hw2]; exact ⟨rfl, rfl⟩) | (rw [k1 w2 hw2]; exact ⟨rfl, rfl⟩) | (rw [k2 w2 hw2]; exact ⟨rfl, rfl⟩) | (rw [k3 w2 hw2]; exact ⟨rfl, rfl⟩) | (with_reducible exact hw2.call (sthrough _ _ c1 t p0 p3 w2 (hw2.sl S1.out) HQ.out.p03)) | (with_reducible exact hw2.call (sthrough _ _ c1 t p1 p2 w2 (hw2.sl S1.out) HQ.out.p12))); clear hK K))
            refine WQ_nil ?_
            intro w7 hw7
            have HF := Lib.hid (hfin w7 hw7)
            clear k0 k1 k2 k3 hfin hw5 hw6 hw7
            go_wp2
            go_ret2
            rw [HR.out.1, HR.out.2]
            exact ⟨rfl, HF.out⟩
        · have HR := Lib.hid (four_no (b := (t : Int)) (x := (u : Int)) (.inl (spread_no3 hd)))
          have e1 : (((u &&& t : Nat) : Int) != 0) = true := by simp; omega
          clear hb h4 hd h3
          go_enter Try.func22, Try.ntmps22
          go_wp2_with fail
          refine (HB.out _).mono ?_
          rintro e w' ⟨rfl, rfl⟩
          go_wp2_with fail
          refine (HV.out _).mono ?_
          rintro e w' ⟨rfl, rfl⟩
          go_wp2_with fail
          refine (HW.out _).mono ?_
          rintro e w' ⟨rfl, rfl⟩
          go_wp2
          go_ret2
          rw [HR.out.1, HR.out.2]
          exact ⟨rfl, Below.refl _ _⟩
      · have HR := Lib.hid (four_no (b := (t : Int)) (x := (u : Int)) (.inr h4))
        have e1 : ((wt u : Int) != 4) = true := by simp; omega
        clear hb h4 h3
        go_enter Try.func22, Try.ntmps22
        go_wp2_with fail
        refine (HB.out _).mono ?_
        rintro e w' ⟨rfl, rfl⟩
        go_wp2_with fail
        refine (HV.out _).mono ?_
        rintro e w' ⟨rfl, rfl⟩
        go_wp2_with fail
        refine (HW.out _).mono ?_
        rintro e w' ⟨rfl, rfl⟩
        go_wp2
        go_ret2
        rw [HR.out.1, HR.out.2]
        exact ⟨rfl, Below.refl _ _⟩
    · have HV := Lib.hid (fun W => sWordValid_no x W hx)
      have HR := Lib.hid (four_no (b := (t : Int)) (.inl (spread_no2 (valid_no hx))))
      clear hb h3
      go_enter Try.func22, Try.ntmps22
      go_wp2_with fail
      refine (HB.out _).mono ?_
      rintro e w' ⟨rfl, rfl⟩
      go_wp2_with fail
      refine (HV.out _).mono ?_
      rintro e w' ⟨rfl, rfl⟩
      go_wp2
      go_ret2
      rw [HR.out.1, HR.out.2]
      exact ⟨rfl, Below.refl _ _⟩

/-- What 'PlaneSub' answers. -/
def subR (b x : Int) : Nat := if fourOk b x then fourR b x ||| x.toNat else 0
theorem sub_no {b x : Int} (h : fourOk b x = false) : subR b x = 0 ∧ fourR b x = 0 := ⟨by unfold subR; rw [h]; exact if_neg (by decide), by unfold fourR; rw [h]; exact if_neg (by decide)⟩
theorem sub_yes {b : Int} {u : Nat} (h : fourOk b (u : Int) = true) : subR b (u : Int) = fourR b (u : Int) ||| u := by unfold subR; rw [if_pos h, Int.toNat_natCast]
theorem four_lt {b x : Int} (h : fourOk b x = true) : ∃ u : Nat, x = u ∧ u < 16777216 ∧ fourR b x < 16777216 := by
  obtain ⟨t, u, p0, p1, p2, p3, rfl, rfl, ht, h3, hu, hp, he, hq, hr⟩ := four_nat h
  exact ⟨u, rfl, hu, by rw [hr]; exact (frOf_facts hq).1⟩

theorem iPlaneSub (b x : Int) (w : World) :
    Calls Try.prog 25 #[.int .i64 b, .int .i64 x] w fun e w' => e = .returned (.tuple #[.int .i64 (subR b x : Nat), .bool (fourOk b x)]) ∧ Below w.heap.size w w' := by
  have HF := Lib.hid (iPlaneFour b x w)
  cases hv : fourOk b x with
  | false =>
    rw [hv, (sub_no hv).2] at HF
    have HR := Lib.hid (sub_no hv).1
    clear hv
    go_enter Try.func25, Try.ntmps25
    go_wp2_with fail
    refine HF.out.mono ?_
    rintro e w1 ⟨rfl, b1⟩
    have HB := Lib.hid b1
    clear b1
    go_wp2
    go_ret2
    rw [HR.out]
    exact ⟨rfl, HB.out⟩
  | true =>
    rw [hv] at HF
    obtain ⟨u, rfl, hu, hr⟩ := four_lt hv
    have HR := Lib.hid (sub_yes hv)
    clear hv
    generalize fourR b (u : Int) = r at HF HR hr
    have hor : bits .or .i64 (u : Int) (r : Int) = ((r ||| u : Nat) : Int) := by rw [Nat.or_comm]; exact i64_or u r (by omega) (by omega)
    go_enter Try.func25, Try.ntmps25
    go_wp2_with fail
    refine HF.out.mono ?_
    rintro e w1 ⟨rfl, b1⟩
    have HB := Lib.hid b1
    clear b1
    go_wp2
    go_ret2
    rw [HR.out]
    exact ⟨rfl, HB.out⟩

theorem sPlaneSub (b x : Int) (w : World) :
    Calls Try.prog 24 #[.int .i64 b, .int .i64 x] w fun e w' => e = .returned (.tuple #[.int .i64 (subR b x : Nat), .bool (fourOk b x)]) ∧ Below w.heap.size w w' := by
  have HF := Lib.hid (sPlaneFour b x w)
  cases hv : fourOk b x with
  | false =>
    rw [hv, (sub_no hv).2] at HF
    have HR := Lib.hid (sub_no hv).1
    clear hv
    go_enter Try.func24, Try.ntmps24
    go_wp2_with fail
    refine HF.out.mono ?_
    rintro e w1 ⟨rfl, b1⟩
    have HB := Lib.hid b1
    clear b1
    go_wp2
    go_ret2
    rw [HR.out]
    exact ⟨rfl, HB.out⟩
  | true =>
    rw [hv] at HF
    obtain ⟨u, rfl, hu, hr⟩ := four_lt hv
    have HR := Lib.hid (sub_yes hv)
    clear hv
    generalize fourR b (u : Int) = r at HF HR hr
    have hor := i64_or r u (by omega) (by omega)
    go_enter Try.func24, Try.ntmps24
    go_wp2_with fail
    refine HF.out.mono ?_
    rintro e w1 ⟨rfl, b1⟩
    have HB := Lib.hid b1
    clear b1
    go_wp2
    go_ret2
    rw [HR.out]
    exact ⟨rfl, HB.out⟩
end Go.Proofs.Ytinfpggpfpmpbaa
