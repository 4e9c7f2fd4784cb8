import Derived.Test.YtmboaaopmjmdnaaC4
import Derived.Test.YtmboaaopmjmdnaaM10
namespace Go.Proofs.Ytmboaaopmjmdnaa
open Go.RowKit

theorem nl_getD (l : List Nat) (j : Nat) : (nl l).getD j 0 = ((l.getD j 0 : Nat) : Int) := by
  rw [List.getD_eq_getElem?_getD, List.getD_eq_getElem?_getD, nl_get]
  cases l[j]? <;> rfl
/-- All cells of a slice that reads as a list of naturals. -/
theorem Sl.nats {w : World} {B : Nat} {A : Option Addr} {n cap : Nat} {l : List Nat} (h : Sl w B A n cap (nl l)) (hn : 0 < n) :
    ∃ b o, A = some ⟨b, o, none⟩ ∧ b < B ∧ ∀ j, j < n → w.cell? ⟨b, o + j, none⟩ = some (.int .i64 ((l.getD j 0 : Nat) : Int)) := by
  obtain ⟨b, o, e, hb, hc⟩ := h.at_ hn
  exact ⟨b, o, e, hb, fun j hj => by rw [hc j hj, nl_getD]⟩

theorem irowsWith (s p f : Nat) (w : World) (hs : s < 4) (hp : p < 2) (hf : f < 2) :
    Calls Try.prog 63 #[.int .i64 s, .int .i64 p, .int .i64 f] w fun e w' => e = .returned (.int .i64 (tbl s p f)) ∧ w = w' := by
  have ht := (tbl_all s hs p hp f hf).1
  have HT := Lib.hid (tbl_first hs hp hf)
  go_enter Try.func63, Try.ntmps63
  go_wp2
  go_loop [8] (fun i => ∃ k : Nat, k ≤ tbl s p f ∧ i = .int .i64 k) (fun i => 16 - (intOf i).toNat)
  case atStart => exact ⟨0, Nat.zero_le _, rfl⟩
  case round =>
    obtain ⟨k, hk, rfl⟩ := hrel
    have hk16 : k < 16 := by omega
    have hb := bt_le k 0
    have hbit : bits .and .i64 (k : Int) 1 = (bt k 0 : Int) := by
      have := i64_bit k 0 (by omega)
      rwa [Int.pow_zero, Int.ediv_one] at this
    have hw := wt_le k
    have hsc : scr k < 4 := scr_all k hk16
    by_cases h1 : bt k 0 = f
    · have e1 : ((bt k 0 : Int) == (f : Int)) = true := by rw [int_beq]; simp [h1]
      by_cases h2 : wt k % 2 = p
      · have e2 : ((wt k : Int) % 2 == (p : Int)) = true := by rw [show (wt k : Int) % 2 = ((wt k % 2 : Nat) : Int) from by omega, int_beq]; simp [h2]
        by_cases h3 : scr k = s
        · have e3 : ((scr k : Int) == (s : Int)) = true := by rw [int_beq]; simp [h3]
          have HK := Lib.hid ((HT.out k hk16).2 ⟨h1, h2, h3⟩)
          clear h1 h2 h3
          go_wp2_with (first | (go_at_call 23; refine (iweight _ _ (by omega)).mono ?_; rintro e w' ⟨rfl, rfl⟩) | (go_at_call 51; refine (iscore _ _ (by omega)).mono ?_; rintro e w' ⟨rfl, rfl⟩))
          go_ret
          rw [← HK.out]
          exact ⟨rfl, rfl⟩
        · have e3 : ((scr k : Int) == (s : Int)) = false := by rw [int_beq]; simp [h3]
          have HK := Lib.hid (show k ≠ tbl s p f from fun e => h3 ((HT.out k hk16).1 e).2.2)
          clear h1 h2 h3
          go_wp2_with (first | (go_at_call 23; refine (iweight _ _ (by omega)).mono ?_; rintro e w' ⟨rfl, rfl⟩) | (go_at_call 51; refine (iscore _ _ (by omega)).mono ?_; rintro e w' ⟨rfl, rfl⟩))
          go_round
          case rel => exact ⟨k + 1, by have := HK.out; omega, by go_num⟩
          case measure => simp [intOf]; omega
      · have e2 : ((wt k : Int) % 2 == (p : Int)) = false := by rw [show (wt k : Int) % 2 = ((wt k % 2 : Nat) : Int) from by omega, int_beq]; simp [h2]
        have HK := Lib.hid (show k ≠ tbl s p f from fun e => h2 ((HT.out k hk16).1 e).2.1)
        clear h1 h2
        go_wp2_with (first | (go_at_call 23; refine (iweight _ _ (by omega)).mono ?_; rintro e w' ⟨rfl, rfl⟩) | (go_at_call 51; refine (iscore _ _ (by omega)).mono ?_; rintro e w' ⟨rfl, rfl⟩))
        go_round
        case rel => exact ⟨k + 1, by have := HK.out; omega, by go_num⟩
        case measure => simp [intOf]; omega
    · have e1 : ((bt k 0 : Int) == (f : Int)) = false := by rw [int_beq]; simp [h1]
      have HK := Lib.hid (show k ≠ tbl s p f from fun e => h1 ((HT.out k hk16).1 e).1)
      clear h1
      go_wp2_with (first | (go_at_call 23; refine (iweight _ _ (by omega)).mono ?_; rintro e w' ⟨rfl, rfl⟩) | (go_at_call 51; refine (iscore _ _ (by omega)).mono ?_; rintro e w' ⟨rfl, rfl⟩))
      go_round
      case rel => exact ⟨k + 1, by have := HK.out; omega, by go_num⟩
      case measure => simp [intOf]; omega

set_option maxHeartbeats 800000 in
theorem sl3Fill (s p f : Nat) (w : World) (hs : s < 4) (hp : p < 2) (hf : f < 2) :
    Calls Try.prog 46 #[.int .i64 s, .int .i64 p, .int .i64 f] w fun e w' => e = .returned (.int .i64 (tbl s p f)) ∧ Below w.heap.size w w' := by
  have hcell : ([.int .i64 0, .int .i64 12, .int .i64 10, .int .i64 6, .int .i64 15, .int .i64 3, .int .i64 5, .int .i64 9, .int .i64 14, .int .i64 2, .int .i64 4, .int .i64 8, .int .i64 1, .int .i64 13, .int .i64 11, .int .i64 7] : List Value)[8 * p + 4 * f + s]? = some (.int .i64 (tbl s p f)) := by
    have h : (s = 0 ∨ s = 1 ∨ s = 2 ∨ s = 3) ∧ (p = 0 ∨ p = 1) ∧ (f = 0 ∨ f = 1) := by omega
    obtain ⟨a, b, c⟩ := h
    rcases a with rfl | rfl | rfl | rfl <;> rcases b with rfl | rfl <;> rcases c with rfl | rfl <;> rfl
  go_enter Try.func46, Try.ntmps46
  go_wp2
  go_ret
  exact ⟨rfl, (Below.refl _ _).alloc (Nat.le_refl _) _⟩

set_option maxHeartbeats 2000000 in
theorem icodeOf (m : Nat) (w : World) (hm : m < 4096) :
    Calls Try.prog 54 #[.int .i64 m] w fun e w' => e = .returned (.int .i64 (cw m)) ∧ Below w.heap.size w w' := by
  have x1 : bits .and .i64 (m : Int) 3 = ((m % 4 : Nat) : Int) := by
    rw [show (m % 4) = m &&& 3 from (Nat.and_two_pow_sub_one_eq_mod m 2).symm]
    exact i64_and m 3 (by omega) (by decide)
  have x2 : bits .and .i64 ((m : Int) / 4) 3 = ((m / 4 % 4 : Nat) : Int) := by
    rw [show (m / 4 % 4) = m / 4 &&& 3 from (Nat.and_two_pow_sub_one_eq_mod (m / 4) 2).symm, show (m : Int) / 4 = ((m / 4 : Nat) : Int) from by omega]
    exact i64_and (m / 4) 3 (by omega) (by decide)
  have x3 : bits .and .i64 ((m : Int) / 16) 3 = ((m / 16 % 4 : Nat) : Int) := by
    rw [show (m / 16 % 4) = m / 16 &&& 3 from (Nat.and_two_pow_sub_one_eq_mod (m / 16) 2).symm, show (m : Int) / 16 = ((m / 16 : Nat) : Int) from by omega]
    exact i64_and (m / 16) 3 (by omega) (by decide)
  have x4 : bits .and .i64 ((m : Int) / 64) 1 = ((bt m 6 : Nat) : Int) := i64_bit m 6 (by omega)
  have hb6 := bt_le m 6
  have hrow : ∀ W, Calls Try.prog 50 #[.int .i64 ((m % 4 : Nat) : Int), .int .i64 ((m / 4 % 4 : Nat) : Int), .int .i64 ((m / 16 % 4 : Nat) : Int)] W (Makes (nl (rowM m)) W) := fun W => ihexOf _ _ _ W (by omega) (by omega) (by omega)
  have HR := Lib.hid hrow
  clear hrow
  go_enter Try.func54, Try.ntmps54
  go_wp2_with fail
  refine (HR.out _).mono ?_
  rintro e w1 ⟨A1, n1, c1, rfl, o1, b1⟩
  have hn6 : n1 = 6 := o1.length.symm.trans (nl_length _)
  subst hn6
  obtain ⟨b, o, rfl, hblt, hc⟩ := o1.sl.nats (by decide)
  have HC := Lib.hid hc
  have HB1 := Lib.hid b1
  clear hc b1 o1
  go_wp2
  go_loopw [5, 6] (fun v i wr => ∃ k A cap, k ≤ 5 ∧ i = .int .i64 ((k + 1 : Nat) : Int) ∧ v = .slice A (k + 1) cap ∧ Own wr w1.heap.size A (k + 1) cap (nl (fsTo m k)) ∧ Below w1.heap.size w1 wr) (fun _ i _ => 6 - (intOf i).toNat)
  case atStart => exact ⟨0, _, _, Nat.zero_le _, rfl, rfl, Own.lit w1 [(bt m 6 : Int)] (by simp), (Below.refl _ _).alloc (Nat.le_refl _) _⟩
  case round =>
    obtain ⟨k, A, cap, hk, rfl, rfl, hown, hb⟩ := hrel
    have HO := Lib.hid hown
    have HB := Lib.hid hb
    have hsz := hb.size
    clear hown hb
    by_cases hlt : k < 5
    · have hbit : bits .and .i64 ((m : Int) / 2 ^ (6 + (k + 1))) 1 = (bt m (7 + k) : Int) := by
        rw [show 6 + (k + 1) = 7 + k from by omega]; exact i64_bit m _ (by omega)
      go_wp2_with (at_builtin; refine wl_app _ rfl (.tmp 33) (.tmp 35) rfl w1.heap.size A _ cap (nl (fsTo m k)) _ rfl HO.out rfl (by omega) hsz ?_)
      intro A2 cap2 w2 hown2 hb2
      have hc0 := hown2.form (by omega)
      obtain ⟨g, rfl, hg1, hg2⟩ := hc0
      have hcell : w2.cell? ⟨g, 0, none⟩ = some (.int .i64 (fx m k)) := hown2.cell (by simp [nl, fsTo])
      have hfree := hown2.free 0
      have hxor : bits .xor .i64 (fx m k : Int) (bt m (7 + k) : Int) = (fx m (k + 1) : Int) := i64_xor _ _ (by have := fx_lt m k; omega) (by have := bt_le m (7 + k); omega)
      have HO2 := Lib.hid hown2
      have HB2 := Lib.hid (HB.out.trans hb2)
      clear hown2 hb2
      go_wp2
      go_roundw
      case rel =>
        refine ⟨k + 1, some ⟨g, 0, none⟩, cap2, by omega, by go_num, by simp, ?_, HB2.out.setCell hg1 _⟩
        have h := HO2.out.set 0 (fx m (k + 1) : Nat)
        rw [show (nl (fsTo m k) ++ [(bt m (7 + k) : Int)]).set 0 ((fx m (k + 1) : Nat) : Int) = nl (fsTo m (k + 1)) from by rw [← fsTo_succ]; simp [nl]] at h
        exact h
      case measure => simp [intOf]; omega
    · obtain rfl : k = 5 := by omega
      obtain ⟨g, rfl, hg1, hg2⟩ := HO.out.form (by omega)
      have hc2 : ∀ j, j < 6 → wr.cell? ⟨g, j, none⟩ = some (.int .i64 (fstM m j : Nat)) := by
        intro j hj
        rw [← fsTo_five m j hj]
        refine HO.out.cell ?_
        rw [nl_get, List.getD_eq_getElem?_getD, List.getElem?_eq_getElem (by rw [fsTo_len]; omega)]
        rfl
      have hc1 : ∀ j, j < 6 → wr.cell? ⟨b, o + j, none⟩ = some (.int .i64 ((rowM m).getD j 0 : Nat)) := fun j hj => (HB.out.cell (p := ⟨b, o + j, none⟩) hblt).trans (HC.out j hj)
      have HC1 := Lib.hid hc1
      have HC2 := Lib.hid hc2
      clear hc1 hc2
      go_wp2
      go_loopw [8, 43] (fun u i w3 => ∃ k q : Nat, k ≤ 6 ∧ i = .int .i64 k ∧ u = .int .i64 (cwTo m k) ∧ w3 = wr.drewN q) (fun _ i _ => 6 - (intOf i).toNat)
      case atStart => exact ⟨0, 0, Nat.zero_le _, rfl, rfl, rfl⟩
      case round =>
        obtain ⟨k, q, hk, rfl, rfl, rfl⟩ := hrel
        by_cases hlt : k < 6
        · have r1 := HC1.out k hlt
          have r2 := HC2.out k hlt
          have hl1 := rowM_lt m k
          have hl2 := fstM_lt m k
          generalize hs : (rowM m).getD k 0 = s at r1 hl1
          generalize hf : fstM m k = f at r2 hl2
          have hcol : tbl s (bt m 6) f = colM m k := by rw [← hs, ← hf]; rfl
          have HCol := Lib.hid hcol
          have hi0 : (0 : Int) ≤ (k : Int) := by omega
          have hi1 : (k : Int) < 6 := by omega
          clear hs hf hcol
          go_wp2_with fail
          go_quiet ((go_at_call 63; first | exact quiet_add_left (irowsWith s (bt m 6) f _ hl1 (by omega) hl2) | exact quiet_left (irowsWith s (bt m 6) f _ hl1 (by omega) hl2)))
          go_wp2
          go_roundw
          case rel =>
            refine ⟨k + 1, q + nq, by omega, by go_num, int_eq ?_, by simp⟩
            rw [HCol.out, ← cwTo_or]
            have e := col_part m k hlt
            have e1 : ((colM m k : Int) * 2 ^ (4 * k)) = ((colM m k * 2 ^ (4 * k) : Nat) : Int) := by simp
            rw [e1, wrap_small _ (by omega)]
            exact i64_or _ _ (by have := cwTo_lt' m k hk; omega) (by omega)
          case measure => simp [intOf]; omega
        · obtain rfl : k = 6 := by omega
          have HE := Lib.hid (cwTo_six m)
          go_wp2
          go_ret
          rw [HE.out]
          exact ⟨rfl, below_drewN (below_to HB1.out HB.out (Nat.le_refl _)) _⟩
end Go.Proofs.Ytmboaaopmjmdnaa
