import Derived.Test.YtinfpggpfpmpbaaF5
import Derived.Deep.RegionWith
namespace Go.Proofs.Ytinfpggpfpmpbaa
open Go.RowKit

/-- A list's numbers for which f says yes, up to place k. -/
def flTo (f : Nat → Bool) (l : List Nat) (k : Nat) : List Nat := (l.take k).filter f
theorem flTo_yes {f : Nat → Bool} {l : List Nat} {k x : Nat} (h : l[k]? = some x) (hf : f x = true) : flTo f l (k + 1) = flTo f l k ++ [x] := by
  unfold flTo; rw [List.take_add_one, h, List.filter_append]; simp [hf]
theorem flTo_no {f : Nat → Bool} {l : List Nat} {k x : Nat} (h : l[k]? = some x) (hf : f x = false) : flTo f l (k + 1) = flTo f l k := by
  unfold flTo; rw [List.take_add_one, h, List.filter_append]; simp [hf]
theorem flTo_all (f : Nat → Bool) (l : List Nat) (n : Nat) (h : l.length ≤ n) : flTo f l n = l.filter f := by
  unfold flTo; rw [List.take_of_length_le h]
theorem lns_on {b p : Nat} (hb : b < 16777216) : (lns b 0).filter (fun y => y.testBit p) = lns b (1 <<< p) := by
  refine asc_ext ((lns_asc b 0).filter _) (lns_asc b _) fun y => ?_
  rw [List.mem_filter, mem_lns hb, mem_lns hb, sub_one]
  exact ⟨fun h => ⟨h.1.1, h.2⟩, fun h => ⟨⟨h.1, by unfold Sub; simp⟩, h.2⟩⟩
theorem pt_disj {b p : Nat} (h : b.testBit p = false) : 1 <<< p &&& b = 0 := and0_comm (and_one_zero h)

/-- What 'PlaneOn' answers. -/
def onOk (b p : Int) : Bool := baseZ b && ptZ b.toNat p
def onR (b p : Int) : List Nat := if onOk b p then lns b.toNat (1 <<< p.toNat) else []
theorem on_no {b p : Int} (h : baseZ b = false ∨ ptZ b.toNat p = false) : onOk b p = false ∧ onR b p = [] := by
  have h1 : onOk b p = false := by unfold onOk; rcases h with h | h <;> simp [h]
  exact ⟨h1, by unfold onR; rw [h1]; rfl⟩
theorem on_yes {b p : Nat} (hb : b < 16777216) (h3 : wt b = 3) (hp : p < 24) (h : b.testBit p = false) : onOk b p = true ∧ onR b p = lns b (1 <<< p) := by
  have h1 : onOk b p = true := by unfold onOk; rw [baseZ_yes hb h3, Int.toNat_natCast, pt_eq hp, h]; rfl
  exact ⟨h1, by unfold onR; rw [h1]; rfl⟩
theorem on_len (b p : Int) : (nl (onR b p)).length ≤ 5 := by
  rw [nl_length]
  cases h : onOk b p with
  | true =>
    have h' := h
    unfold onOk at h'
    rw [Bool.and_eq_true] at h'
    obtain ⟨t, rfl, ht, h3⟩ := baseZ_nat h'.1
    obtain ⟨q, rfl, hq, hbq⟩ := pt_nat h'.2
    rw [(on_yes ht h3 hq hbq).2, lines_on ht h3 hq hbq]
    exact Nat.le_refl _
  | false => unfold onR; rw [h]; simp

theorem iPlaneOn (b p : Int) (w : World) :
    Calls Try.prog 35 #[.int .i64 b, .int .i64 p] w (MakesB (nl (onR b p)) (onOk b p) w) := by
  cases hbz : baseZ b with
  | false =>
    have HT := Lib.hid (ibase_is _ _ hbz)
    have HR := Lib.hid (on_no (p := p) (.inl hbz))
    clear hbz
    go_enter Try.func35, Try.ntmps35
    go_wp2_with fail
    refine (HT.out _).mono ?_
    rintro e w' ⟨rfl, rfl⟩
    go_wp2
    go_ret2
    rw [HR.out.1, HR.out.2]
    exact ⟨_, _, _, rfl, Own.lit w [] (by decide), (Below.refl _ _).alloc (Nat.le_refl _) _⟩
  | true =>
    have HT := Lib.hid (ibase_is _ _ hbz)
    obtain ⟨t, rfl, ht, h3⟩ := baseZ_nat hbz
    cases hpz : ptZ t p with
    | false =>
      have HP := Lib.hid (fun W => ipt_is t p false hpz W ht)
      have HR := Lib.hid (on_no (b := (t : Int)) (p := p) (.inr hpz))
      clear hbz hpz h3
      go_enter Try.func35, Try.ntmps35
      go_wp2_with fail
      refine (HT.out _).mono ?_
      rintro e w' ⟨rfl, rfl⟩
      go_wp2_with fail
      refine (HP.out _).mono ?_
      rintro e w' ⟨rfl, rfl⟩
      go_wp2
      go_ret2
      rw [HR.out.1, HR.out.2]
      exact ⟨_, _, _, rfl, Own.lit w [] (by decide), (Below.refl _ _).alloc (Nat.le_refl _) _⟩
    | true =>
      have HP := Lib.hid (fun W => ipt_is t p true hpz W ht)
      obtain ⟨q, rfl, hq, hbq⟩ := pt_nat hpz
      have HR := Lib.hid (on_yes ht h3 hq hbq)
      have HL := Lib.hid (ilines t (1 <<< q) w ht (one_shl_lt hq) (pt_disj hbq))
      have HE := Lib.hid (i64_two q hq)
      clear hbz hpz h3 hbq
      go_enter Try.func35, Try.ntmps35
      go_wp2_with fail
      refine (HT.out _).mono ?_
      rintro e w' ⟨rfl, rfl⟩
      go_wp2_with fail
      refine (HP.out _).mono ?_
      rintro e w' ⟨rfl, rfl⟩
      go_wp2_with fail
      rw [HE.out]
      refine HL.out.mono ?_
      rintro e w1 ⟨A1, n1, c1, rfl, o1, b1⟩
      go_wp2
      go_ret2
      rw [HR.out.1, HR.out.2]
      exact ⟨_, _, _, rfl, o1, b1⟩

set_option maxHeartbeats 1000000 in
theorem sPlaneOn (b p : Int) (w : World) :
    Calls Try.prog 36 #[.int .i64 b, .int .i64 p] w (MakesB (nl (onR b p)) (onOk b p) w) := by
  cases hbz : baseZ b with
  | false =>
    have HT := Lib.hid (sbase_is _ _ hbz)
    have HR := Lib.hid (on_no (p := p) (.inl hbz))
    clear hbz
    go_enter Try.func36, Try.ntmps36
    go_wp2_with fail
    refine (HT.out _).mono ?_
    rintro e w' ⟨rfl, rfl⟩
    go_wp2
    go_ret2
    rw [HR.out.1, HR.out.2]
    exact ⟨_, _, _, rfl, Own.lit w [] (by decide), (Below.refl _ _).alloc (Nat.le_refl _) _⟩
  | true =>
    have HT := Lib.hid (sbase_is _ _ hbz)
    obtain ⟨t, rfl, ht, h3⟩ := baseZ_nat hbz
    cases hpz : ptZ t p with
    | false =>
      have HP := Lib.hid (fun W => spt_is t p false hpz W ht)
      have HR := Lib.hid (on_no (b := (t : Int)) (p := p) (.inr hpz))
      clear hbz hpz h3
      go_enter Try.func36, Try.ntmps36
      go_wp2_with fail
      refine (HT.out _).mono ?_
      rintro e w' ⟨rfl, rfl⟩
      go_wp2_with fail
      refine (HP.out _).mono ?_
      rintro e w' ⟨rfl, rfl⟩
      go_wp2
      go_ret2
      rw [HR.out.1, HR.out.2]
      exact ⟨_, _, _, rfl, Own.lit w [] (by decide), (Below.refl _ _).alloc (Nat.le_refl _) _⟩
    | true =>
      have HP := Lib.hid (fun W => spt_is t p true hpz W ht)
      obtain ⟨q, rfl, hq, hbq⟩ := pt_nat hpz
      have HR := Lib.hid (on_yes ht h3 hq hbq)
      have HL := Lib.hid (fun W => slines t W ht h3)
      have hf := lns_on (p := q) ht
      have HF := Lib.hid hf
      have hlen := lines_21 ht h3
      have hat : ∀ k y, (lns t 0)[k]? = some y → y < 16777216 := fun k y h => lns_at ht h
      clear hbz hpz h3 hbq hf
      generalize lns t 0 = L at HL HF hlen hat
      have HAT := Lib.hid hat
      have HLEN := Lib.hid hlen
      clear hat hlen
      go_enter Try.func36, Try.ntmps36
      go_wp2_with fail
      refine (HT.out _).mono ?_
      rintro e w' ⟨rfl, rfl⟩
      go_wp2_with fail
      refine (HP.out _).mono ?_
      rintro e w' ⟨rfl, rfl⟩
      go_wp2_with fail
      refine (HL.out _).mono ?_
      rintro e w1 ⟨A1, n1, c1, rfl, o1, b1⟩
      obtain rfl : n1 = 21 := by have := o1.length; rw [nl_length, HLEN.out] at this; omega
      have R0 := Lib.hid (Run.start (Own.lit w [] (by decide)) ((Below.refl _ _).alloc (Nat.le_refl _) _) (by simp) o1 b1)
      have hs1 : w.heap.size ≤ w1.heap.size := by have := b1.size; simp at this; omega
      clear o1 b1
      go_wp2
      go_loopw [6, 8] (fun v i wr => ∃ k A n cap, k ≤ 21 ∧ n ≤ k ∧ i = .int .i64 (k : Nat) ∧ v = .slice A n cap ∧ w.heap.size ≤ wr.heap.size ∧ Run w.heap.size w wr A n cap (nl (flTo (fun y => y.testBit q) L k)) A1 21 c1 (nl L)) (fun _ i _ => 21 - (intOf i).toNat)
      case atStart => exact ⟨0, _, _, _, Nat.zero_le _, Nat.zero_le _, rfl, rfl, hs1, R0.out⟩
      case round =>
        obtain ⟨k, A, n, cap, hk, hnk, rfl, rfl, hsz, hrun⟩ := hrel
        have R := Lib.hid hrun
        clear hrun R0
        by_cases hlt : k < 21
        · obtain ⟨b', o, y, rfl, hb', hy, hc⟩ := R.out.sl.nat hlt
          have hyl := HAT.out k y hy
          cases hbt : y.testBit q with
          | true =>
            have e1 : ((bt y q : Int) == 1) = true := by rw [bt_one.2 hbt]; rfl
            have HS := Lib.hid (flTo_yes (f := fun y => y.testBit q) hy hbt)
            clear hbt hy
            go_wp2_with (first | (go_at_call 48; refine (l1Bit_any y q _ (by omega) hq).mono ?_; rintro e w' ⟨rfl, rfl⟩) | (at_builtin; refine wl_run _ rfl (.tmp 35) (.tmp 40) rfl w.heap.size w A _ cap (nl (flTo (fun y => y.testBit q) L k)) _ _ _ _ _ rfl R.out rfl (by omega) hsz ?_))
            intro A2 cap2 w2 hrun2 hsz2
            have R2 := Lib.hid hrun2
            clear hrun2
            go_wp2
            go_roundw
            case rel =>
              refine ⟨k + 1, A2, n + 1, cap2, by omega, by omega, by go_num, by simp, hsz2, ?_⟩
              have h := R2.out
              rw [HS.out, nl_append]
              simpa [nl] using h
            case measure => simp [intOf]; omega
          | false =>
            have e1 : ((bt y q : Int) == 1) = false := by rw [bt_zero.2 hbt]; rfl
            have HS := Lib.hid (flTo_no (f := fun y => y.testBit q) hy hbt)
            clear hbt hy
            go_wp2_with (first | (go_at_call 48; refine (l1Bit_any y q _ (by omega) hq).mono ?_; rintro e w' ⟨rfl, rfl⟩))
            go_roundw
            case rel => exact ⟨k + 1, A, n, cap, by omega, by omega, by go_num, by simp, hsz, by rw [HS.out]; exact R.out⟩
            case measure => simp [intOf]; omega
        · obtain rfl : k = 21 := by omega
          go_wp2
          go_ret2
          have h := R.out
          rw [flTo_all _ L 21 (by rw [HLEN.out]; exact Nat.le_refl _), HF.out] at h
          rw [HR.out.1, HR.out.2]
          exact ⟨_, _, _, rfl, h.own, h.below⟩
end Go.Proofs.Ytinfpggpfpmpbaa
