import Derived.Test.YtdomilpnhkkkiaaA6
namespace Go.Proofs.Ytdomilpnhkkkiaa
open Go.RowKit

set_option maxHeartbeats 400000 in
theorem moved_any (B : Nat) (A1 : Option Addr) (c1 : Nat) (p : List Int) (x : Nat) (w : World) (h1 : Sl w B A1 24 c1 p) (hp : isPerm p = true) (hx : x < 16777216) (hB : B ≤ w.heap.size) :
    Calls Try.prog 56 #[.slice A1 24 c1, .int .i64 x] w fun e w' => e = .returned (.int .i64 (movTo p x 24)) ∧ Below w.heap.size w w' := by
  have HS1 := Lib.hid h1
  have HP := Lib.hid hp
  clear h1 hp
  go_enter Try.func56, Try.ntmps56
  go_wp2_with fail
  refine (placesOf_any x w hx).mono ?_
  rintro e w1 ⟨A, n, cap, rfl, hown, hb⟩
  have hlen := hown.length
  have HL := Lib.hid hlen
  have HO := Lib.hid hown.sl
  have HB := Lib.hid hb
  have hn : n ≤ 24 := by rw [nl_length, pl_len] at hlen; have := wt_le x; omega
  clear hown hb hlen
  go_wp2
  go_loop [5, 11] (fun u i => ∃ k : Nat, k ≤ n ∧ i = .int .i64 k ∧ u = .int .i64 (movL p 0 ((pl x).take k))) (fun _ i => n - (intOf i).toNat)
  case atStart => exact ⟨0, Nat.zero_le _, rfl, rfl⟩
  case round =>
    obtain ⟨k, hk, rfl, rfl⟩ := hrel
    by_cases hlt : k < n
    · obtain ⟨b, o, y, rfl, hb, hy, hc⟩ := HO.out.get hlt
      obtain ⟨i, hi, rfl⟩ : ∃ i : Nat, (pl x)[k]? = some i ∧ (i : Int) = y := by
        rw [nl_get] at hy
        cases hz : (pl x)[k]? with
        | none => rw [hz] at hy; cases hy
        | some i => rw [hz] at hy; injection hy with hy; exact ⟨i, rfl, hy⟩
      have hi24 : i < 24 := (mem_pl.1 (List.mem_of_getElem? hi)).1
      obtain ⟨b1, o1, z, rfl, hb1, hz, hc1⟩ := (HS1.out.below (HB.out.mono hB)).get hi24
      obtain ⟨q, hq, hz'⟩ := isPerm_get HP.out hi24
      obtain rfl : z = (q : Int) := by rw [hz] at hz'; injection hz'
      have hm := movL_take hi hz
      have hlt2 : movL p 0 ((pl x).take k) < 16777216 := movL_lt HP.out _ (fun j hj => (mem_pl.1 (List.mem_of_mem_take hj)).1) 0 (by decide)
      have HM := Lib.hid hm
      clear hm hz hz' hy hi
      go_wp2
      go_round
      case rel => exact ⟨k + 1, by omega, by go_num, int_eq (by rw [HM.out]; exact i64_put _ q hlt2 hq)⟩
      case measure => simp [intOf]; omega
    · obtain rfl : k = n := by omega
      go_wp2
      go_ret
      refine ⟨?_, HB.out⟩
      have h2 := HL.out
      rw [nl_length] at h2
      rw [← h2, List.take_length, ← movL_plTo]; rfl

set_option maxHeartbeats 400000 in
theorem l7Word_any (B : Nat) (A1 : Option Addr) (c1 : Nat) (p : List Int) (x : Nat) (w : World) (h1 : Sl w B A1 24 c1 p) (hp : isPerm p = true) (hx : x < 16777216) (hB : B ≤ w.heap.size) :
    Calls Try.prog 54 #[.slice A1 24 c1, .int .i64 x] w fun e w' => e = .returned (.int .i64 (movTo p x 24)) ∧ Below w.heap.size w w' := by
  have HS1 := Lib.hid h1
  have HP := Lib.hid hp
  clear h1 hp
  go_enter Try.func54, Try.ntmps54
  go_wp2
  go_loopw [5, 6] (fun u i wr => ∃ k m : Nat, k ≤ 24 ∧ i = .int .i64 k ∧ u = .int .i64 (movTo p x k) ∧ wr = w.drewN m) (fun _ i _ => 24 - (intOf i).toNat)
  case atStart => exact ⟨0, 0, Nat.zero_le _, rfl, rfl, rfl⟩
  case round =>
    obtain ⟨k, m, hk, rfl, rfl, rfl⟩ := hrel
    by_cases hlt : k < 24
    · obtain ⟨b1, o1, z, rfl, hb1, hz, hc1⟩ := HS1.out.get hlt
      obtain ⟨q, hq, hz'⟩ := isPerm_get HP.out hlt
      obtain rfl : z = (q : Int) := by rw [hz] at hz'; injection hz'
      have hlt2 := movTo_lt HP.out x k (by omega)
      have hnew := movTo_new HP.out x k q hlt hz
      have HN := Lib.hid hnew
      have HZ := Lib.hid hz
      have hi0 : (0 : Int) ≤ (k : Int) := by omega
      have hi1 : (k : Int) < 24 := by omega
      have hbl := bt_le x k
      clear hz hz' hnew
      go_wp2_with fail
      go_quiet ((go_at_call 46; first | exact quiet_add_left (l1Bit_any x k _ (by omega) hlt) | exact quiet_left (l1Bit_any x k _ (by omega) hlt)))
      go_wp2
      go_roundw
      case rel =>
        refine ⟨k + 1, m + nq, by omega, by go_num, int_eq ?_, by simp⟩
        cases hb : x.testBit k with
        | true =>
          rw [movTo_yes HZ.out hb, bt_one.2 hb, or_add hlt2 hq HN.out]
          rw [show ((1 : Nat) : Int) * 2 ^ q = 2 ^ q from by simp]
          exact i64_plus2 _ q hlt2 hq
        | false =>
          rw [movTo_no hb, bt_zero.2 hb]
          rw [show ((0 : Nat) : Int) * 2 ^ q = 0 from by simp, show wrap64 0 = 0 from by unfold wrap64; decide, Int.add_zero]
          exact wrap_small _ (by omega)
      case measure => simp [intOf]; omega
    · obtain rfl : k = 24 := by omega
      go_wp2
      go_ret
      exact ⟨rfl, below_drewN (Below.refl _ _) _⟩

set_option maxHeartbeats 400000 in
theorem iPermWord_any (B : Nat) (A1 : Option Addr) (n1 c1 : Nat) (p : List Int) (x : Int) (w : World) (h1 : Sl w B A1 n1 c1 p) (hn1 : n1 ≤ 1048576) (hB : B ≤ w.heap.size) :
    Calls Try.prog 30 #[.slice A1 n1 c1, .int .i64 x] w fun e w' => e = .returned (.tuple #[.int .i64 (movRes p x), .bool (isPerm p && valid x)]) ∧ Below w.heap.size w w' := by
  have HS1 := Lib.hid h1
  have hl := h1.len
  clear h1
  cases hp : isPerm p with
  | false =>
    have HP := Lib.hid hp
    have HM := Lib.hid (movRes_no (l := p) (x := x) (.inl hp))
    clear hp hl
    go_enter Try.func30, Try.ntmps30
    go_wp2_with fail
    refine (iPermValid B A1 n1 c1 p w HS1.out hn1).mono ?_
    rw [HP.out]
    rintro e w' ⟨rfl, rfl⟩
    go_wp2
    go_ret2
    rw [HM.out]
    exact ⟨rfl, Below.refl _ _⟩
  | true =>
    obtain rfl : n1 = 24 := by have := isPerm_len hp; omega
    have HP := Lib.hid hp
    clear hp hl
    by_cases hx : 0 ≤ x ∧ x ≤ 16777215
    · obtain ⟨h0, h9⟩ := hx
      obtain ⟨y, rfl⟩ := Int.eq_ofNat_of_zero_le h0
      have hy : y < 16777216 := by omega
      have HM := Lib.hid (movRes_yes HP.out hy)
      have HV := Lib.hid (valid_yes hy)
      go_enter Try.func30, Try.ntmps30
      go_wp2_with fail
      refine (iPermValid B A1 24 c1 p w HS1.out (by decide)).mono ?_
      rw [HP.out]
      rintro e w' ⟨rfl, rfl⟩
      go_wp2_with (first | (go_at_call 56; refine (moved_any B A1 c1 p y w HS1.out HP.out hy hB).mono ?_; rintro e w1 ⟨rfl, hb⟩) | go_in)
      go_ret2
      rw [HM.out, HV.out]
      exact ⟨rfl, by assumption⟩
    · have HM := Lib.hid (movRes_no (l := p) (x := x) (.inr (by omega)))
      have HV := Lib.hid (valid_no (x := x) (by omega))
      go_enter Try.func30, Try.ntmps30
      go_wp2_with fail
      refine (iPermValid B A1 24 c1 p w HS1.out (by decide)).mono ?_
      rw [HP.out]
      rintro e w' ⟨rfl, rfl⟩
      go_wp2_with fail
      refine (iWordValid_no x w (by omega)).mono ?_
      rintro e w' ⟨rfl, rfl⟩
      go_wp2
      go_ret2
      rw [HM.out, HV.out]
      exact ⟨rfl, Below.refl _ _⟩

set_option maxHeartbeats 400000 in
theorem sPermWord_any (B : Nat) (A1 : Option Addr) (n1 c1 : Nat) (p : List Int) (x : Int) (w : World) (h1 : Sl w B A1 n1 c1 p) (hn1 : n1 ≤ 1048576) (hB : B ≤ w.heap.size) :
    Calls Try.prog 29 #[.slice A1 n1 c1, .int .i64 x] w fun e w' => e = .returned (.tuple #[.int .i64 (movRes p x), .bool (isPerm p && valid x)]) ∧ Below w.heap.size w w' := by
  have HS1 := Lib.hid h1
  have hl := h1.len
  clear h1
  cases hp : isPerm p with
  | false =>
    have HP := Lib.hid hp
    have HM := Lib.hid (movRes_no (l := p) (x := x) (.inl hp))
    clear hp hl
    go_enter Try.func29, Try.ntmps29
    go_wp2_with fail
    refine (sPermValid B A1 n1 c1 p w HS1.out hn1).mono ?_
    rw [HP.out]
    rintro e w' ⟨rfl, rfl⟩
    go_wp2
    go_ret2
    rw [HM.out]
    exact ⟨rfl, Below.refl _ _⟩
  | true =>
    obtain rfl : n1 = 24 := by have := isPerm_len hp; omega
    have HP := Lib.hid hp
    clear hp hl
    by_cases hx : 0 ≤ x ∧ x ≤ 16777215
    · obtain ⟨h0, h9⟩ := hx
      obtain ⟨y, rfl⟩ := Int.eq_ofNat_of_zero_le h0
      have hy : y < 16777216 := by omega
      have HM := Lib.hid (movRes_yes HP.out hy)
      have HV := Lib.hid (valid_yes hy)
      go_enter Try.func29, Try.ntmps29
      go_wp2_with fail
      refine (sPermValid B A1 24 c1 p w HS1.out (by decide)).mono ?_
      rw [HP.out]
      rintro e w' ⟨rfl, rfl⟩
      go_wp2_with (first | (go_at_call 54; refine (l7Word_any B A1 c1 p y w HS1.out HP.out hy hB).mono ?_; rintro e w1 ⟨rfl, hb⟩) | go_in)
      go_ret2
      rw [HM.out, HV.out]
      exact ⟨rfl, by assumption⟩
    · have HM := Lib.hid (movRes_no (l := p) (x := x) (.inr (by omega)))
      have HV := Lib.hid (valid_no (x := x) (by omega))
      go_enter Try.func29, Try.ntmps29
      go_wp2_with fail
      refine (sPermValid B A1 24 c1 p w HS1.out (by decide)).mono ?_
      rw [HP.out]
      rintro e w' ⟨rfl, rfl⟩
      go_wp2_with fail
      refine (sWordValid_no x w (by omega)).mono ?_
      rintro e w' ⟨rfl, rfl⟩
      go_wp2
      go_ret2
      rw [HM.out, HV.out]
      exact ⟨rfl, Below.refl _ _⟩
end Go.Proofs.Ytdomilpnhkkkiaa
