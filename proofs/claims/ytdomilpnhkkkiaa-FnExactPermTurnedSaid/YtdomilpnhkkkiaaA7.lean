import Derived.Test.YtdomilpnhkkkiaaA6
namespace Go.Proofs.Ytdomilpnhkkkiaa
open Go.RowKit


set_option maxHeartbeats 400000 in
theorem iPermTimes_no (B : Nat) (A1 A2 : Option Addr) (n1 n2 c1 c2 : Nat) (p q : List Int) (w : World) (h1 : Sl w B A1 n1 c1 p) (h2 : Sl w B A2 n2 c2 q) (hn1 : n1 ≤ 1048576) (hn2 : n2 ≤ 1048576) (hB : B ≤ w.heap.size) (hno : (isPerm p && isPerm q) = false) :
    Calls Try.prog 26 #[.slice A1 n1 c1, .slice A2 n2 c2] w (MakesB [] false w) := by
  have HS1 := Lib.hid h1
  have HS2 := Lib.hid h2
  have b0 : Below w.heap.size w (w.alloc (.cells #[] 3)) := (Below.refl _ _).alloc (Nat.le_refl _) _
  have HB := Lib.hid b0
  clear h1 h2 b0
  go_enter Try.func26, Try.ntmps26
  go_wp2_with fail
  refine (iPermValid B A1 n1 c1 p _ (HS1.out.below (HB.out.mono hB)) hn1).mono ?_
  cases hp : isPerm p with
  | false =>
    clear hp hno
    rintro e w' ⟨rfl, rfl⟩
    go_wp2
    go_ret2
    exact ⟨_, _, _, rfl, Own.lit w [] (by decide), HB.out⟩
  | true =>
    have hq : isPerm q = false := by rw [hp] at hno; simpa using hno
    have HQ := Lib.hid hq
    clear hp hno hq
    rintro e w' ⟨rfl, rfl⟩
    go_wp2_with fail
    refine (iPermValid B A2 n2 c2 q _ (HS2.out.below (HB.out.mono hB)) hn2).mono ?_
    rw [HQ.out]
    rintro e w' ⟨rfl, rfl⟩
    go_wp2
    go_ret2
    exact ⟨_, _, _, rfl, Own.lit w [] (by decide), HB.out⟩

set_option maxHeartbeats 400000 in
theorem iPermTimes_yes (B : Nat) (A1 A2 : Option Addr) (c1 c2 : Nat) (p q : List Int) (w : World) (h1 : Sl w B A1 24 c1 p) (h2 : Sl w B A2 24 c2 q) (hB : B ≤ w.heap.size) (hp : isPerm p = true) (hq : isPerm q = true) :
    Calls Try.prog 26 #[.slice A1 24 c1, .slice A2 24 c2] w (MakesB (thenTo p q 24) true w) := by
  have HS1 := Lib.hid h1
  have HS2 := Lib.hid h2
  have HP := Lib.hid hp
  have HQ := Lib.hid hq
  have b0 : Below w.heap.size w (w.alloc (.cells #[] 3)) := (Below.refl _ _).alloc (Nat.le_refl _) _
  have HB := Lib.hid b0
  clear h1 h2 hp hq b0
  go_enter Try.func26, Try.ntmps26
  go_wp2_with fail
  refine (iPermValid B A1 24 c1 p _ (HS1.out.below (HB.out.mono hB)) (by decide)).mono ?_
  rw [HP.out]
  rintro e w' ⟨rfl, rfl⟩
  go_wp2_with fail
  refine (iPermValid B A2 24 c2 q _ (HS2.out.below (HB.out.mono hB)) (by decide)).mono ?_
  rw [HQ.out]
  rintro e w' ⟨rfl, rfl⟩
  go_wp2
  go_loopw [6, 21] (fun v i wr => ∃ k A cap, k ≤ 24 ∧ i = .int .i64 (k : Nat) ∧ v = .slice A k cap ∧ Own wr w.heap.size A k cap (thenTo p q k) ∧ Below w.heap.size w wr) (fun v i _ => 24 - (intOf i).toNat)
  case atStart => exact ⟨0, _, _, Nat.zero_le _, rfl, rfl, Own.lit w [] (by decide), HB.out⟩
  case round =>
    obtain ⟨k, A, cap, hk, rfl, rfl, hown, hb⟩ := hrel
    have HO := Lib.hid hown
    have HBr := Lib.hid hb
    have hsz := hb.size
    clear hown hb
    by_cases hlt : k < 24
    · obtain ⟨b1, o1, x, rfl, hb1, hx, hc1⟩ := (HS1.out.below (HBr.out.mono hB)).get hlt
      obtain ⟨a, ha, hx'⟩ := isPerm_get HP.out hlt
      obtain rfl : x = (a : Int) := by rw [hx] at hx'; injection hx'
      obtain ⟨b2, o2, y, rfl, hb2, hy, hc2⟩ := (HS2.out.below (HBr.out.mono hB)).get ha
      obtain ⟨b, hb, hy'⟩ := isPerm_get HQ.out ha
      obtain rfl : y = (b : Int) := by rw [hy] at hy'; injection hy'
      have hth := thenTo_succ hx hy
      have HT := Lib.hid hth
      clear hth hx hx' hy hy'
      go_wp2_with (at_builtin; refine wl_app _ rfl (.tmp 25) (.tmp 30) rfl w.heap.size A _ cap (thenTo p q k) b rfl HO.out rfl (by omega) hsz ?_)
      intro A' cap' w1 hown1 hbw
      have HO1 := Lib.hid hown1
      clear hown1
      go_wp2
      go_roundw
      case rel => exact ⟨k + 1, A', cap', by omega, by go_num, by simp, by rw [HT.out]; exact HO1.out, HBr.out.trans hbw⟩
      case measure => simp [intOf]; omega
    · obtain rfl : k = 24 := by omega
      go_wp2
      go_ret2
      exact ⟨A, _, cap, rfl, HO.out, HBr.out⟩

set_option maxHeartbeats 400000 in
theorem sPermTimes_no (B : Nat) (A1 A2 : Option Addr) (n1 n2 c1 c2 : Nat) (p q : List Int) (w : World) (h1 : Sl w B A1 n1 c1 p) (h2 : Sl w B A2 n2 c2 q) (hn1 : n1 ≤ 1048576) (hn2 : n2 ≤ 1048576) (hB : B ≤ w.heap.size) (hno : (isPerm p && isPerm q) = false) :
    Calls Try.prog 25 #[.slice A1 n1 c1, .slice A2 n2 c2] w (MakesB [] false w) := by
  have HS1 := Lib.hid h1
  have HS2 := Lib.hid h2
  have b0 : Below w.heap.size w (w.alloc (.cells #[] 3)) := (Below.refl _ _).alloc (Nat.le_refl _) _
  have HB := Lib.hid b0
  clear h1 h2 b0
  go_enter Try.func25, Try.ntmps25
  go_wp2_with fail
  refine (sPermValid B A1 n1 c1 p _ (HS1.out.below (HB.out.mono hB)) hn1).mono ?_
  cases hp : isPerm p with
  | false =>
    clear hp hno
    rintro e w' ⟨rfl, rfl⟩
    go_wp2
    go_ret2
    exact ⟨_, _, _, rfl, Own.lit w [] (by decide), HB.out⟩
  | true =>
    have hq : isPerm q = false := by rw [hp] at hno; simpa using hno
    have HQ := Lib.hid hq
    clear hp hno hq
    rintro e w' ⟨rfl, rfl⟩
    go_wp2_with fail
    refine (sPermValid B A2 n2 c2 q _ (HS2.out.below (HB.out.mono hB)) hn2).mono ?_
    rw [HQ.out]
    rintro e w' ⟨rfl, rfl⟩
    go_wp2
    go_ret2
    exact ⟨_, _, _, rfl, Own.lit w [] (by decide), HB.out⟩

set_option maxHeartbeats 400000 in
theorem sPermTimes_yes (B : Nat) (A1 A2 : Option Addr) (c1 c2 : Nat) (p q : List Int) (w : World) (h1 : Sl w B A1 24 c1 p) (h2 : Sl w B A2 24 c2 q) (hB : B ≤ w.heap.size) (hp : isPerm p = true) (hq : isPerm q = true) :
    Calls Try.prog 25 #[.slice A1 24 c1, .slice A2 24 c2] w (MakesB (thenTo p q 24) true w) := by
  have HS1 := Lib.hid h1
  have HS2 := Lib.hid h2
  have HP := Lib.hid hp
  have HQ := Lib.hid hq
  have b0 : Below w.heap.size w (w.alloc (.cells #[] 3)) := (Below.refl _ _).alloc (Nat.le_refl _) _
  have HB := Lib.hid b0
  clear h1 h2 hp hq b0
  go_enter Try.func25, Try.ntmps25
  go_wp2_with fail
  refine (sPermValid B A1 24 c1 p _ (HS1.out.below (HB.out.mono hB)) (by decide)).mono ?_
  rw [HP.out]
  rintro e w' ⟨rfl, rfl⟩
  go_wp2_with fail
  refine (sPermValid B A2 24 c2 q _ (HS2.out.below (HB.out.mono hB)) (by decide)).mono ?_
  rw [HQ.out]
  rintro e w' ⟨rfl, rfl⟩
  go_wp2
  go_loopw [6, 7] (fun v i wr => ∃ k A cap, k ≤ 24 ∧ i = .int .i64 (k : Nat) ∧ v = .slice A k cap ∧ Own wr w.heap.size A k cap (thenTo p q k) ∧ Below w.heap.size w wr) (fun v i _ => 24 - (intOf i).toNat)
  case atStart => exact ⟨0, _, _, Nat.zero_le _, rfl, rfl, Own.lit w [] (by decide), HB.out⟩
  case round =>
    obtain ⟨k, A, cap, hk, rfl, rfl, hown, hb⟩ := hrel
    have HO := Lib.hid hown
    have HBr := Lib.hid hb
    have hsz := hb.size
    clear hown hb
    by_cases hlt : k < 24
    · obtain ⟨b1, o1, x, rfl, hb1, hx, hc1⟩ := (HS1.out.below (HBr.out.mono hB)).get hlt
      obtain ⟨a, ha, hx'⟩ := isPerm_get HP.out hlt
      obtain rfl : x = (a : Int) := by rw [hx] at hx'; injection hx'
      obtain ⟨b2, o2, y, rfl, hb2, hy, hc2⟩ := (HS2.out.below (HBr.out.mono hB)).get ha
      obtain ⟨b, hb, hy'⟩ := isPerm_get HQ.out ha
      obtain rfl : y = (b : Int) := by rw [hy] at hy'; injection hy'
      have hth := thenTo_succ hx hy
      have HT := Lib.hid hth
      clear hth hx hx' hy hy'
      go_wp2_with (at_builtin; refine wl_app _ rfl (.tmp 22) (.tmp 30) rfl w.heap.size A _ cap (thenTo p q k) b rfl HO.out rfl (by omega) hsz ?_)
      intro A' cap' w1 hown1 hbw
      have HO1 := Lib.hid hown1
      clear hown1
      go_wp2
      go_roundw
      case rel => exact ⟨k + 1, A', cap', by omega, by go_num, by simp, by rw [HT.out]; exact HO1.out, HBr.out.trans hbw⟩
      case measure => simp [intOf]; omega
    · obtain rfl : k = 24 := by omega
      go_wp2
      go_ret2
      exact ⟨A, _, cap, rfl, HO.out, HBr.out⟩

set_option maxHeartbeats 400000 in
theorem iPermTurned_any (B : Nat) (A1 : Option Addr) (n1 c1 : Nat) (p : List Int) (w : World) (h1 : Sl w B A1 n1 c1 p) (hn1 : n1 ≤ 1048576) (hB : B ≤ w.heap.size) :
    Calls Try.prog 28 #[.slice A1 n1 c1] w (MakesB (turnRes p) (isPerm p) w) := by
  unfold turnRes
  have HS1 := Lib.hid h1
  have hl := h1.len
  clear h1
  cases hp : isPerm p with
  | false =>
    have HP := Lib.hid hp
    have HL := Lib.hid hl
    clear hp hl
    go_enter Try.func28, Try.ntmps28
    go_wp2_with fail
    refine (iPermValid B A1 n1 c1 p _ HS1.out hn1).mono ?_
    rw [HP.out]
    rintro e w' ⟨rfl, rfl⟩
    go_wp2
    go_ret2
    exact ⟨_, _, _, rfl, Own.lit w [] (by decide), (Below.refl _ _).alloc (Nat.le_refl _) _⟩
  | true =>
    obtain rfl : n1 = 24 := by have := isPerm_len hp; omega
    have HP := Lib.hid hp
    clear hp hl
    go_enter Try.func28, Try.ntmps28
    go_wp2_with fail
    refine (iPermValid B A1 24 c1 p _ HS1.out (by decide)).mono ?_
    rw [HP.out]
    rintro e w' ⟨rfl, rfl⟩
    go_wp2_with (at_make; refine wl_make _ rfl (.const (.int .i64 24)) (.const (.int .i64 24)) rfl .i64 .i64 24 24 24 rfl rfl rfl rfl (by decide) ?_)
    intro w1 hown1 hb1
    have HO1 := Lib.hid hown1
    have HB1 := Lib.hid hb1
    clear hown1 hb1
    go_wp2
    go_loopw [14] (fun i wr => ∃ k : Nat, k ≤ 24 ∧ i = .int .i64 k ∧ Own wr w.heap.size (some ⟨w.heap.size, 0, none⟩) 24 24 (turnTo p k) ∧ Below w.heap.size w wr) (fun i _ => 24 - (intOf i).toNat)
    case atStart => exact ⟨0, Nat.zero_le _, rfl, HO1.out, HB1.out⟩
    case round =>
      obtain ⟨k, hk, rfl, hown, hb⟩ := hrel
      have HO := Lib.hid hown
      have HBr := Lib.hid hb
      have hsz := hb.size
      clear hown hb
      by_cases hlt : k < 24
      · obtain ⟨b1, o1, x, rfl, hb1, hx, hc1⟩ := (HS1.out.below (HBr.out.mono hB)).get hlt
        obtain ⟨a, ha, hx'⟩ := isPerm_get HP.out hlt
        obtain rfl : x = (a : Int) := by rw [hx] at hx'; injection hx'
        have hth := turnTo_succ hx
        have hlen := turnTo_length p k
        obtain ⟨y, hy⟩ : ∃ y, (turnTo p k)[a]? = some y := ⟨_, List.getElem?_eq_getElem (by omega)⟩
        have hcell := HO.out.cell hy
        have hfree := HO.out.free a
        have HT := Lib.hid hth
        clear hth hx hx' hlen hy
        go_wp2
        go_roundw
        case rel => exact ⟨k + 1, by omega, by go_num, by rw [HT.out]; exact HO.out.set a k, HBr.out.setCell (Nat.le_refl _) _⟩
        case measure => simp [intOf]; omega
      · obtain rfl : k = 24 := by omega
        go_wp2
        go_ret2
        exact ⟨_, _, _, rfl, HO.out, HBr.out⟩

set_option maxHeartbeats 400000 in
theorem sPermTurned_any (B : Nat) (A1 : Option Addr) (n1 c1 : Nat) (p : List Int) (w : World) (h1 : Sl w B A1 n1 c1 p) (hn1 : n1 ≤ 1048576) (hB : B ≤ w.heap.size) :
    Calls Try.prog 27 #[.slice A1 n1 c1] w (MakesB (turnRes p) (isPerm p) w) := by
  unfold turnRes
  have HS1 := Lib.hid h1
  have hl := h1.len
  clear h1
  cases hp : isPerm p with
  | false =>
    have HP := Lib.hid hp
    have HL := Lib.hid hl
    clear hp hl
    go_enter Try.func27, Try.ntmps27
    go_wp2_with fail
    refine (sPermValid B A1 n1 c1 p _ HS1.out hn1).mono ?_
    rw [HP.out]
    rintro e w' ⟨rfl, rfl⟩
    go_wp2
    go_ret2
    exact ⟨_, _, _, rfl, Own.lit w [] (by decide), (Below.refl _ _).alloc (Nat.le_refl _) _⟩
  | true =>
    obtain rfl : n1 = 24 := by have := isPerm_len hp; omega
    have HP := Lib.hid hp
    clear hp hl
    go_enter Try.func27, Try.ntmps27
    go_wp2_with fail
    refine (sPermValid B A1 24 c1 p _ HS1.out (by decide)).mono ?_
    rw [HP.out]
    rintro e w' ⟨rfl, rfl⟩
    go_wp2_with (at_make; refine wl_make _ rfl (.const (.int .i64 24)) (.const (.int .i64 24)) rfl .i64 .i64 24 24 24 rfl rfl rfl rfl (by decide) ?_)
    intro w1 hown1 hb1
    have HO1 := Lib.hid hown1
    have HB1 := Lib.hid hb1
    clear hown1 hb1
    go_wp2
    go_loopw [5] (fun i wr => ∃ k : Nat, k ≤ 24 ∧ i = .int .i64 k ∧ Own wr w.heap.size (some ⟨w.heap.size, 0, none⟩) 24 24 (turnTo p k) ∧ Below w.heap.size w wr) (fun i _ => 24 - (intOf i).toNat)
    case atStart => exact ⟨0, Nat.zero_le _, rfl, HO1.out, HB1.out⟩
    case round =>
      obtain ⟨k, hk, rfl, hown, hb⟩ := hrel
      have HO := Lib.hid hown
      have HBr := Lib.hid hb
      have hsz := hb.size
      clear hown hb
      by_cases hlt : k < 24
      · obtain ⟨b1, o1, x, rfl, hb1, hx, hc1⟩ := (HS1.out.below (HBr.out.mono hB)).get hlt
        obtain ⟨a, ha, hx'⟩ := isPerm_get HP.out hlt
        obtain rfl : x = (a : Int) := by rw [hx] at hx'; injection hx'
        have hth := turnTo_succ hx
        have hlen := turnTo_length p k
        obtain ⟨y, hy⟩ : ∃ y, (turnTo p k)[a]? = some y := ⟨_, List.getElem?_eq_getElem (by omega)⟩
        have hcell := HO.out.cell hy
        have hfree := HO.out.free a
        have HT := Lib.hid hth
        clear hth hx hx' hlen hy
        go_wp2
        go_roundw
        case rel => exact ⟨k + 1, by omega, by go_num, by rw [HT.out]; exact HO.out.set a k, HBr.out.setCell (Nat.le_refl _) _⟩
        case measure => simp [intOf]; omega
      · obtain rfl : k = 24 := by omega
        go_wp2
        go_ret2
        exact ⟨_, _, _, rfl, HO.out, HBr.out⟩

theorem iPermTimes_any (B : Nat) (A1 A2 : Option Addr) (n1 n2 c1 c2 : Nat) (p q : List Int) (w : World) (h1 : Sl w B A1 n1 c1 p) (h2 : Sl w B A2 n2 c2 q) (hn1 : n1 ≤ 1048576) (hn2 : n2 ≤ 1048576) (hB : B ≤ w.heap.size) :
    Calls Try.prog 26 #[.slice A1 n1 c1, .slice A2 n2 c2] w (MakesB (thenRes p q) (isPerm p && isPerm q) w) := by
  cases h : isPerm p && isPerm q with
  | false => rw [thenRes_no h]; exact iPermTimes_no B A1 A2 n1 n2 c1 c2 p q w h1 h2 hn1 hn2 hB h
  | true =>
    rw [thenRes_yes h]
    simp only [Bool.and_eq_true] at h
    obtain rfl : n1 = 24 := h1.len.symm.trans (isPerm_len h.1)
    obtain rfl : n2 = 24 := h2.len.symm.trans (isPerm_len h.2)
    exact iPermTimes_yes B A1 A2 c1 c2 p q w h1 h2 hB h.1 h.2

theorem sPermTimes_any (B : Nat) (A1 A2 : Option Addr) (n1 n2 c1 c2 : Nat) (p q : List Int) (w : World) (h1 : Sl w B A1 n1 c1 p) (h2 : Sl w B A2 n2 c2 q) (hn1 : n1 ≤ 1048576) (hn2 : n2 ≤ 1048576) (hB : B ≤ w.heap.size) :
    Calls Try.prog 25 #[.slice A1 n1 c1, .slice A2 n2 c2] w (MakesB (thenRes p q) (isPerm p && isPerm q) w) := by
  cases h : isPerm p && isPerm q with
  | false => rw [thenRes_no h]; exact sPermTimes_no B A1 A2 n1 n2 c1 c2 p q w h1 h2 hn1 hn2 hB h
  | true =>
    rw [thenRes_yes h]
    simp only [Bool.and_eq_true] at h
    obtain rfl : n1 = 24 := h1.len.symm.trans (isPerm_len h.1)
    obtain rfl : n2 = 24 := h2.len.symm.trans (isPerm_len h.2)
    exact sPermTimes_yes B A1 A2 c1 c2 p q w h1 h2 hB h.1 h.2
end Go.Proofs.Ytdomilpnhkkkiaa
