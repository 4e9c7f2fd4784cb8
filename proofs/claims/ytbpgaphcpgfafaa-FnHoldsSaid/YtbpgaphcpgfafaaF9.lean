import Derived.Test.YtbpgaphcpgfafaaB4
import Derived.Test.YtbpgaphcpgfafaaF3
import Derived.Test.YtbpgaphcpgfafaaM14
namespace Go.Proofs.Ytbpgaphcpgfafaa
open Go.RowKit

/-- What 'SextetOctads' answers. -/
def soR (l : List Int) : List Int := if sxvZ l then srt (nl (prS (l.map Int.toNat) 6)) else []
theorem so_no {l : List Int} (h : sxvZ l = false) : soR l = [] := by unfold soR; rw [h]; exact if_neg (by decide)
theorem sxv_nat {l : List Int} (h : sxvZ l = true) : ∃ t : Nat, t < 16777216 ∧ wt t = 4 ∧ l = nl (sext t) := by
  unfold sxvZ at h
  simp only [Bool.and_eq_true, decide_eq_true_eq] at h
  obtain ⟨h6, hz, he⟩ := h
  obtain ⟨t, ht, htl, h4⟩ := tetZ_nat hz
  refine ⟨t, htl, h4, ?_⟩
  rw [he, ht, Int.toNat_natCast]
theorem nl_back (l : List Nat) : (nl l).map Int.toNat = l := by
  unfold nl; rw [List.map_map]
  have : (Int.toNat ∘ Int.ofNat) = id := by funext x; rfl
  rw [this, List.map_id]
theorem so_yes {t : Nat} (h : sxvZ (nl (sext t)) = true) : soR (nl (sext t)) = srt (nl (prS (sext t) 6)) := by
  unfold soR; rw [if_pos h, nl_back]
theorem prS_len (l : List Nat) (h : l.length = 6) : (prS l 6).length = 15 := by
  match l, h with
  | [a, b, c, d, e, f], _ => rfl
theorem so_len (l : List Int) : (soR l).length ≤ 15 := by
  cases h : sxvZ l with
  | true =>
    obtain ⟨t, ht, h4, rfl⟩ := sxv_nat h
    rw [so_yes h, srt_length, nl_length, prS_len _ (sext_len ht h4)]
    exact Nat.le_refl _
  | false => rw [so_no h]; simp
theorem drop_at (l : List Nat) (i j : Nat) (h : i + 1 + j < l.length) : (l.drop (i + 1))[j]? = some (l.getD (i + 1 + j) 0) := by
  rw [List.getElem?_drop, List.getD_eq_getElem?_getD, List.getElem?_eq_getElem h]; rfl
/-- The inner lists up to place j. -/
def prI2 (l : List Nat) (i j : Nat) : List Nat := prI l i ++ ((l.drop (i + 1)).take j).map fun y => l.getD i 0 ^^^ y
theorem prI2_succ {l : List Nat} {i j : Nat} (h : i + 1 + j < l.length) : prI2 l i (j + 1) = prI2 l i j ++ [l.getD i 0 ^^^ l.getD (i + 1 + j) 0] := by
  unfold prI2
  rw [List.take_add_one, drop_at l i j h]
  simp
theorem prI2_all {l : List Nat} {i j : Nat} (h : l.length ≤ i + 1 + j) : prI2 l i j = prI l (i + 1) := by
  unfold prI2
  rw [List.take_of_length_le (by rw [List.length_drop]; omega)]
  rfl
theorem prI2_zero (l : List Nat) (i : Nat) : prI2 l i 0 = prI l i := by unfold prI2; simp
theorem prS_small (l : List Nat) (n : Nat) : (prS l n).length ≤ n * l.length := by
  induction n with
  | zero => exact Nat.zero_le _
  | succ n ih =>
    show (prS l n ++ (l.take n).map fun y => l.getD n 0 ^^^ y).length ≤ _
    rw [List.length_append, List.length_map, List.length_take, Nat.add_mul, Nat.one_mul]
    omega
def prS2 (l : List Nat) (i k : Nat) : List Nat := prS l i ++ (l.take k).map fun y => l.getD i 0 ^^^ y
theorem prI_small (l : List Nat) (n : Nat) : (prI l n).length ≤ n * l.length := by
  induction n with
  | zero => exact Nat.zero_le _
  | succ n ih =>
    show (prI l n ++ (l.drop (n + 1)).map fun y => l.getD n 0 ^^^ y).length ≤ _
    rw [List.length_append, List.length_map, List.length_drop, Nat.add_mul, Nat.one_mul]
    omega
theorem prS2_succ {l : List Nat} {i k : Nat} (h : k < l.length) : prS2 l i (k + 1) = prS2 l i k ++ [l.getD i 0 ^^^ l.getD k 0] := by
  unfold prS2
  have e : l[k]? = some (l.getD k 0) := by rw [List.getD_eq_getElem?_getD, List.getElem?_eq_getElem h]; rfl
  rw [List.take_add_one, e, List.map_append, List.append_assoc]
  rfl
theorem prS2_all (l : List Nat) (i : Nat) : prS2 l i i = prS l (i + 1) := rfl
theorem prS2_zero (l : List Nat) (i : Nat) : prS2 l i 0 = prS l i := by unfold prS2; simp
theorem prI2_len (l : List Nat) (i j : Nat) : (prI2 l i j).length = (prI l i).length + min j (l.length - (i + 1)) := by
  unfold prI2; rw [List.length_append, List.length_map, List.length_take, List.length_drop]
theorem prS2_len (l : List Nat) (i k : Nat) : (prS2 l i k).length = (prS l i).length + min k l.length := by
  unfold prS2; rw [List.length_append, List.length_map, List.length_take]

set_option maxHeartbeats 1000000 in
theorem sl5Octads (B : Nat) (A0 : Option Addr) (c0 : Nat) (M : List Nat) (w : World) (h : Sl w B A0 6 c0 (nl M)) (hB : B ≤ w.heap.size) (hM : ∀ j, j < 6 → M.getD j 0 < 16777216) (h6 : M.length = 6) :
    Calls Try.prog 50 #[.slice A0 6 c0] w (Makes (srt (nl (prS M 6))) w) := by
  have HS := Lib.hid (h.more hB)
  have HM := Lib.hid hM
  have HL := Lib.hid h6
  clear h hM h6
  go_enter Try.func50, Try.ntmps50
  go_wp2
  go_loopw [3, 4] (fun v iv wr => ∃ i A cap, i ≤ 6 ∧ iv = .int .i64 (i : Nat) ∧ v = .slice A (prS M i).length cap ∧ Own wr w.heap.size A (prS M i).length cap (nl (prS M i)) ∧ Below w.heap.size w wr) (fun _ iv _ => 6 - (intOf iv).toNat)
  case atStart => exact ⟨0, _, _, Nat.zero_le _, rfl, rfl, Own.lit w [] (by decide), (Below.refl _ _).alloc (Nat.le_refl _) _⟩
  case round =>
    obtain ⟨i, A, cap, hi, rfl, rfl, hown, hbel⟩ := hrel
    have HO := Lib.hid hown
    have HB := Lib.hid hbel
    have hsz := hbel.size
    clear hown hbel
    by_cases hlt : i < 6
    · have f1 : decide ((i : Int) < 6) = true := by simp; omega
      go_wp2
      go_loopw [3, 5] (fun v kv wr2 => ∃ k A cap, k ≤ i ∧ kv = .int .i64 (k : Nat) ∧ v = .slice A (prS2 M i k).length cap ∧ Own wr2 w.heap.size A (prS2 M i k).length cap (nl (prS2 M i k)) ∧ Below w.heap.size w wr2) (fun _ kv _ => i - (intOf kv).toNat)
      case atStart => exact ⟨0, A, cap, Nat.zero_le _, rfl, by rw [prS2_zero], by rw [prS2_zero]; exact HO.out, HB.out⟩
      case round =>
        obtain ⟨k, A2, cap2, hk, rfl, rfl, hown2, hbel2⟩ := hrel
        have HO2 := Lib.hid hown2
        have HB2 := Lib.hid hbel2
        have hsz2 := hbel2.size
        have hn2 : (prS2 M i k).length ≤ 100 := by have h1 := prS_small M i; have h2 := prS2_len M i k; rw [HL.out] at h1 h2; omega
        clear hown2 hbel2
        by_cases hkl : k < i
        · have e1 : decide ((k : Int) < (i : Int)) = true := by simp; omega
          obtain ⟨b, o, rfl, hb, hcells⟩ := (HS.out.below HB2.out).nats (by decide)
          have c1 := hcells i hlt
          have c2 := hcells k (by omega)
          have m1 := HM.out i hlt
          have m2 := HM.out k (by omega)
          have HS := Lib.hid (prS2_succ (l := M) (i := i) (k := k) (by rw [HL.out]; omega))
          have hxor := i64_xor (M.getD i 0) (M.getD k 0) (by omega) (by omega)
          have i0 : (0 : Int) ≤ (i : Int) := by omega
          have i1 : (i : Int) < 6 := by omega
          have k0 : (0 : Int) ≤ (k : Int) := by omega
          have k1 : (k : Int) < 6 := by omega
          clear hcells
          generalize M.getD i 0 = x at c1 m1 hxor HS
          generalize M.getD k 0 = y at c2 m2 hxor HS
          go_wp2_with fail
          go_region_law (refine st_app _ rfl (.tmp 16) (.tmp 26) rfl w.heap.size A2 (prS2 M i k).length cap2 (nl (prS2 M i k)) ((x ^^^ y : Nat) : Int) ?_ ?_ wr.heap.size ?_ ?_ ?_ ?_ ?_; (rfl); (exact app_own HO2.out _); (rfl); (exact app_cell _ _); (exact Nat.le_trans hn2 (by decide)); (exact app_size hsz2 _); (intro A3 cap3 w3 hown3 hbel3))
          all_goals
            have HO3 := Lib.hid hown3
            have HB3 := Lib.hid (app_below HB2.out hsz2 hbel3)
            have HO4 := Lib.hid (show Own w3 w.heap.size A3 (prS2 M i (k + 1)).length cap3 (nl (prS2 M i (k + 1))) from by
              have h := HO3.out
              rw [HS.out, nl_append, List.length_append]
              simpa [nl] using h)
            have HE := Lib.hid (show (prS2 M i k).length + 1 = (prS2 M i (k + 1)).length from by rw [HS.out]; simp)
            clear hown3 hbel3
            first
              | (refine ⟨⟨k + 1, A3, cap3, by omega, by go_num, by rw [HE.out], HO4.out, HB3.out⟩, ?_⟩
                 simp [intOf]; omega)
              | (go_wp2
                 go_roundw
                 case rel => exact ⟨k + 1, A3, cap3, by omega, by go_num, by rw [HE.out], HO4.out, HB3.out⟩
                 case measure => simp [intOf]; omega)
        · obtain rfl : k = i := by omega
          have e1 : decide ((k : Int) < (k : Int)) = false := by simp
          go_wp2
          go_roundw
          case rel => exact ⟨k + 1, A2, cap2, by omega, by go_num, by rw [← prS2_all], HO2.out, HB2.out⟩
          case measure => simp [intOf]; omega
    · obtain rfl : i = 6 := by omega
      have ho := HO.out
      rw [prS_len M HL.out] at ho ⊢
      have HO := Lib.hid ho
      clear ho
      go_wp2_with fail
      refine (sl4Sort 15 wr.heap.size A cap _ wr HO.out.sl (Nat.le_refl _) (by decide)).mono ?_
      rintro e w2 ⟨A2, c2, rfl, -, b2, -, o2⟩
      have HO2 := Lib.hid (o2 (by decide))
      have HB2 := Lib.hid b2
      clear o2 b2
      go_wp2
      go_ret
      exact ⟨A2, _, c2, rfl, HO2.out.base_le hsz, HB.out.trans (HB2.out.mono hsz)⟩

theorem so_facts {t : Nat} (ht : t < 16777216) (h4 : wt t = 4) : (sext t).length = 6 ∧ ∀ j, j < 6 → (sext t).getD j 0 < 16777216 := by
  have hl := sext_len ht h4
  exact ⟨hl, fun j hj => sext_lt ht (getD_mem (by omega))⟩

set_option maxHeartbeats 400000 in
theorem sSextetOctads (B : Nat) (A : Option Addr) (n cap : Nat) (l : List Int) (w : World) (h : Sl w B A n cap l) (hB : B ≤ w.heap.size) :
    Calls Try.prog 18 #[.slice A n cap] w (MakesB (soR l) (sxvZ l) w) := by
  have HI := Lib.hid (sSextetValid B A n cap l w h hB)
  cases hv : sxvZ l with
  | false =>
    rw [hv] at HI
    have HR := Lib.hid (so_no hv)
    clear hv
    go_enter Try.func18, Try.ntmps18
    go_wp2_with fail
    refine HI.out.mono ?_
    rintro e w1 ⟨rfl, b1⟩
    have HB1 := Lib.hid b1
    have hz := b1.size
    clear b1
    go_wp2
    go_ret2
    rw [HR.out]
    exact ⟨_, _, _, rfl, (Own.lit w1 [] (by decide)).base_le hz, HB1.out.alloc hz _⟩
  | true =>
    rw [hv] at HI
    obtain ⟨t, ht, h4, rfl⟩ := sxv_nat hv
    obtain ⟨hl6, hM⟩ := so_facts ht h4
    have HR := Lib.hid (so_yes hv)
    obtain rfl : n = 6 := by have := h.len; rw [nl_length, hl6] at this; omega
    have HS := Lib.hid h
    have HL := Lib.hid hl6
    have HM := Lib.hid hM
    clear hv h hl6 hM
    go_enter Try.func18, Try.ntmps18
    go_wp2_with fail
    refine HI.out.mono ?_
    rintro e w1 ⟨rfl, b1⟩
    have hz := b1.size
    go_wp2_with fail
    refine (sl5Octads B A cap _ w1 (HS.out.below (b1.mono hB)) (Nat.le_trans hB hz) HM.out HL.out).mono ?_
    rintro e w2 ⟨A2, n2, c2, rfl, o2, b2⟩
    have HO := Lib.hid (o2.base_le hz)
    have HB2 := Lib.hid (below_to b1 b2 (Nat.le_refl _))
    clear b1 o2 b2
    go_wp2
    go_ret2
    rw [HR.out]
    exact ⟨A2, n2, c2, rfl, HO.out, HB2.out⟩
end Go.Proofs.Ytbpgaphcpgfafaa
