import Derived.Test.YtbpgaphcpgfafaaF11
import Derived.Test.YtbpgaphcpgfafaaC10
import Derived.Test.YtbpgaphcpgfafaaM15
namespace Go.Proofs.Ytbpgaphcpgfafaa
open Go.RowKit

/-- What 'SextetHolds' answers. -/
def holdZ (l : List Int) (x : Int) : Bool := sxvZ l && (soR l).contains x
theorem hold_no {l : List Int} {x : Int} (h : sxvZ l = false) : holdZ l x = false := by unfold holdZ; rw [h]; rfl
theorem hold_eq {l : List Int} {x : Int} (h : sxvZ l = true) : holdZ l x = (soR l).contains x := by unfold holdZ; rw [h]; rfl
theorem so_sos {t : Nat} (ht : t < 16777216) (h4 : wt t = 4) (hv : sxvZ (nl (sext t)) = true) : soR (nl (sext t)) = nl (sos t) := (so_yes hv).trans (sos_srt ht h4)
theorem nl_contains {l : List Nat} {x : Int} (h : (nl l).contains x = true) : ∃ y : Nat, x = y ∧ y ∈ l := by
  unfold nl at h
  rw [List.contains_iff_mem, List.mem_map] at h
  obtain ⟨y, hy, rfl⟩ := h
  exact ⟨y, rfl, hy⟩
/-- An octad that a sextet holds. -/
theorem hold_nat {l : List Int} {x : Int} (h : holdZ l x = true) : ∃ t y : Nat, l = nl (sext t) ∧ x = y ∧ t < 16777216 ∧ wt t = 4 ∧ y ∈ sos t ∧ Oct y := by
  have hv : sxvZ l = true := by unfold holdZ at h; rw [Bool.and_eq_true] at h; exact h.1
  obtain ⟨t, ht, h4, rfl⟩ := sxv_nat hv
  rw [hold_eq hv, so_sos ht h4 hv] at h
  obtain ⟨y, rfl, hy⟩ := nl_contains h
  exact ⟨t, y, rfl, rfl, ht, h4, hy, sos_oct ht h4 hy⟩
theorem hold_oct {l : List Int} {x : Int} (hv : sxvZ l = true) (h : octZ x = false) : (soR l).contains x = false := by
  cases hc : (soR l).contains x with
  | false => rfl
  | true =>
    obtain ⟨t, y, _, rfl, _, _, _, ho⟩ := hold_nat (l := l) (x := x) (by rw [hold_eq hv]; exact hc)
    rw [octZ_nat _ (oct_lt ho), (isOct_iff (oct_lt ho)).2 ho] at h
    cases h

set_option maxHeartbeats 400000 in
theorem iSextetHolds (B : Nat) (A : Option Addr) (n cap : Nat) (l : List Int) (x : Int) (w : World) (h : Sl w B A n cap l) (hB : B ≤ w.heap.size) :
    Calls Try.prog 15 #[.slice A n cap, .int .i64 x] w fun e w' => e = .returned (.bool (holdZ l x)) ∧ Below w.heap.size w w' := by
  have HI := Lib.hid (iSextetOctads B A n cap l w h hB)
  have HLN := Lib.hid (so_len l)
  cases hv : sxvZ l with
  | false =>
    rw [hv] at HI
    have HR := Lib.hid (hold_no (x := x) hv)
    clear hv h
    go_enter Try.func15, Try.ntmps15
    go_wp2_with fail
    refine HI.out.mono ?_
    rintro e w1 ⟨A1, n1, c1, rfl, o1, b1⟩
    have HB1 := Lib.hid b1
    clear o1 b1
    go_wp2
    go_ret
    rw [HR.out]
    exact ⟨rfl, HB1.out⟩
  | true =>
    rw [hv] at HI
    have HR := Lib.hid (hold_eq (x := x) hv)
    cases ho : octZ x with
    | false =>
      have HC := Lib.hid (hold_oct hv ho)
      have HO := Lib.hid (fun W => iOct_is x _ ho W)
      clear hv h ho
      go_enter Try.func15, Try.ntmps15
      go_wp2_with fail
      refine HI.out.mono ?_
      rintro e w1 ⟨A1, n1, c1, rfl, o1, b1⟩
      go_wp2_with fail
      refine (HO.out w1).mono ?_
      rintro e w2 ⟨rfl, b2⟩
      have HB1 := Lib.hid (below_to b1 b2 (Nat.le_refl _))
      clear o1 b1 b2
      go_wp2
      go_ret
      rw [HR.out, HC.out]
      exact ⟨rfl, HB1.out⟩
    | true =>
      have HO := Lib.hid (fun W => iOct_is x _ ho W)
      clear hv h ho
      generalize soR l = S at HI HR HLN
      go_enter Try.func15, Try.ntmps15
      go_wp2_with fail
      refine HI.out.mono ?_
      rintro e w1 ⟨A1, n1, c1, rfl, o1, b1⟩
      have hn1 : n1 ≤ 1048576 := by have := o1.length; have := HLN.out; omega
      go_wp2_with fail
      refine (HO.out w1).mono ?_
      rintro e w2 ⟨rfl, b2⟩
      go_wp2_with fail
      have HC := Lib.hid (containsInts w2.heap.size A1 n1 c1 S x w2 ((o1.sl.below b2).more b2.size) hn1)
      generalize S.contains x = v at HC HR
      refine HC.out.mono ?_
      rintro e w3 ⟨rfl, rfl⟩
      have HB1 := Lib.hid (below_to b1 b2 (Nat.le_refl _))
      clear o1 b1 b2
      go_wp2
      go_ret
      rw [HR.out]
      exact ⟨rfl, HB1.out⟩

set_option maxHeartbeats 400000 in
theorem sSextetHolds (B : Nat) (A : Option Addr) (n cap : Nat) (l : List Int) (x : Int) (w : World) (h : Sl w B A n cap l) (hB : B ≤ w.heap.size) :
    Calls Try.prog 16 #[.slice A n cap, .int .i64 x] w fun e w' => e = .returned (.bool (holdZ l x)) ∧ Below w.heap.size w w' := by
  have HI := Lib.hid (sSextetOctads B A n cap l w h hB)
  have HLN := Lib.hid (so_len l)
  cases hv : sxvZ l with
  | false =>
    rw [hv, so_no hv] at HI
    have HR := Lib.hid (hold_no (x := x) hv)
    clear hv h HLN
    go_enter Try.func16, Try.ntmps16
    go_wp2_with fail
    refine HI.out.mono ?_
    rintro e w1 ⟨A1, n1, c1, rfl, o1, b1⟩
    obtain rfl : n1 = 0 := by have := o1.length; simp at this; omega
    have HB1 := Lib.hid b1
    clear o1 b1
    go_wp2
    go_loop [7] (fun i => i = .int .i64 0) (fun _ => 0)
    case atStart => rfl
    case round =>
      obtain rfl := hrel
      go_wp2
      go_ret
      rw [HR.out]
      exact ⟨rfl, HB1.out⟩
  | true =>
    rw [hv] at HI
    have HR := Lib.hid (hold_eq (x := x) hv)
    clear hv h
    generalize soR l = S at HI HR HLN
    go_enter Try.func16, Try.ntmps16
    go_wp2_with fail
    refine HI.out.mono ?_
    rintro e w1 ⟨A1, n1, c1, rfl, o1, b1⟩
    have hn1 : n1 ≤ 1048576 := by have := o1.length; have := HLN.out; omega
    have HS := Lib.hid o1.sl
    have HB1 := Lib.hid b1
    clear o1 b1
    go_wp2
    go_loop [7] (fun i => ∃ k : Nat, k ≤ n1 ∧ i = .int .i64 k ∧ ∀ j z, j < k → S[j]? = some z → z ≠ x) (fun i => n1 - (intOf i).toNat)
    case atStart => exact ⟨0, Nat.zero_le _, rfl, by omega⟩
    case round =>
      obtain ⟨k, hk, rfl, hno⟩ := hrel
      have HN := Lib.hid hno
      clear hno
      by_cases hlt : k < n1
      · obtain ⟨b, o, y, rfl, hb, hy, hc⟩ := HS.out.get hlt
        have hi1 : decide ((k : Int) < (n1 : Int)) = true := by simp; omega
        by_cases hxy : y = x
        · subst hxy
          have e1 : (y == y) = true := by simp
          have HC := Lib.hid (show S.contains y = true from List.contains_iff_mem.2 (List.mem_of_getElem? hy))
          clear hy
          go_wp2
          go_ret
          rw [HR.out, HC.out]
          exact ⟨rfl, HB1.out⟩
        · have e1 : (y == x) = false := by simpa using hxy
          have HY := Lib.hid hy
          clear hy
          go_wp2
          go_round
          case rel =>
            refine ⟨k + 1, by omega, by go_num, fun j z hj hz => ?_⟩
            by_cases hjk : j = k
            · subst hjk
              rw [HY.out] at hz
              injection hz with hz
              rw [← hz]
              exact hxy
            · exact HN.out j z (by omega) hz
          case measure => simp [intOf]; omega
      · obtain rfl : k = n1 := by omega
        have hi1 : decide ((k : Int) < (k : Int)) = false := by simp
        have HC := Lib.hid (show S.contains x = false from by
          rw [Bool.eq_false_iff]
          intro h
          obtain ⟨j, hj⟩ := List.mem_iff_getElem?.1 (List.contains_iff_mem.1 h)
          have h1 := HS.out.len
          have h2 := (List.getElem?_eq_some_iff.1 hj).1
          exact HN.out j x (by omega) hj rfl)
        go_wp2
        go_ret
        rw [HR.out, HC.out]
        exact ⟨rfl, HB1.out⟩
end Go.Proofs.Ytbpgaphcpgfafaa
