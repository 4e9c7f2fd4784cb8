import Derived.Test.YtbpgaphcpgfafaaF13
import Derived.Test.YtbpgaphcpgfafaaS1
namespace Go.Proofs.Ytbpgaphcpgfafaa
open Go.RowKit

theorem maxInts (B : Nat) (A : Option Addr) (n c : Nat) (l : List Int) (w : World) (h : Sl w B A n c l) (h0 : 0 < n) (hn : n ≤ 1048576) :
    Calls Try.prog 53 #[.slice A n c] w fun e w' => e = .returned (.int .i64 (Lib.maxOf l)) ∧ w = w' := by
  have e1 := h.len
  obtain ⟨b1, o1, r1, _, _⟩ := h.at_ h0
  subst r1
  refine (Try.slices_Max_int b1 o1 n c l w h0 (by omega) (by omega) (h.cells_get h0)).mono fun e w' ⟨he, hw⟩ => ⟨?_, hw.symm⟩
  rw [he, List.take_of_length_le (by omega)]
theorem max_most (F : Nat → Nat) (n : Nat) : ∀ k, k < n → Lib.maxOf ((nl ((List.range n).map F)).take (k + 1)) = (mostTo F (k + 1) : Int) := by
  have hg : ∀ k, k < n → (nl ((List.range n).map F)).getD k 0 = (F k : Int) := fun k hk => by
    rw [nl_getD, List.getD_eq_getElem?_getD, List.getElem?_map, List.getElem?_range hk]; rfl
  intro k
  induction k with
  | zero => intro hk; rw [Lib.maxOf_one, hg 0 hk, mostTo, mostTo]; omega
  | succ k ih =>
    intro hk
    rw [Lib.maxOf_step _ (k + 1) (by omega) (by rw [nl_length]; simp; omega), ih (by omega), hg (k + 1) hk]
    have e : mostTo F (k + 1 + 1) = max (mostTo F (k + 1)) (F (k + 1)) := rfl
    rw [e]
    omega
theorem max_tab (a b : List Nat) : Lib.maxOf (nl (tabTo a b 36)) = (most (tabF a b) : Int) := by
  have h := max_most (tabJ (tabF a b)) 36 35 (by decide)
  rw [List.take_of_length_le (by rw [nl_length]; simp)] at h
  exact h
theorem row_has (a b : List Nat) (m i : Nat) (hi : i < 6) : (((nl (tabTo a b 36)).drop (6 * i)).take 6).contains (m : Int) = decide (0 < hits (tabF a b) m i) := by
  rw [Bool.eq_iff_iff, List.contains_iff_mem, decide_eq_true_eq, ← hits_pos, List.mem_iff_getElem?]
  constructor
  · rintro ⟨k, hk⟩
    rw [List.getElem?_take] at hk
    by_cases h6 : k < 6
    · rw [if_pos h6, List.getElem?_drop, nl_get, tabTo_get a b h6 (by omega)] at hk
      simp only [Option.map_some, Option.some.injEq] at hk
      exact ⟨k, h6, Int.ofNat.inj hk⟩
    · rw [if_neg h6] at hk; cases hk
  · rintro ⟨k, hk, e⟩
    refine ⟨k, ?_⟩
    rw [List.getElem?_take, if_pos hk, List.getElem?_drop, nl_get, tabTo_get a b hk (by omega), e]
    rfl
def rowsTo (M : Nat → Nat → Nat) (m k : Nat) : Nat := sm k fun i => if 0 < hits M m i then 1 else 0
theorem rowsTo_succ (M : Nat → Nat → Nat) (m k : Nat) : rowsTo M m (k + 1) = rowsTo M m k + if 0 < hits M m k then 1 else 0 := rfl
theorem rowsTo_le (M : Nat → Nat → Nat) (m k : Nat) : rowsTo M m k ≤ k := by
  have := sm_le (n := k) (f := fun i => if 0 < hits M m i then 1 else 0) (g := fun _ => 1) (fun i _ => by split <;> omega)
  rw [sm_const] at this
  unfold rowsTo; omega
def hitsTo (M : Nat → Nat → Nat) (m i k : Nat) : Nat := sm k fun j => if M i j = m then 1 else 0
theorem hitsTo_yes {M : Nat → Nat → Nat} {m i k : Nat} (h : 0 < hitsTo M m i k) : 0 < hitsTo M m i (k + 1) := by
  show 0 < hitsTo M m i k + _; omega
theorem hitsTo_new {M : Nat → Nat → Nat} {m i k : Nat} (h : ¬ 0 < hitsTo M m i k) : decide (0 < hitsTo M m i (k + 1)) = decide (M i k = m) := by
  have e : hitsTo M m i (k + 1) = hitsTo M m i k + if M i k = m then 1 else 0 := rfl
  rw [e]
  by_cases h2 : M i k = m <;> simp [h2] <;> omega

/-- What 'SextetKind' answers. -/
def kindR (l m : List Int) : Nat := if tabOk l m then kind (tabF (l.map Int.toNat) (m.map Int.toNat)) else 0
theorem kind_no {l m : List Int} (h : tabOk l m = false) : kindR l m = 0 ∧ tabR l m = [] := by
  exact ⟨by unfold kindR; rw [h]; exact if_neg (by decide), by unfold tabR; rw [h]; exact if_neg (by decide)⟩
theorem kind_yes {l m : List Int} (h : tabOk l m = true) : kindR l m = kind (tabF (l.map Int.toNat) (m.map Int.toNat)) ∧ tabR l m = nl (tabTo (l.map Int.toNat) (m.map Int.toNat) 36) :=
  ⟨by unfold kindR; rw [if_pos h], by unfold tabR; rw [if_pos h]⟩
theorem tab_nat {l m : List Int} (h : tabOk l m = true) : ∃ t u : Nat, l = nl (sext t) ∧ m = nl (sext u) ∧ t < 16777216 ∧ wt t = 4 ∧ u < 16777216 ∧ wt u = 4 := by
  unfold tabOk at h
  rw [Bool.and_eq_true] at h
  obtain ⟨t, ht, h4, rfl⟩ := sxv_nat h.1
  obtain ⟨u, hu, hu4, rfl⟩ := sxv_nat h.2
  exact ⟨t, u, rfl, rfl, ht, h4, hu, hu4⟩

set_option maxHeartbeats 1000000 in
theorem iSextetKind (B : Nat) (A1 A2 : Option Addr) (n1 n2 c1 c2 : Nat) (l1 l2 : List Int) (w : World) (h1 : Sl w B A1 n1 c1 l1) (h2 : Sl w B A2 n2 c2 l2) (hB : B ≤ w.heap.size) :
    Calls Try.prog 27 #[.slice A1 n1 c1, .slice A2 n2 c2] w fun e w' => e = .returned (.tuple #[.int .i64 (kindR l1 l2 : Nat), .bool (tabOk l1 l2)]) ∧ Below w.heap.size w w' := by
  have HI := Lib.hid (iSextetTable B A1 A2 n1 n2 c1 c2 l1 l2 w h1 h2 hB)
  cases hv : tabOk l1 l2 with
  | false =>
    rw [hv] at HI
    have HR := Lib.hid (kind_no hv).1
    clear hv h1 h2
    go_enter Try.func27, Try.ntmps27
    go_wp2_with fail
    refine HI.out.mono ?_
    rintro e w1 ⟨A3, n3, c3, rfl, o3, b3⟩
    have HB := Lib.hid b3
    clear o3 b3
    go_wp2
    go_ret2
    rw [HR.out]
    exact ⟨rfl, HB.out⟩
  | true =>
    rw [hv, (kind_yes hv).2] at HI
    obtain ⟨t, u, e1, e2, ht, h4, hu, hu4⟩ := tab_nat hv
    have hm4 : most (tabF (l1.map Int.toNat) (l2.map Int.toNat)) ≤ 4 := by
      rw [e1, e2, nl_back, nl_back]; exact (tab_tab ht h4 hu hu4).most_four
    have HR := Lib.hid (kind_yes hv).1
    have HMX := Lib.hid (max_tab (l1.map Int.toNat) (l2.map Int.toNat))
    have HRW := Lib.hid (row_has (l1.map Int.toNat) (l2.map Int.toNat) (most (tabF (l1.map Int.toNat) (l2.map Int.toNat))))
    have hlen : (nl (tabTo (l1.map Int.toNat) (l2.map Int.toNat) 36)).length = 36 := by rw [nl_length, tabTo_len]
    clear hv h1 h2 e1 e2 ht h4 hu hu4
    have HKD := Lib.hid (show kind (tabF (l1.map Int.toNat) (l2.map Int.toNat)) = 10 * most (tabF (l1.map Int.toNat) (l2.map Int.toNat)) + rowsTo (tabF (l1.map Int.toNat) (l2.map Int.toNat)) (most (tabF (l1.map Int.toNat) (l2.map Int.toNat))) 6 from rfl)
    generalize nl (tabTo (l1.map Int.toNat) (l2.map Int.toNat) 36) = T at HI HMX HRW hlen
    generalize tabF (l1.map Int.toNat) (l2.map Int.toNat) = M at HR HMX HRW HKD hm4
    generalize most M = m at HMX HRW HKD hm4
    go_enter Try.func27, Try.ntmps27
    go_wp2_with fail
    refine HI.out.mono ?_
    rintro e w1 ⟨A3, n3, c3, rfl, o3, b3⟩
    obtain rfl : n3 = 36 := by have := o3.length; omega
    have HMC := Lib.hid (maxInts _ _ _ _ _ w1 o3.sl (by decide) (by decide))
    rw [HMX.out] at HMC
    obtain ⟨b, rfl, -, -⟩ := o3.form (by decide)
    have hcap := o3.le
    have hmax := o3.sl.max
    have HS := Lib.hid o3.sl
    have HB := Lib.hid b3
    clear o3 b3
    go_wp2_with fail
    refine HMC.out.mono ?_
    rintro e w' ⟨rfl, rfl⟩
    go_wp2
    go_loop [9, 21] (fun v iv => ∃ i : Nat, i ≤ 6 ∧ iv = .int .i64 i ∧ v = .int .i64 (rowsTo M m i : Nat)) (fun _ iv => 6 - (intOf iv).toNat)
    case atStart => exact ⟨0, Nat.zero_le _, rfl, rfl⟩
    case round =>
      obtain ⟨i, hi, rfl, rfl⟩ := hrel
      have hrl := rowsTo_le M m i
      by_cases hlt : i < 6
      · have f1 : decide ((i : Int) < 6) = true := by simp; omega
        have f2 : ((6 : Int) * (i : Int)).toNat = 6 * i := by omega
        have f3 : ((6 : Int) * (i : Int) + 6).toNat = 6 * i + 6 := by omega
        have f4 : (6 : Int) * (i : Int) + 6 ≤ (c3 : Int) := by omega
        have f5 : (0 : Int) ≤ 6 * (i : Int) := by omega
        have s1 := HS.out.part (6 * i) 6 (c3 - 6 * i) (by omega) (by omega) (by omega)
        rw [Nat.zero_add] at s1
        have HC := Lib.hid (containsInts _ _ _ _ _ (m : Int) w1 s1 (by decide))
        rw [HRW.out i hlt] at HC
        have HSU := Lib.hid (rowsTo_succ M m i)
        have hne : ¬ c3 = 6 * i := by omega
        clear s1
        cases hh : decide (0 < hits M m i) with
        | true =>
          rw [hh] at HC
          rw [if_pos (by simpa using hh)] at HSU
          clear hh
          go_wp2_with fail
          refine HC.out.mono ?_
          rintro e w' ⟨rfl, rfl⟩
          go_wp2
          go_round
          case rel => exact ⟨i + 1, by omega, by go_num, by rw [HSU.out]; go_num⟩
          case measure => simp [intOf]; omega
        | false =>
          rw [hh] at HC
          rw [if_neg (by simpa using hh)] at HSU
          clear hh
          go_wp2_with fail
          refine HC.out.mono ?_
          rintro e w' ⟨rfl, rfl⟩
          go_wp2
          go_round
          case rel => exact ⟨i + 1, by omega, by go_num, by rw [HSU.out]; go_num⟩
          case measure => simp [intOf]; omega
      · obtain rfl : i = 6 := by omega
        go_wp2
        go_ret2
        rw [HR.out, HKD.out]
        exact ⟨rfl, HB.out⟩

set_option maxHeartbeats 1000000 in
theorem sSextetKind (B : Nat) (A1 A2 : Option Addr) (n1 n2 c1 c2 : Nat) (l1 l2 : List Int) (w : World) (h1 : Sl w B A1 n1 c1 l1) (h2 : Sl w B A2 n2 c2 l2) (hB : B ≤ w.heap.size) :
    Calls Try.prog 26 #[.slice A1 n1 c1, .slice A2 n2 c2] w fun e w' => e = .returned (.tuple #[.int .i64 (kindR l1 l2 : Nat), .bool (tabOk l1 l2)]) ∧ Below w.heap.size w w' := by
  have HI := Lib.hid (sSextetTable B A1 A2 n1 n2 c1 c2 l1 l2 w h1 h2 hB)
  cases hv : tabOk l1 l2 with
  | false =>
    rw [hv] at HI
    have HR := Lib.hid (kind_no hv).1
    clear hv h1 h2
    go_enter Try.func26, Try.ntmps26
    go_wp2_with fail
    refine HI.out.mono ?_
    rintro e w1 ⟨A3, n3, c3, rfl, o3, b3⟩
    have HB := Lib.hid b3
    clear o3 b3
    go_wp2
    go_ret2
    rw [HR.out]
    exact ⟨rfl, HB.out⟩
  | true =>
    rw [hv, (kind_yes hv).2] at HI
    obtain ⟨t, u, e1, e2, ht, h4, hu, hu4⟩ := tab_nat hv
    have hm4 : ∀ k, k ≤ 36 → mostTo (tabJ (tabF (l1.map Int.toNat) (l2.map Int.toNat))) k ≤ 4 := fun k hk => by
      rw [e1, e2, nl_back, nl_back]
      exact mostTo_of fun j hj => Nat.le_trans (most_le _ (show j / 6 < 6 by omega) (show j % 6 < 6 by omega)) (tab_tab ht h4 hu hu4).most_four
    have HR := Lib.hid (kind_yes hv).1
    have hat : ∀ i k, i < 6 → k < 6 → (tabTo (l1.map Int.toNat) (l2.map Int.toNat) 36)[6 * i + k]? = some (tabF (l1.map Int.toNat) (l2.map Int.toNat) i k) := fun i k hi hk => tabTo_get _ _ hk (by omega)
    have hat2 : ∀ j, j < 36 → (tabTo (l1.map Int.toNat) (l2.map Int.toNat) 36)[j]? = some (tabJ (tabF (l1.map Int.toNat) (l2.map Int.toNat)) j) := fun j hj => by
      have := hat (j / 6) (j % 6) (by omega) (by omega)
      rwa [show 6 * (j / 6) + j % 6 = j from by omega] at this
    have hlen : (nl (tabTo (l1.map Int.toNat) (l2.map Int.toNat) 36)).length = 36 := by rw [nl_length, tabTo_len]
    have HKD := Lib.hid (show kind (tabF (l1.map Int.toNat) (l2.map Int.toNat)) = 10 * mostTo (tabJ (tabF (l1.map Int.toNat) (l2.map Int.toNat))) 36 + rowsTo (tabF (l1.map Int.toNat) (l2.map Int.toNat)) (mostTo (tabJ (tabF (l1.map Int.toNat) (l2.map Int.toNat))) 36) 6 from rfl)
    have HA := Lib.hid hat
    have HA2 := Lib.hid hat2
    have HM4 := Lib.hid hm4
    clear hv h1 h2 e1 e2 ht h4 hu hu4 hat hat2 hm4
    generalize tabTo (l1.map Int.toNat) (l2.map Int.toNat) 36 = T at HI HA HA2 hlen
    generalize tabF (l1.map Int.toNat) (l2.map Int.toNat) = M at HR HA HA2 HKD HM4
    go_enter Try.func26, Try.ntmps26
    go_wp2_with fail
    refine HI.out.mono ?_
    rintro e w1 ⟨A3, n3, c3, rfl, o3, b3⟩
    obtain rfl : n3 = 36 := by have := o3.length; omega
    have HS := Lib.hid o3.sl
    have HB := Lib.hid b3
    clear o3 b3
    go_wp2
    go_loop [8, 9] (fun v iv => ∃ k : Nat, k ≤ 36 ∧ iv = .int .i64 k ∧ v = .int .i64 (mostTo (tabJ M) k : Nat)) (fun _ iv => 36 - (intOf iv).toNat)
    case atStart => exact ⟨0, Nat.zero_le _, rfl, rfl⟩
    case round =>
      obtain ⟨k, hk, rfl, rfl⟩ := hrel
      have hmk := HM4.out k hk
      by_cases hlt : k < 36
      · obtain ⟨b, o, y, rfl, hb, hy, hc⟩ := HS.out.nat hlt
        have hyv := HA2.out k hlt
        rw [hy] at hyv
        injection hyv with hyv
        subst hyv
        have HSU := Lib.hid (show mostTo (tabJ M) (k + 1) = max (mostTo (tabJ M) k) (tabJ M k) from rfl)
        clear hy
        go_wp2
        go_round
        case rel => exact ⟨k + 1, by omega, by go_num, int_eq (by rw [HSU.out]; omega)⟩
        case measure => simp [intOf]; omega
      · obtain rfl : k = 36 := by omega
        generalize mostTo (tabJ M) 36 = m at HKD hmk
        go_wp2
        go_loop [10, 11] (fun v iv => ∃ i : Nat, i ≤ 6 ∧ iv = .int .i64 i ∧ v = .int .i64 (rowsTo M m i : Nat)) (fun _ iv => 6 - (intOf iv).toNat)
        case atStart => exact ⟨0, Nat.zero_le _, rfl, rfl⟩
        case round =>
          obtain ⟨i, hi, rfl, rfl⟩ := hrel
          have hrl := rowsTo_le M m i
          by_cases hli : i < 6
          · have f1 : decide ((i : Int) < 6) = true := by simp; omega
            have HSU := Lib.hid (rowsTo_succ M m i)
            go_wp2
            go_loop [12, 13] (fun v kv => ∃ k : Nat, k ≤ 6 ∧ kv = .int .i64 k ∧ v = .bool (decide (0 < hitsTo M m i k))) (fun _ kv => 6 - (intOf kv).toNat)
            case atStart => exact ⟨0, Nat.zero_le _, rfl, rfl⟩
            case round =>
              obtain ⟨k, hk, rfl, rfl⟩ := hrel
              by_cases hkl : k < 6
              · obtain ⟨b, o, y, rfl, hb, hy, hc⟩ := HS.out.nat (k := 6 * i + k) (by omega)
                have hyv := HA.out i k hli hkl
                rw [hy] at hyv
                injection hyv with hyv
                subst hyv
                have g1 : decide ((k : Int) < 6) = true := by simp; omega
                have j0 : (0 : Int) ≤ 6 * (i : Int) + (k : Int) := by omega
                have j1 : 6 * (i : Int) + (k : Int) < 36 := by omega
                have j2 : (6 * (i : Int) + (k : Int)).toNat = 6 * i + k := by omega
                clear hy
                by_cases hh : 0 < hitsTo M m i k
                · have e1 : decide (0 < hitsTo M m i k) = true := decide_eq_true hh
                  have HN := Lib.hid (decide_eq_true (hitsTo_yes hh))
                  rw [e1]
                  clear e1 hh
                  go_wp2
                  go_round
                  case rel => exact ⟨k + 1, by omega, by go_num, by rw [HN.out]⟩
                  case measure => simp [intOf]; omega
                · have e1 : decide (0 < hitsTo M m i k) = false := decide_eq_false hh
                  have HN := Lib.hid (hitsTo_new hh)
                  have e2 := int_beq (M i k) m
                  rw [e1]
                  clear e1 hh
                  generalize decide (M i k = m) = v at HN e2
                  cases v
                  all_goals
                    go_wp2
                    go_round
                    case rel => exact ⟨k + 1, by omega, by go_num, by rw [HN.out]⟩
                    case measure => simp [intOf]; omega
              · obtain rfl : k = 6 := by omega
                have HH := Lib.hid (show hitsTo M m i 6 = hits M m i from rfl)
                cases hh : decide (0 < hits M m i) with
                | true =>
                  rw [HH.out, hh]
                  rw [if_pos (by simpa using hh)] at HSU
                  clear hh
                  go_wp2
                  go_round
                  case rel => exact ⟨i + 1, by omega, by go_num, by rw [HSU.out]; go_num⟩
                  case measure => simp [intOf]; omega
                | false =>
                  rw [HH.out, hh]
                  rw [if_neg (by simpa using hh)] at HSU
                  clear hh
                  go_wp2
                  go_round
                  case rel => exact ⟨i + 1, by omega, by go_num, by rw [HSU.out]; go_num⟩
                  case measure => simp [intOf]; omega
          · obtain rfl : i = 6 := by omega
            go_wp2
            go_ret2
            rw [HR.out, HKD.out]
            exact ⟨rfl, HB.out⟩
end Go.Proofs.Ytbpgaphcpgfafaa
