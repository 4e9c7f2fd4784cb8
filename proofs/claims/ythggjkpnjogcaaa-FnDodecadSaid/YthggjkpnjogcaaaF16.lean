import Derived.OwnWalk
import Derived.Test.YthggjkpnjogcaaaC9
import Derived.Test.YthggjkpnjogcaaaC10
import Derived.Test.YthggjkpnjogcaaaN2
namespace Go.Proofs.Ythggjkpnjogcaaa
open Go.RowKit

/-- What 'DodecadOf' answers. -/
def dodOk (x : Int) : Bool := codZ x && (decide (wt x.toNat = 12) && (dodF x.toNat).isSome)
def dodA (x : Int) : Nat := if dodOk x then (dodF x.toNat).getD 0 else 0
def dodB (x : Int) : Nat := if dodOk x then (dodF x.toNat).getD 0 ^^^ x.toNat else 0
theorem dod_not {x : Int} (h : dodOk x = false) : dodA x = 0 ∧ dodB x = 0 := ⟨by unfold dodA; rw [h]; exact if_neg (by decide), by unfold dodB; rw [h]; exact if_neg (by decide)⟩
theorem dod_no {x : Int} (h : codZ x = false ∨ wt x.toNat ≠ 12 ∨ dodF x.toNat = none) : dodOk x = false := by
  unfold dodOk; rcases h with h | h | h <;> simp [h]
theorem dod_yes {n a : Nat} (hc : Cod n) (h12 : wt n = 12) (h : dodF n = some a) : dodOk n = true ∧ dodA n = a ∧ dodB n = a ^^^ n := by
  have h1 : dodOk n = true := by unfold dodOk; rw [codZ_nat n hc.1, hc.2, Int.toNat_natCast, h]; simp [h12]
  refine ⟨h1, ?_, ?_⟩
  · unfold dodA; rw [if_pos h1, Int.toNat_natCast, h]; rfl
  · unfold dodB; rw [if_pos h1, Int.toNat_natCast, h]; rfl
theorem dod_nat {x : Int} (h : dodOk x = true) : ∃ n a : Nat, x = n ∧ Cod n ∧ wt n = 12 ∧ dodF n = some a := by
  unfold dodOk at h
  simp only [Bool.and_eq_true, decide_eq_true_eq] at h
  obtain ⟨h1, h2, h3⟩ := h
  rcases word_cases x with ⟨n, rfl, hn⟩ | hx
  · rw [codZ_nat n hn] at h1
    rw [Int.toNat_natCast] at h2 h3
    obtain ⟨a, ha⟩ := Option.isSome_iff_exists.1 h3
    exact ⟨n, a, rfl, ⟨hn, h1⟩, h2, ha⟩
  · rw [codZ_no x hx] at h1; cases h1
theorem oct_part {n a : Nat} (hn : Cod n) (ha : Oct a) : octZ ((a ^^^ n : Nat) : Int) = dodP n a := by
  have h := cod_xor ha.1 hn
  rw [octZ_nat _ h.1]
  unfold isOct dodP
  rw [h.2, Bool.true_and]

set_option maxRecDepth 100000 in
set_option maxHeartbeats 1000000 in
theorem iDodecadOf (x : Int) (w : World) :
    Calls Try.prog 16 #[.int .i64 x] w fun e w' => e = .returned (.tuple #[.int .i64 (dodA x : Nat), .int .i64 (dodB x : Nat), .bool (dodOk x)]) ∧ Below w.heap.size w w' := by
  have HI := Lib.hid (iCodeInZ x w)
  cases hv : codZ x with
  | false =>
    rw [hv] at HI
    have hno := dod_no (.inl hv)
    have HR := Lib.hid (And.intro hno (dod_not hno))
    clear hv hno
    go_enter Try.func16, Try.ntmps16
    go_wp2_with fail
    refine HI.out.mono ?_
    rintro e w1 ⟨rfl, b1⟩
    have HB := Lib.hid b1
    clear b1
    go_wp2
    go_ret3
    rw [HR.out.1, HR.out.2.1, HR.out.2.2]
    exact ⟨rfl, HB.out⟩
  | true =>
    rw [hv] at HI
    rcases word_cases x with ⟨n, rfl, hn⟩ | hx
    · rw [codZ_nat n hn] at hv
      have hcod : Cod n := ⟨hn, hv⟩
      have HW := Lib.hid (fun W => iweight n W hn)
      by_cases h12 : wt n = 12
      · rw [h12] at HW
        have HAll := Lib.hid (fun W => ioctadsWith 0 W (by decide))
        have hyes : hasf 0 0 = yes := by funext z; simp [hasf, yes]
        rw [hyes] at HAll
        have hoc := oct_count
        have HAT := Lib.hid (fun (k a : Nat) (ha : (octs yes)[k]? = some a) => oct_at ha)
        have HOI := Lib.hid (fun (k a : Nat) (ha : (octs yes)[k]? = some a) W => iOct_is ((a ^^^ n : Nat) : Int) _ (oct_part hcod (oct_at ha)) W)
        have HHIT := Lib.hid (fun (k a : Nat) (hk : (octs yes)[k]? = some a) (hp : dodP n a = true) (hno : ∀ (j b : Nat), j < k → (octs yes)[j]? = some b → dodP n b = false) =>
          And.intro (dod_yes hcod h12 (dod_hit hk hp hno)) (And.intro (dod_less hcod h12 hk hp hno).1 (dod_less hcod h12 hk hp hno).2.1.1))
        have HNONE := Lib.hid (fun (hno : ∀ (j b : Nat), (octs yes)[j]? = some b → dodP n b = false) => And.intro (dod_no (x := (n : Int)) (.inr (.inr (dod_none hno)))) (dod_not (dod_no (x := (n : Int)) (.inr (.inr (dod_none hno))))))
        clear hv h12 hyes hcod
        generalize octs yes = L at HAll hoc HAT HOI HHIT HNONE
        go_enter Try.func16, Try.ntmps16
        go_wp2_with fail
        refine HI.out.mono ?_
        rintro e w1 ⟨rfl, b1⟩
        go_wp2_with fail
        refine (HW.out w1).mono ?_
        rintro e w' ⟨rfl, rfl⟩
        go_wp2_with fail
        refine (HAll.out w1).mono ?_
        rintro e w2 ⟨A2, n2, c2, rfl, o2, b2⟩
        obtain rfl : n2 = 759 := by have := o2.length; rw [nl_length, hoc] at this; omega
        have B2 := Lib.hid (below_to b1 b2 (Nat.le_refl _))
        have S2 := Lib.hid o2.sl
        clear b1 b2 o2 HI HAll
        go_wp2
        go_loopw [17] (fun iv wr => ∃ k : Nat, k ≤ 759 ∧ iv = .int .i64 k ∧ Below w.heap.size w wr ∧ Sl wr wr.heap.size A2 759 c2 (nl L) ∧ ∀ (j b : Nat), j < k → L[j]? = some b → dodP n b = false) (fun iv _ => 759 - (intOf iv).toNat)
        case atStart => exact ⟨0, Nat.zero_le _, rfl, B2.out, S2.out, by omega⟩
        case round =>
          obtain ⟨k, hk, rfl, hb, hs, hno⟩ := hrel
          have B := Lib.hid hb
          have S := Lib.hid hs
          have HN := Lib.hid hno
          clear hb hs hno
          by_cases hlt : k < 759
          · obtain ⟨bb, o, a, rfl, hbl, ha, hc⟩ := S.out.nat hlt
            have hal := oct_lt (HAT.out k a ha)
            have HO := Lib.hid (HOI.out k a ha wr)
            have hxor := i64_xor a n (by omega) (by omega)
            cases hp : dodP n a with
            | true =>
              rw [hp] at HO
              obtain ⟨⟨r1, r2, r3⟩, hless, -⟩ := HHIT.out k a ha hp HN.out
              have HR := Lib.hid (And.intro r1 (And.intro r2 r3))
              have hmin : min (a : Int) ((a ^^^ n : Nat) : Int) = (a : Int) := by omega
              have hmax : max (a : Int) ((a ^^^ n : Nat) : Int) = ((a ^^^ n : Nat) : Int) := by omega
              clear hp ha r1 r2 r3
              go_wp2_with fail
              refine HO.out.mono ?_
              rintro e w5 ⟨rfl, b5⟩
              have HB := Lib.hid (below_to B.out b5 (Nat.le_refl _))
              clear b5
              go_wp2
              go_ret3
              rw [HR.out.1, HR.out.2.1, HR.out.2.2]
              first
                | exact ⟨rfl, HB.out⟩
                | (rw [hmin, hmax]; exact ⟨rfl, HB.out⟩)
                | (refine ⟨ret_eq ?_, HB.out⟩; congr 2 <;> first | rfl | (exact int_eq (by omega)))
            | false =>
              rw [hp] at HO
              have HA := Lib.hid ha
              have HP := Lib.hid hp
              clear hp ha
              go_wp2_with fail
              refine HO.out.mono ?_
              rintro e w5 ⟨rfl, b5⟩
              have HB := Lib.hid (below_to B.out b5 (Nat.le_refl _))
              have HS := Lib.hid ((S.out.below b5).more b5.size)
              clear b5
              go_wp2
              go_roundw
              case rel =>
                refine ⟨k + 1, by omega, by go_num, HB.out, HS.out, fun j b hj hb => ?_⟩
                by_cases hjk : j = k
                · subst hjk
                  have := HA.out
                  rw [hb] at this
                  injection this with this
                  rw [this]; exact HP.out
                · exact HN.out j b (by omega) hb
              case measure => simp [intOf]; omega
          · obtain rfl : k = 759 := by omega
            have HR := Lib.hid (HNONE.out fun j b hb => HN.out j b (by have := (List.getElem?_eq_some_iff.1 hb).1; omega) hb)
            go_wp2
            go_ret3
            rw [HR.out.1, HR.out.2.1, HR.out.2.2]
            exact ⟨rfl, B.out⟩
      · have hno := dod_no (x := (n : Int)) (.inr (.inl h12))
        have HR := Lib.hid (And.intro hno (dod_not hno))
        have e1 : ((wt n : Int) != 12) = true := by simp; omega
        clear hno h12 hv hcod
        go_enter Try.func16, Try.ntmps16
        go_wp2_with fail
        refine HI.out.mono ?_
        rintro e w1 ⟨rfl, b1⟩
        go_wp2_with fail
        refine (HW.out w1).mono ?_
        rintro e w' ⟨rfl, rfl⟩
        have HB := Lib.hid b1
        clear b1
        go_wp2
        go_ret3
        rw [HR.out.1, HR.out.2.1, HR.out.2.2]
        exact ⟨rfl, HB.out⟩
    · rw [codZ_no x hx] at hv; cases hv

set_option maxRecDepth 100000 in
set_option maxHeartbeats 1000000 in
theorem sDodecadOf (x : Int) (w : World) :
    Calls Try.prog 17 #[.int .i64 x] w fun e w' => e = .returned (.tuple #[.int .i64 (dodA x : Nat), .int .i64 (dodB x : Nat), .bool (dodOk x)]) ∧ Below w.heap.size w w' := by
  have HI := Lib.hid (sCodeInZ x w)
  cases hv : codZ x with
  | false =>
    rw [hv] at HI
    have hno := dod_no (.inl hv)
    have HR := Lib.hid (And.intro hno (dod_not hno))
    clear hv hno
    go_enter Try.func17, Try.ntmps17
    go_wp2_with fail
    refine HI.out.mono ?_
    rintro e w1 ⟨rfl, b1⟩
    have HB := Lib.hid b1
    clear b1
    go_wp2
    go_ret3
    rw [HR.out.1, HR.out.2.1, HR.out.2.2]
    exact ⟨rfl, HB.out⟩
  | true =>
    rw [hv] at HI
    rcases word_cases x with ⟨n, rfl, hn⟩ | hx
    · rw [codZ_nat n hn] at hv
      have hcod : Cod n := ⟨hn, hv⟩
      have HW := Lib.hid (fun W => sweight n W hn)
      by_cases h12 : wt n = 12
      · rw [h12] at HW
        have HAll := Lib.hid (fun W => sl4All W)
        have hoc := oct_count
        have HAT := Lib.hid (fun (k a : Nat) (ha : (octs yes)[k]? = some a) => oct_at ha)
        have HHIT := Lib.hid (fun (k a : Nat) (hk : (octs yes)[k]? = some a) (hp : dodP n a = true) (hno : ∀ (j b : Nat), j < k → (octs yes)[j]? = some b → dodP n b = false) =>
          And.intro (dod_yes hcod h12 (dod_hit hk hp hno)) (And.intro (dod_less hcod h12 hk hp hno).1 (dod_less hcod h12 hk hp hno).2.1.1))
        have HNONE := Lib.hid (fun (hno : ∀ (j b : Nat), (octs yes)[j]? = some b → dodP n b = false) => And.intro (dod_no (x := (n : Int)) (.inr (.inr (dod_none hno)))) (dod_not (dod_no (x := (n : Int)) (.inr (.inr (dod_none hno))))))
        clear hv h12 hcod
        generalize octs yes = L at HAll hoc HAT HHIT HNONE
        go_enter Try.func17, Try.ntmps17
        go_wp2_with fail
        refine HI.out.mono ?_
        rintro e w1 ⟨rfl, b1⟩
        go_wp2_with fail
        refine (HW.out w1).mono ?_
        rintro e w' ⟨rfl, rfl⟩
        go_wp2_with fail
        refine (HAll.out w1).mono ?_
        rintro e w2 ⟨A2, n2, c2, rfl, o2, b2⟩
        obtain rfl : n2 = 759 := by have := o2.length; rw [nl_length, hoc] at this; omega
        have B2 := Lib.hid (below_to b1 b2 (Nat.le_refl _))
        have S2 := Lib.hid o2.sl
        clear b1 b2 o2 HI HAll
        go_wp2
        go_loop [6] (fun iv => ∃ k : Nat, k ≤ 759 ∧ iv = .int .i64 k ∧ ∀ (j b : Nat), j < k → L[j]? = some b → dodP n b = false) (fun iv => 759 - (intOf iv).toNat)
        case atStart => exact ⟨0, Nat.zero_le _, rfl, by omega⟩
        case round =>
          obtain ⟨k, hk, rfl, hno⟩ := hrel
          have HN := Lib.hid hno
          clear hno
          by_cases hlt : k < 759
          · obtain ⟨bb, o, a, rfl, hbl, ha, hc⟩ := S2.out.nat hlt
            have hal := oct_lt (HAT.out k a ha)
            have hxl := xor_lt hal hn
            have hxor := i64_xor n a (by omega) (by omega)
            rw [Nat.xor_comm n a] at hxor
            have HWx := Lib.hid (fun W => sweight (a ^^^ n) W hxl)
            cases hp : dodP n a with
            | true =>
              obtain ⟨⟨r1, r2, r3⟩, hless, -⟩ := HHIT.out k a ha hp HN.out
              have HR := Lib.hid (And.intro r1 (And.intro r2 r3))
              have h8 : wt (a ^^^ n) = 8 := by unfold dodP at hp; exact beq_iff_eq.1 hp
              rw [h8] at HWx
              have g1 : decide ((a : Int) < ((a ^^^ n : Nat) : Int)) = true := by simp; omega
              clear hp ha r1 r2 r3 h8
              go_wp2_with (first | (go_at_call 64; refine (HWx.out _).mono ?_; rintro e w' ⟨rfl, rfl⟩))
              go_ret3
              rw [HR.out.1, HR.out.2.1, HR.out.2.2]
              exact ⟨rfl, B2.out⟩
            | false =>
              have h8 : ((wt (a ^^^ n) : Int) == 8) = false := by rw [show (8 : Int) = ((8 : Nat) : Int) from rfl, int_beq']; exact hp
              have HA := Lib.hid ha
              have HP := Lib.hid hp
              have hnew : ∀ (j b : Nat), j < k + 1 → L[j]? = some b → dodP n b = false := fun j b hj hb => by
                by_cases hjk : j = k
                · subst hjk
                  have := HA.out
                  rw [hb] at this
                  injection this with this
                  rw [this]; exact HP.out
                · exact HN.out j b (by omega) hb
              have HNEW := Lib.hid hnew
              clear hp ha hnew
              by_cases hgt : a < a ^^^ n
              · have g1 : decide ((a : Int) < ((a ^^^ n : Nat) : Int)) = true := by simp; omega
                go_wp2_with (first | (go_at_call 64; refine (HWx.out _).mono ?_; rintro e w' ⟨rfl, rfl⟩))
                go_round
                case rel => exact ⟨k + 1, by omega, by go_num, HNEW.out⟩
                case measure => simp [intOf]; omega
              · have g1 : decide ((a : Int) < ((a ^^^ n : Nat) : Int)) = false := by simp; omega
                go_wp2
                go_round
                case rel => exact ⟨k + 1, by omega, by go_num, HNEW.out⟩
                case measure => simp [intOf]; omega
          · obtain rfl : k = 759 := by omega
            have HR := Lib.hid (HNONE.out fun j b hb => HN.out j b (by have := (List.getElem?_eq_some_iff.1 hb).1; omega) hb)
            go_wp2
            go_ret3
            rw [HR.out.1, HR.out.2.1, HR.out.2.2]
            exact ⟨rfl, B2.out⟩
      · have hno := dod_no (x := (n : Int)) (.inr (.inl h12))
        have HR := Lib.hid (And.intro hno (dod_not hno))
        have e1 : ((wt n : Int) != 12) = true := by simp; omega
        clear hno h12 hv hcod
        go_enter Try.func17, Try.ntmps17
        go_wp2_with fail
        refine HI.out.mono ?_
        rintro e w1 ⟨rfl, b1⟩
        go_wp2_with fail
        refine (HW.out w1).mono ?_
        rintro e w' ⟨rfl, rfl⟩
        have HB := Lib.hid b1
        clear b1
        go_wp2
        go_ret3
        rw [HR.out.1, HR.out.2.1, HR.out.2.2]
        exact ⟨rfl, HB.out⟩
    · rw [codZ_no x hx] at hv; cases hv
end Go.Proofs.Ythggjkpnjogcaaa
