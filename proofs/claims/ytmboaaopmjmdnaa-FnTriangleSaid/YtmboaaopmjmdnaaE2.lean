import Derived.Test.YtmboaaopmjmdnaaC9
import Derived.Test.YtmboaaopmjmdnaaA6
namespace Go.Proofs.Ytmboaaopmjmdnaa
open Go.RowKit

set_option maxHeartbeats 400000 in
theorem sWordOf (B : Nat) (A : Option Addr) (n cap : Nat) (l : List Int) (w : World) (h : Sl w B A n cap l) (hn : n ≤ 1048576) :
    Calls Try.prog 33 #[.slice A n cap] w fun e w' => e = .returned (.tuple #[.int .i64 ((wordOf l).getD 0 : Nat), .bool (wordOf l).isSome]) ∧ w = w' := by
  have HS := Lib.hid h
  clear h
  go_enter Try.func33, Try.ntmps33
  go_wp2
  go_loop [4, 5] (fun u i => ∃ k a : Nat, k ≤ n ∧ i = .int .i64 k ∧ u = .int .i64 a ∧ a < 16777216 ∧ wordOf (l.take k) = some a) (fun _ i => n - (intOf i).toNat)
  case atStart => exact ⟨0, 0, Nat.zero_le _, rfl, rfl, by omega, rfl⟩
  case round =>
    obtain ⟨k, a, hk, rfl, rfl, ha, hw⟩ := hrel
    have HW := Lib.hid hw
    clear hw
    by_cases hlt : k < n
    · obtain ⟨b, o, x, rfl, hb, hx, hc⟩ := HS.out.get hlt
      have HX := Lib.hid hx
      clear hx
      have hstep := wordOf_take HX.out
      rw [HW.out] at hstep
      have HT := Lib.hid hstep
      clear hstep
      have hi0 : (0 : Int) ≤ (k : Int) := by omega
      have hi1 : (k : Int) < (n : Int) := by omega
      by_cases hv : 0 ≤ x ∧ x ≤ 23
      · obtain ⟨h0, h23⟩ := hv
        obtain ⟨p, rfl⟩ := Int.eq_ofNat_of_zero_le h0
        have HI := Lib.hid (fun W => l6In_yes (p : Int) 0 23 W h0 h23)
        have HL := Lib.hid (fun W => l1Bit_any a p W (by omega) (by omega))
        by_cases hb : a.testBit p = true
        · have e1 : ((bt a p : Int) == 1) = true := by rw [bt_one.2 hb]; rfl
          have hf : wordOf l = none := wordOf_none (k + 1) (by rw [HT.out]; simp [step, hb])
          have HF := Lib.hid hf
          clear hb hf
          go_wp2_with (first | (go_at_call 47; refine (HI.out _).mono ?_; rintro e w' ⟨rfl, rfl⟩) | (go_at_call 29; refine (HL.out _).mono ?_; rintro e w' ⟨rfl, rfl⟩))
          go_ret2
          rw [HF.out]
          exact ⟨rfl, rfl⟩
        · have hb : a.testBit p = false := by simpa using hb
          have e1 : ((bt a p : Int) == 1) = false := by rw [bt_zero.2 hb]; rfl
          have HB := Lib.hid hb
          clear hb
          go_wp2_with (first | (go_at_call 47; refine (HI.out _).mono ?_; rintro e w' ⟨rfl, rfl⟩) | (go_at_call 29; refine (HL.out _).mono ?_; rintro e w' ⟨rfl, rfl⟩))
          go_round
          case rel =>
            refine ⟨k + 1, a ||| 1 <<< p, by omega, by go_num, int_eq (by rw [or_add ha (by omega) HB.out]; exact i64_plus2 a p ha (by omega)), or_lt ha (one_shl_lt (by omega)), ?_⟩
            rw [HT.out]
            have : step a p = some (a ||| 1 <<< p) := by unfold step; rw [if_pos ⟨by omega, by omega, by simpa using HB.out⟩]; simp
            simpa using this
          case measure => simp [intOf]; omega
      · have hf : wordOf l = none := wordOf_none (k + 1) (by rw [HT.out]; show step a x = none; unfold step; rw [if_neg (by omega)])
        have HF := Lib.hid hf
        have HI := Lib.hid (fun W => l6In_no x 0 23 W (by omega))
        clear hf hv
        go_wp2_with (first | (go_at_call 47; refine (HI.out _).mono ?_; rintro e w' ⟨rfl, rfl⟩))
        go_ret2
        rw [HF.out]
        exact ⟨rfl, rfl⟩
    · obtain rfl : k = n := by omega
      have hl := HS.out.len
      have hf : wordOf l = some a := by have := HW.out; rwa [← hl, List.take_length] at this
      have HF := Lib.hid hf
      clear hf hl
      go_wp2
      go_ret2
      rw [HF.out]
      exact ⟨rfl, rfl⟩

/-- What 'OctadThrough' answers. -/
def throughOk (l : List Int) : Bool := (wordOf l).isSome && decide (l.length = 5)
def throughR (l : List Int) : Nat := if throughOk l then (octs (hasf ((wordOf l).getD 0) 0)).headD 0 else 0
theorem through_no {l : List Int} (h : (wordOf l).isSome = false ∨ l.length ≠ 5) : throughOk l = false ∧ throughR l = 0 := by
  have h1 : throughOk l = false := by unfold throughOk; rcases h with h | h <;> simp [h]
  exact ⟨h1, by unfold throughR; rw [h1]; rfl⟩
theorem through_yes {l : List Int} {a : Nat} (h : wordOf l = some a) (h5 : l.length = 5) : throughOk l = true ∧ a < 16777216 ∧ octs (hasf a 0) = [throughR l] := by
  have h1 : throughOk l = true := by unfold throughOk; rw [h]; simp [h5]
  obtain ⟨f1, f2, _⟩ := wordOf_facts l a h
  refine ⟨h1, f1, ?_⟩
  have hl : (octs (hasf a 0)).length = 1 := cnt5 f1 (by omega)
  unfold throughR
  rw [h1, h]
  match hm : octs (hasf a 0), hl with
  | [x], _ => simp
theorem through_oct {l : List Int} (h : throughOk l = true) : Oct (throughR l) := by
  have h' := h
  unfold throughOk at h'
  rw [Bool.and_eq_true, decide_eq_true_eq] at h'
  obtain ⟨a, ha⟩ := Option.isSome_iff_exists.1 h'.1
  have e := (through_yes ha h'.2).2.2
  exact (mem_octs.1 (show throughR l ∈ octs (hasf a 0) from by rw [e]; simp)).1
theorem through_lt (l : List Int) : throughR l < 16777216 := by
  cases h : throughOk l with
  | true => exact oct_lt (through_oct h)
  | false => unfold throughR; rw [h]; simp

set_option maxHeartbeats 400000 in
theorem sOctadThrough (B : Nat) (A : Option Addr) (n cap : Nat) (l : List Int) (w : World) (h : Sl w B A n cap l) (hn : n ≤ 1048576) :
    Calls Try.prog 20 #[.slice A n cap] w fun e w' => e = .returned (.tuple #[.int .i64 (throughR l : Nat), .bool (throughOk l)]) ∧ Below w.heap.size w w' := by
  have HW := Lib.hid (sWordOf B A n cap l w h hn)
  have hl := h.len
  clear h
  cases hw : wordOf l with
  | none =>
    rw [hw] at HW
    have HR := Lib.hid (through_no (l := l) (.inl (by rw [hw]; rfl)))
    clear hw hl
    go_enter Try.func20, Try.ntmps20
    go_wp2_with fail
    refine HW.out.mono ?_
    rintro e w' ⟨rfl, rfl⟩
    go_wp2
    go_ret2
    rw [HR.out.1, HR.out.2]
    exact ⟨rfl, Below.refl _ _⟩
  | some a =>
    rw [hw] at HW
    by_cases h5 : n = 5
    · subst h5
      obtain ⟨hok, hal, hoct⟩ := through_yes hw hl
      have HR := Lib.hid hok
      have HO := Lib.hid (sl4With a w hal)
      rw [hoct] at HO
      clear hw hl hok hoct
      generalize throughR l = r at HO ⊢
      go_enter Try.func20, Try.ntmps20
      go_wp2_with fail
      refine HW.out.mono ?_
      rintro e w' ⟨rfl, rfl⟩
      go_wp2_with fail
      refine HO.out.mono ?_
      rintro e w1 ⟨A1, n1, c1, rfl, o1, b1⟩
      obtain rfl : n1 = 1 := o1.length.symm
      obtain ⟨b', o, x, rfl, hb', hx, hc⟩ := o1.sl.nat (k := 0) (by decide)
      obtain rfl : r = x := by simpa using hx
      have hc0 : w1.cell? ⟨b', o, none⟩ = some (.int .i64 r) := hc
      clear hx hc o1
      go_wp2
      go_ret2
      rw [HR.out]
      exact ⟨rfl, b1⟩
    · have HR := Lib.hid (through_no (l := l) (.inr (by omega)))
      have e1 : ((n : Int) != 5) = true := by simp; omega
      clear hw hl
      go_enter Try.func20, Try.ntmps20
      go_wp2_with fail
      refine HW.out.mono ?_
      rintro e w' ⟨rfl, rfl⟩
      go_wp2
      go_ret2
      rw [HR.out.1, HR.out.2]
      exact ⟨rfl, Below.refl _ _⟩
end Go.Proofs.Ytmboaaopmjmdnaa
