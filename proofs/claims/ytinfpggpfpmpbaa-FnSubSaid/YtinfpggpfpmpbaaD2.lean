import Derived.Test.YtinfpggpfpmpbaaC9
import Derived.Test.YtinfpggpfpmpbaaM12
namespace Go.Proofs.Ytinfpggpfpmpbaa
open Go.RowKit

theorem i64_less (a b : Nat) (ha : a < 9223372036854775808) (hb : b < 9223372036854775808) : bits .andNot .i64 (a : Int) (b : Int) = ((a ^^^ (a &&& b) : Nat) : Int) := by
  have hx : a ^^^ (a &&& b) < 2 ^ 63 := Nat.xor_lt_two_pow (by omega) (Nat.and_lt_two_pow _ (by omega))
  show IntKind.i64.wrap ((BitVec.ofInt 64 (a : Int) &&& ~~~ BitVec.ofInt 64 (b : Int)).toNat : Int) = _
  have e : ∀ x y : BitVec 64, x &&& ~~~ y = x ^^^ (x &&& y) := by
    intro x y
    ext i
    simp
    cases x[i] <;> cases y[i] <;> rfl
  rw [e, BitVec.toNat_xor, BitVec.toNat_and, ofInt_i64 a ha, ofInt_i64 b hb, IntKind.wrap_i64]
  omega

/-- Whether an int is a base. -/
def baseZ (x : Int) : Bool := valid x && decide (wt x.toNat = 3)
theorem baseZ_yes {n : Nat} (hn : n < 16777216) (h : wt n = 3) : baseZ n = true := by unfold baseZ; rw [valid_yes hn]; simp [h]
theorem baseZ_no {x : Int} (h : valid x = false ∨ wt x.toNat ≠ 3) : baseZ x = false := by
  unfold baseZ; rcases h with h | h <;> simp [h]
theorem baseZ_nat {x : Int} (h : baseZ x = true) : ∃ n : Nat, x = n ∧ n < 16777216 ∧ wt n = 3 := by
  rcases word_cases x with ⟨n, rfl, hn⟩ | hx
  · refine ⟨n, rfl, hn, ?_⟩
    unfold baseZ at h
    rw [Bool.and_eq_true, decide_eq_true_eq] at h
    exact h.2
  · rw [baseZ_no (.inl (valid_no hx))] at h; cases h

theorem ibaseOk (x : Int) (w : World) :
    Calls Try.prog 51 #[.int .i64 x] w fun e w' => e = .returned (.bool (baseZ x)) ∧ w = w' := by
  rcases word_cases x with ⟨n, rfl, hn⟩ | hx
  · have HB := Lib.hid (show baseZ (n : Int) = ((wt n : Int) == 3) from by
      unfold baseZ; rw [valid_yes hn, Bool.true_and, show ((3 : Int)) = ((3 : Nat) : Int) from rfl, int_beq]; rfl)
    go_enter Try.func51, Try.ntmps51
    go_wp2_with (first | (go_at_call 71; refine (iWordValid_yes n _ hn).mono ?_; rintro e w' ⟨rfl, rfl⟩) | (go_at_call 67; refine (iweight n _ hn).mono ?_; rintro e w' ⟨rfl, rfl⟩))
    go_ret
    rw [HB.out]
    exact ⟨rfl, rfl⟩
  · have HB := Lib.hid (baseZ_no (.inl (valid_no hx)))
    go_enter Try.func51, Try.ntmps51
    go_wp2_with (first | (go_at_call 71; refine (iWordValid_no x _ hx).mono ?_; rintro e w' ⟨rfl, rfl⟩))
    go_ret
    rw [HB.out]
    exact ⟨rfl, rfl⟩
theorem sbase (x : Int) (w : World) :
    Calls Try.prog 46 #[.int .i64 x] w fun e w' => e = .returned (.bool (baseZ x)) ∧ w = w' := by
  rcases word_cases x with ⟨n, rfl, hn⟩ | hx
  · have HB := Lib.hid (show baseZ (n : Int) = ((wt n : Int) == 3) from by
      unfold baseZ; rw [valid_yes hn, Bool.true_and, show ((3 : Int)) = ((3 : Nat) : Int) from rfl, int_beq]; rfl)
    go_enter Try.func46, Try.ntmps46
    go_wp2_with (first | (go_at_call 62; refine (sWordValid_yes n _ hn).mono ?_; rintro e w' ⟨rfl, rfl⟩) | (go_at_call 63; refine (sweight n _ hn).mono ?_; rintro e w' ⟨rfl, rfl⟩))
    go_ret
    rw [HB.out]
    exact ⟨rfl, rfl⟩
  · have HB := Lib.hid (baseZ_no (.inl (valid_no hx)))
    go_enter Try.func46, Try.ntmps46
    go_wp2_with (first | (go_at_call 62; refine (sWordValid_no x _ hx).mono ?_; rintro e w' ⟨rfl, rfl⟩))
    go_ret
    rw [HB.out]
    exact ⟨rfl, rfl⟩
theorem ibase_is (x : Int) (v : Bool) (h : baseZ x = v) (w : World) :
    Calls Try.prog 51 #[.int .i64 x] w fun e w' => e = .returned (.bool v) ∧ w = w' := by subst h; exact ibaseOk x w
theorem sbase_is (x : Int) (v : Bool) (h : baseZ x = v) (w : World) :
    Calls Try.prog 46 #[.int .i64 x] w fun e w' => e = .returned (.bool v) ∧ w = w' := by subst h; exact sbase x w

set_option maxRecDepth 100000 in
set_option maxHeartbeats 1000000 in
theorem ilines (b s : Nat) (w : World) (hb : b < 16777216) (hs : s < 16777216) (hbs : s &&& b = 0) :
    Calls Try.prog 59 #[.int .i64 b, .int .i64 s] w (Makes (nl (lns b s)) w) := by
  have HOR := Lib.hid (ioctadsWith (b ||| s))
  have hor := i64_or b s (by omega) (by omega)
  have hol := or_lt hb hs
  have HE := Lib.hid (lines_srt hb hbs)
  have HL1 : ∀ k x, (octs (hasf (b ||| s) 0))[k]? = some x → x < 16777216 ∧ Sub b x := fun k x h => by
    obtain ⟨h1, h2⟩ := oct_has (List.mem_of_getElem? h)
    exact ⟨oct_lt h1, (sub_or.1 h2).1⟩
  have hll := octs_len (hasf (b ||| s) 0)
  have HL := Lib.hid HL1
  clear HL1 hbs
  generalize octs (hasf (b ||| s) 0) = L at HOR HE hll HL
  go_enter Try.func59, Try.ntmps59
  go_wp2_with fail
  refine (HOR.out _ hol).mono ?_
  rintro e w1 ⟨A1, n1, c1, rfl, o1, b1⟩
  have hn1 : n1 ≤ 759 := by have := o1.length; rw [nl_length] at this; omega
  have hn2 : L.length = n1 := by have := o1.length; rwa [nl_length] at this
  have HN := Lib.hid hn2
  have R0 := Lib.hid (Run.start (Own.lit w [] (by decide)) ((Below.refl _ _).alloc (Nat.le_refl _) _) (by simp) o1 b1)
  have hs1 : w.heap.size ≤ w1.heap.size := by have := b1.size; simp at this; omega
  clear o1 b1 hn2 hll
  go_wp2
  go_loopw [5, 14] (fun v i wr => ∃ k A cap, k ≤ n1 ∧ i = .int .i64 (k : Nat) ∧ v = .slice A k cap ∧ w.heap.size ≤ wr.heap.size ∧ Run w.heap.size w wr A k cap (nl (adTo b L k)) A1 n1 c1 (nl L)) (fun _ i _ => n1 - (intOf i).toNat)
  case atStart => exact ⟨0, _, _, Nat.zero_le _, rfl, rfl, hs1, R0.out⟩
  case round =>
    obtain ⟨k, A, cap, hk, rfl, rfl, hsz, hrun⟩ := hrel
    have R := Lib.hid hrun
    clear hrun R0
    by_cases hlt : k < n1
    · obtain ⟨b', o, x, rfl, hb', hx, hc⟩ := R.out.sl.nat hlt
      obtain ⟨hxl, hsub⟩ := HL.out k x hx
      have hless := i64_less x b (by omega) (by omega)
      rw [less_xor hsub] at hless
      have HS := Lib.hid (adTo_succ (c := b) hx)
      clear hx hsub
      go_wp2_with (at_builtin; refine wl_run _ rfl (.tmp 18) (.tmp 22) rfl w.heap.size w A _ cap (nl (adTo b L k)) _ _ _ _ _ rfl R.out rfl (by omega) hsz ?_)
      intro A2 cap2 w2 hrun2 hsz2
      have R2 := Lib.hid hrun2
      clear hrun2
      go_wp2
      go_roundw
      case rel =>
        refine ⟨k + 1, A2, cap2, by omega, by go_num, by simp, hsz2, ?_⟩
        have h := R2.out
        rw [HS.out, nl_append]
        simpa [nl] using h
      case measure => simp [intOf]; omega
    · obtain rfl : k = n1 := by omega
      go_wp2_with (first | (go_at_call 55; refine (isorted w.heap.size A k cap _ wr R.out.own (by omega)).mono ?_; rintro e w2 ⟨rfl, o2, b2⟩))
      go_ret
      rw [adTo_all b L k (by rw [HN.out]; exact Nat.le_refl _), HE.out] at o2
      exact ⟨A, k, cap, rfl, o2, R.out.below.trans (b2.below hsz R.out.own.at_base)⟩

set_option maxRecDepth 100000 in
set_option maxHeartbeats 1000000 in
theorem slines (b : Nat) (w : World) (hb : b < 16777216) (h3 : wt b = 3) :
    Calls Try.prog 56 #[.int .i64 b] w (Makes (nl (lns b 0)) w) := by
  have HOR := Lib.hid (sl4With b)
  have he := lines_srt (s := 0) hb (by simp)
  rw [Nat.or_zero] at he
  have HE := Lib.hid he
  have HL1 : ∀ k x, (octs (hasf b 0))[k]? = some x → x < 16777216 := fun k x h => by
    obtain ⟨h1, h2⟩ := oct_has (List.mem_of_getElem? h)
    exact oct_lt h1
  have hll := base_count hb h3
  have HL := Lib.hid HL1
  clear HL1 he
  generalize octs (hasf b 0) = L at HOR HE hll HL
  go_enter Try.func56, Try.ntmps56
  go_wp2_with fail
  refine (HOR.out _ hb).mono ?_
  rintro e w1 ⟨A1, n1, c1, rfl, o1, b1⟩
  obtain rfl : n1 = 21 := by have := o1.length; rw [nl_length] at this; omega
  have HN := Lib.hid hll
  have R0 := Lib.hid (Run.start (Own.lit w [] (by decide)) ((Below.refl _ _).alloc (Nat.le_refl _) _) (by simp) o1 b1)
  have hs1 : w.heap.size ≤ w1.heap.size := by have := b1.size; simp at this; omega
  clear o1 b1 hll
  go_wp2
  go_loopw [3, 5] (fun v i wr => ∃ k A cap, k ≤ 21 ∧ i = .int .i64 (k : Nat) ∧ v = .slice A k cap ∧ w.heap.size ≤ wr.heap.size ∧ Run w.heap.size w wr A k cap (nl (adTo b L k)) A1 21 c1 (nl L)) (fun _ i _ => 21 - (intOf i).toNat)
  case atStart => exact ⟨0, _, _, Nat.zero_le _, rfl, rfl, hs1, R0.out⟩
  case round =>
    obtain ⟨k, A, cap, hk, rfl, rfl, hsz, hrun⟩ := hrel
    have R := Lib.hid hrun
    clear hrun R0
    by_cases hlt : k < 21
    · obtain ⟨b', o, x, rfl, hb', hx, hc⟩ := R.out.sl.nat hlt
      have hxl := HL.out k x hx
      have hxor := i64_xor x b (by omega) (by omega)
      have HS := Lib.hid (adTo_succ (c := b) hx)
      clear hx
      go_wp2_with (at_builtin; refine wl_run _ rfl (.tmp 15) (.tmp 22) rfl w.heap.size w A _ cap (nl (adTo b L k)) _ _ _ _ _ rfl R.out rfl (by omega) hsz ?_)
      intro A2 cap2 w2 hrun2 hsz2
      have R2 := Lib.hid hrun2
      clear hrun2
      go_wp2
      go_roundw
      case rel =>
        refine ⟨k + 1, A2, cap2, by omega, by go_num, by simp, hsz2, ?_⟩
        have h := R2.out
        rw [HS.out, nl_append]
        simpa [nl] using h
      case measure => simp [intOf]; omega
    · obtain rfl : k = 21 := by omega
      go_wp2_with fail
      refine (sl4Sort 21 wr.heap.size A cap _ wr R.out.own.sl (Nat.le_refl _) (by decide)).mono ?_
      rintro e w2 ⟨A2, c2, rfl, -, b2, -, o2⟩
      have HO2 := Lib.hid (o2 (by decide))
      have HB2 := Lib.hid b2
      clear o2 b2
      go_wp2
      go_ret
      have h := HO2.out
      rw [adTo_all b L 21 (by rw [HN.out]; exact Nat.le_refl _), HE.out] at h
      exact ⟨A2, _, c2, rfl, h.base_le hsz, R.out.below.trans (HB2.out.mono hsz)⟩
end Go.Proofs.Ytinfpggpfpmpbaa
