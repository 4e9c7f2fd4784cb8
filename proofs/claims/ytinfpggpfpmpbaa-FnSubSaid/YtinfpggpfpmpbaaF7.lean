import Derived.Test.YtinfpggpfpmpbaaF6
namespace Go.Proofs.Ytinfpggpfpmpbaa
open Go.RowKit

/-- What 'PlaneLine' answers. -/
def lineOk (b p q : Int) : Bool := baseZ b && (ptZ b.toNat p && (ptZ b.toNat q && decide (p ≠ q)))
def lineR (b p q : Int) : Nat := if lineOk b p q then thr b.toNat p.toNat q.toNat else 0
theorem line_no {b p q : Int} (h : baseZ b = false ∨ ptZ b.toNat p = false ∨ ptZ b.toNat q = false ∨ p = q) : lineOk b p q = false ∧ lineR b p q = 0 := by
  have h1 : lineOk b p q = false := by unfold lineOk; rcases h with h | h | h | h <;> simp [h]
  exact ⟨h1, by unfold lineR; rw [h1]; rfl⟩
theorem line_yes {b p q : Nat} (h : Pts b p q) : lineOk b p q = true ∧ lineR b p q = thr b p q := by
  have h1 : lineOk b p q = true := by
    unfold lineOk
    rw [baseZ_yes h.hb h.h3, Int.toNat_natCast, pt_eq h.hp, pt_eq h.hq, h.bp, h.bq]
    have := h.ne
    simp
    omega
  exact ⟨h1, by unfold lineR; rw [h1]; rfl⟩
theorem pts_disj {b p q : Nat} (h : Pts b p q) : (1 <<< p ||| 1 <<< q) &&& b = 0 := by
  have a := pt_disj h.bp
  have c := pt_disj h.bq
  rw [Nat.and_or_distrib_right, a, c]; rfl
theorem wrap_nat' {n : Nat} (h : n < 9223372036854775808) : IntKind.i64.wrap (n : Int) = (n : Int) := by rw [IntKind.wrap_i64]; omega
theorem two_wrap {p q : Nat} (hp : p < 24) (hq : q < 24) (hpq : p ≠ q) : IntKind.i64.wrap (IntKind.i64.wrap (2 ^ p) + IntKind.i64.wrap (2 ^ q)) = ((1 <<< p ||| 1 <<< q : Nat) : Int) := by
  have l1 := one_shl_lt hp
  have l2 := one_shl_lt hq
  rw [two_pow p, two_pow q, wrap_nat' (by omega), wrap_nat' (by omega), or_add l1 hq (by rw [bit_one]; simpa using hpq)]
  rw [show ((1 <<< p : Nat) : Int) + ((1 <<< q : Nat) : Int) = ((1 <<< p + 1 <<< q : Nat) : Int) from by omega]
  exact wrap_nat' (by omega)

theorem two_wrap64 {p q : Nat} (hp : p < 24) (hq : q < 24) (hpq : p ≠ q) : wrap64 (wrap64 (2 ^ p) + wrap64 (2 ^ q)) = ((1 <<< p ||| 1 <<< q : Nat) : Int) := by
  have l1 := one_shl_lt hp
  have l2 := one_shl_lt hq
  rw [i64_two p hp, i64_two q hq, or_add l1 hq (by rw [bit_one]; simpa using hpq)]
  rw [show ((1 <<< p : Nat) : Int) + ((1 <<< q : Nat) : Int) = ((1 <<< p + 1 <<< q : Nat) : Int) from by omega]
  exact wrap_small _ (by omega)

set_option maxHeartbeats 400000 in
theorem sthrough (B : Nat) (A : Option Addr) (cap b p q : Nat) (w : World) (hs : Sl w B A 21 cap (nl (lns b 0))) (h : Pts b p q) :
    Calls Try.prog 65 #[.slice A 21 cap, .int .i64 p, .int .i64 q] w fun e w' => e = .returned (.int .i64 (thr b p q)) ∧ Below w.heap.size w w' := by
  have HS := Lib.hid hs
  have hp := h.hp
  have hq := h.hq
  have HE := Lib.hid (two_wrap64 hp hq h.ne)
  have hDl : (1 <<< p ||| 1 <<< q) < 16777216 := or_lt (one_shl_lt hp) (one_shl_lt hq)
  have hat : ∀ k y : Nat, (lns b 0)[k]? = some y → y < 16777216 ∧ (((y &&& (1 <<< p ||| 1 <<< q)) == (1 <<< p ||| 1 <<< q)) = true → y = thr b p q) := fun k y hy => by
    have hm := ((mem_lns h.hb).1 (List.mem_of_getElem? hy)).1
    refine ⟨line_lt h.hb hm, fun e => ?_⟩
    have e' : Sub (1 <<< p ||| 1 <<< q) y := by unfold Sub; exact beq_iff_eq.1 e
    rw [sub_or, sub_one, sub_one] at e'
    exact thr_eq h hm e'.1 e'.2
  have hex : ∃ j : Nat, j < 21 ∧ (lns b 0)[j]? = some (thr b p q) ∧ ((thr b p q &&& (1 <<< p ||| 1 <<< q)) == (1 <<< p ||| 1 <<< q)) = true := by
    have ht := thr_spec h
    obtain ⟨j, hj⟩ := List.mem_iff_getElem?.1 ((mem_lns h.hb (s := 0)).2 ⟨ht.1, by unfold Sub; simp⟩)
    refine ⟨j, ?_, hj, ?_⟩
    · have := (List.getElem?_eq_some_iff.1 hj).1
      rw [lines_21 h.hb h.h3] at this; exact this
    · have : Sub (1 <<< p ||| 1 <<< q) (thr b p q) := sub_or.2 ⟨sub_one.2 ht.2.1, sub_one.2 ht.2.2⟩
      unfold Sub at this
      rw [beq_iff_eq]; exact this
  have HAT := Lib.hid hat
  have HEX := Lib.hid hex
  clear hs h hat hex
  generalize lns b 0 = L at HS HAT HEX
  generalize thr b p q = t at HAT HEX ⊢
  generalize 1 <<< p ||| 1 <<< q = D at HE hDl HAT HEX
  go_enter Try.func65, Try.ntmps65
  go_wp2_with fail
  go_quiet (fail)
  rw [HE.out]
  go_wp2
  go_loop [8] (fun i => ∃ k : Nat, k ≤ 21 ∧ i = .int .i64 k ∧ ∀ j y : Nat, j < k → L[j]? = some y → ((y &&& D) == D) = false) (fun i => 21 - (intOf i).toNat)
  case atStart => exact ⟨0, Nat.zero_le _, rfl, by omega⟩
  case round =>
    obtain ⟨k, hk, rfl, hno⟩ := hrel
    have HN := Lib.hid hno
    clear hno
    by_cases hlt : k < 21
    · obtain ⟨b', o, y, rfl, hb', hy, hc⟩ := HS.out.nat hlt
      obtain ⟨hyl, hyt⟩ := HAT.out k y hy
      have ha := i64_and y D (by omega) (by omega)
      have hr := int_beq' (y &&& D) D
      cases hv : ((y &&& D) == D) with
      | true =>
        rw [hv] at hr
        have HY := Lib.hid (hyt hv)
        clear hv hyt hy
        go_wp2
        go_ret
        rw [HY.out]
        exact ⟨rfl, below_drewN (Below.refl _ _) _⟩
      | false =>
        rw [hv] at hr
        have HV := Lib.hid hv
        have HYL := Lib.hid hy
        clear hv hyt hy
        go_wp2
        go_round
        case rel =>
          refine ⟨k + 1, by omega, by go_num, fun j z hj hz => ?_⟩
          by_cases hjk : j = k
          · subst hjk
            rw [HYL.out] at hz
            injection hz with hz
            subst hz
            exact HV.out
          · exact HN.out j z (by omega) hz
        case measure => simp [intOf]; omega
    · exfalso
      obtain ⟨j, hj, h1, h2⟩ := HEX.out
      have := HN.out j t (by omega) h1
      rw [h2] at this
      cases this

theorem lineP {b p q : Int} (hb : baseZ b = true) (hp : ptZ b.toNat p = true) (hq : ptZ b.toNat q = true) (hne : p ≠ q) : ∃ b' p' q' : Nat, b = b' ∧ p = p' ∧ q = q' ∧ Pts b' p' q' := by
  obtain ⟨t, rfl, ht, h3⟩ := baseZ_nat hb
  obtain ⟨x, rfl, hx, hbx⟩ := pt_nat hp
  obtain ⟨y, rfl, hy, hby⟩ := pt_nat hq
  exact ⟨t, x, y, rfl, rfl, rfl, ht, h3, hx, hy, hbx, hby, fun e => hne (by rw [e])⟩

set_option maxHeartbeats 400000 in
theorem sPlaneLine (b p q : Int) (w : World) :
    Calls Try.prog 33 #[.int .i64 b, .int .i64 p, .int .i64 q] w fun e w' => e = .returned (.tuple #[.int .i64 (lineR b p q : Nat), .bool (lineOk b p q)]) ∧ Below w.heap.size w w' := by
  have HT := Lib.hid (fun v (h : baseZ b = v) W => sbase_is b v h W)
  cases hbz : baseZ b with
  | false =>
    have HR := Lib.hid (line_no (p := p) (q := q) (.inl hbz))
    have HB := Lib.hid (HT.out _ hbz)
    clear hbz
    go_enter Try.func33, Try.ntmps33
    go_wp2_with fail
    refine (HB.out _).mono ?_
    rintro e w' ⟨rfl, rfl⟩
    go_wp2
    go_ret2
    rw [HR.out.1, HR.out.2]
    exact ⟨rfl, Below.refl _ _⟩
  | true =>
    have HB := Lib.hid (HT.out _ hbz)
    obtain ⟨t, rfl, ht, h3⟩ := baseZ_nat hbz
    cases hpz : ptZ t p with
    | false =>
      have HP := Lib.hid (fun W => spt_is t p false hpz W ht)
      have HR := Lib.hid (line_no (b := (t : Int)) (p := p) (q := q) (.inr (.inl hpz)))
      clear hbz hpz h3
      go_enter Try.func33, Try.ntmps33
      go_wp2_with fail
      refine (HB.out _).mono ?_
      rintro e w' ⟨rfl, rfl⟩
      go_wp2_with fail
      refine (HP.out _).mono ?_
      rintro e w' ⟨rfl, rfl⟩
      go_wp2
      go_ret2
      rw [HR.out.1, HR.out.2]
      exact ⟨rfl, Below.refl _ _⟩
    | true =>
      have HP := Lib.hid (fun W => spt_is t p true hpz W ht)
      cases hqz : ptZ t q with
      | false =>
        have HQ := Lib.hid (fun W => spt_is t q false hqz W ht)
        have HR := Lib.hid (line_no (b := (t : Int)) (p := p) (q := q) (.inr (.inr (.inl hqz))))
        clear hbz hpz hqz h3
        go_enter Try.func33, Try.ntmps33
        go_wp2_with fail
        refine (HB.out _).mono ?_
        rintro e w' ⟨rfl, rfl⟩
        go_wp2_with fail
        refine (HP.out _).mono ?_
        rintro e w' ⟨rfl, rfl⟩
        go_wp2_with fail
        refine (HQ.out _).mono ?_
        rintro e w' ⟨rfl, rfl⟩
        go_wp2
        go_ret2
        rw [HR.out.1, HR.out.2]
        exact ⟨rfl, Below.refl _ _⟩
      | true =>
        have HQ := Lib.hid (fun W => spt_is t q true hqz W ht)
        by_cases hpq : p = q
        · have e1 : (p == q) = true := by simp [hpq]
          have HR := Lib.hid (line_no (b := (t : Int)) (p := p) (q := q) (.inr (.inr (.inr hpq))))
          clear hbz hpz hqz h3 hpq
          go_enter Try.func33, Try.ntmps33
          go_wp2_with fail
          refine (HB.out _).mono ?_
          rintro e w' ⟨rfl, rfl⟩
          go_wp2_with fail
          refine (HP.out _).mono ?_
          rintro e w' ⟨rfl, rfl⟩
          go_wp2_with fail
          refine (HQ.out _).mono ?_
          rintro e w' ⟨rfl, rfl⟩
          go_wp2
          go_ret2
          rw [HR.out.1, HR.out.2]
          exact ⟨rfl, Below.refl _ _⟩
        · have e1 : (p == q) = false := by simpa using hpq
          obtain ⟨t', x, y, et, rfl, rfl, hpts⟩ := lineP hbz hpz hqz hpq
          obtain rfl : t = t' := by omega
          have HR := Lib.hid (line_yes hpts)
          have HL := Lib.hid (slines t w ht h3)
          have HLen := Lib.hid (lines_21 ht h3)
          have HPts := Lib.hid hpts
          clear hbz hpz hqz h3 hpq hpts et
          go_enter Try.func33, Try.ntmps33
          go_wp2_with fail
          refine (HB.out _).mono ?_
          rintro e w' ⟨rfl, rfl⟩
          go_wp2_with fail
          refine (HP.out _).mono ?_
          rintro e w' ⟨rfl, rfl⟩
          go_wp2_with fail
          refine (HQ.out _).mono ?_
          rintro e w' ⟨rfl, rfl⟩
          go_wp2_with fail
          refine HL.out.mono ?_
          rintro e w1 ⟨A1, n1, c1, rfl, o1, b1⟩
          obtain rfl : n1 = 21 := by have := o1.length; rw [nl_length, HLen.out] at this; omega
          go_wp2_with fail
          refine (sthrough w1.heap.size A1 c1 t x y w1 o1.sl HPts.out).mono ?_
          rintro e w2 ⟨rfl, b2⟩
          go_wp2
          go_ret2
          rw [HR.out.1, HR.out.2]
          exact ⟨rfl, below_to b1 b2 (Nat.le_refl _)⟩
theorem two_or {p q : Nat} (hp : p < 24) (hq : q < 24) : bits .or .i64 (IntKind.i64.wrap (2 ^ p)) (IntKind.i64.wrap (2 ^ q)) = ((1 <<< p ||| 1 <<< q : Nat) : Int) := by
  have l1 := one_shl_lt hp
  have l2 := one_shl_lt hq
  rw [two_pow p, two_pow q, wrap_nat' (by omega), wrap_nat' (by omega)]
  exact i64_or _ _ (by omega) (by omega)
theorem two_or64 {p q : Nat} (hp : p < 24) (hq : q < 24) : bits .or .i64 (wrap64 (2 ^ p)) (wrap64 (2 ^ q)) = ((1 <<< p ||| 1 <<< q : Nat) : Int) := by
  have l1 := one_shl_lt hp
  have l2 := one_shl_lt hq
  rw [i64_two p hp, i64_two q hq]
  exact i64_or _ _ (by omega) (by omega)

set_option maxHeartbeats 400000 in
theorem iPlaneLine (b p q : Int) (w : World) :
    Calls Try.prog 32 #[.int .i64 b, .int .i64 p, .int .i64 q] w fun e w' => e = .returned (.tuple #[.int .i64 (lineR b p q : Nat), .bool (lineOk b p q)]) ∧ Below w.heap.size w w' := by
  have HT := Lib.hid (fun v (h : baseZ b = v) W => ibase_is b v h W)
  cases hbz : baseZ b with
  | false =>
    have HR := Lib.hid (line_no (p := p) (q := q) (.inl hbz))
    have HB := Lib.hid (HT.out _ hbz)
    clear hbz
    go_enter Try.func32, Try.ntmps32
    go_wp2_with fail
    refine (HB.out _).mono ?_
    rintro e w' ⟨rfl, rfl⟩
    go_wp2
    go_ret2
    rw [HR.out.1, HR.out.2]
    exact ⟨rfl, Below.refl _ _⟩
  | true =>
    have HB := Lib.hid (HT.out _ hbz)
    obtain ⟨t, rfl, ht, h3⟩ := baseZ_nat hbz
    cases hpz : ptZ t p with
    | false =>
      have HP := Lib.hid (fun W => ipt_is t p false hpz W ht)
      have HR := Lib.hid (line_no (b := (t : Int)) (p := p) (q := q) (.inr (.inl hpz)))
      clear hbz hpz h3
      go_enter Try.func32, Try.ntmps32
      go_wp2_with fail
      refine (HB.out _).mono ?_
      rintro e w' ⟨rfl, rfl⟩
      go_wp2_with fail
      refine (HP.out _).mono ?_
      rintro e w' ⟨rfl, rfl⟩
      go_wp2
      go_ret2
      rw [HR.out.1, HR.out.2]
      exact ⟨rfl, Below.refl _ _⟩
    | true =>
      have HP := Lib.hid (fun W => ipt_is t p true hpz W ht)
      cases hqz : ptZ t q with
      | false =>
        have HQ := Lib.hid (fun W => ipt_is t q false hqz W ht)
        have HR := Lib.hid (line_no (b := (t : Int)) (p := p) (q := q) (.inr (.inr (.inl hqz))))
        clear hbz hpz hqz h3
        go_enter Try.func32, Try.ntmps32
        go_wp2_with fail
        refine (HB.out _).mono ?_
        rintro e w' ⟨rfl, rfl⟩
        go_wp2_with fail
        refine (HP.out _).mono ?_
        rintro e w' ⟨rfl, rfl⟩
        go_wp2_with fail
        refine (HQ.out _).mono ?_
        rintro e w' ⟨rfl, rfl⟩
        go_wp2
        go_ret2
        rw [HR.out.1, HR.out.2]
        exact ⟨rfl, Below.refl _ _⟩
      | true =>
        have HQ := Lib.hid (fun W => ipt_is t q true hqz W ht)
        by_cases hpq : p = q
        · have e1 : (p == q) = true := by simp [hpq]
          have HR := Lib.hid (line_no (b := (t : Int)) (p := p) (q := q) (.inr (.inr (.inr hpq))))
          clear hbz hpz hqz h3 hpq
          go_enter Try.func32, Try.ntmps32
          go_wp2_with fail
          refine (HB.out _).mono ?_
          rintro e w' ⟨rfl, rfl⟩
          go_wp2_with fail
          refine (HP.out _).mono ?_
          rintro e w' ⟨rfl, rfl⟩
          go_wp2_with fail
          refine (HQ.out _).mono ?_
          rintro e w' ⟨rfl, rfl⟩
          go_wp2
          go_ret2
          rw [HR.out.1, HR.out.2]
          exact ⟨rfl, Below.refl _ _⟩
        · have e1 : (p == q) = false := by simpa using hpq
          obtain ⟨t', x, y, et, rfl, rfl, hpts⟩ := lineP hbz hpz hqz hpq
          obtain rfl : t = t' := by omega
          have HR := Lib.hid (line_yes hpts)
          have hxl := or_lt (one_shl_lt hpts.hp) (one_shl_lt hpts.hq)
          have HL := Lib.hid (fun W => ilines t (1 <<< x ||| 1 <<< y) W ht hxl (pts_disj hpts))
          have HLi := Lib.hid (thr_list hpts)
          have hx64 : x ≤ 64 := by have := hpts.hp; omega
          have hy64 : y ≤ 64 := by have := hpts.hq; omega
          have HS1 := Lib.hid (two_or hpts.hp hpts.hq)
          have HS2 := Lib.hid (two_or64 hpts.hp hpts.hq)
          clear hbz hpz hqz h3 hpq hpts et
          go_enter Try.func32, Try.ntmps32
          go_wp2_with fail
          refine (HB.out _).mono ?_
          rintro e w' ⟨rfl, rfl⟩
          go_wp2_with fail
          refine (HP.out _).mono ?_
          rintro e w' ⟨rfl, rfl⟩
          go_wp2_with fail
          refine (HQ.out _).mono ?_
          rintro e w' ⟨rfl, rfl⟩
          rw [HLi.out] at HL
          go_wp2_with fail
          go_region_with (first | (go_at_call 59; (first | rw [Nat.min_eq_left hx64, Nat.min_eq_left hy64, HS1.out] | rw [HS1.out] | rw [HS2.out]); refine (HL.out _).mono ?_; rintro e w1 ⟨A1, n1, c1, rfl, o1, b1⟩; obtain rfl : n1 = 1 := o1.length.symm; obtain ⟨b', o, z, rfl, hb', hz, hc⟩ := o1.sl.nat (k := 0) (by decide); have hzz : z = thr t x y := (by simpa using hz.symm); rw [hzz] at hc; have hc0 : w1.cell? ⟨b', o, none⟩ = some (.int .i64 (thr t x y)) := hc; have b1' : Below w.heap.size w w1 := ⟨b1.os, b1.tape, b1.output, b1.size, b1.block⟩; clear hc hz o1 b1))
          all_goals
            have HB1 := Lib.hid b1'
            clear b1'
            go_wp2
            go_ret2
            rw [HR.out.1, HR.out.2]
            exact ⟨rfl, HB1.out⟩

end Go.Proofs.Ytinfpggpfpmpbaa
