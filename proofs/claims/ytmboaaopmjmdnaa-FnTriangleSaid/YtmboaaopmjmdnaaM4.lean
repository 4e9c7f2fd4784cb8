/- The code is linear, its weights are 0, 8, 12, 16, 24, and no word is farther from it than four places. No program here. -/
import Derived.Test.YtmboaaopmjmdnaaM3
namespace Go.Proofs.Ytmboaaopmjmdnaa

/-- The sum of the numbers gs whose bit is in x. -/
def lin : List Nat → Nat → Nat
  | [], _ => 0
  | g :: r, x => (if x % 2 = 1 then g else 0) ^^^ lin r (x / 2)
theorem xor_mod2 (x y : Nat) : (x ^^^ y) % 2 = (x % 2 + y % 2) % 2 := by
  have h := Nat.testBit_xor x y 0
  simp only [Nat.testBit_zero] at h
  rcases Nat.mod_two_eq_zero_or_one x with h1 | h1 <;> rcases Nat.mod_two_eq_zero_or_one y with h2 | h2 <;> rcases Nat.mod_two_eq_zero_or_one (x ^^^ y) with h3 | h3 <;> simp_all
theorem lin_xor (gs : List Nat) : ∀ x y, lin gs (x ^^^ y) = lin gs x ^^^ lin gs y := by
  induction gs with
  | nil => intro x y; simp [lin]
  | cons g r ih =>
    intro x y
    simp only [lin, Nat.xor_div_two, ih, xor_mod2]
    rcases Nat.mod_two_eq_zero_or_one x with h1 | h1 <;> rcases Nat.mod_two_eq_zero_or_one y with h2 | h2 <;> simp only [h1, h2] <;> simp
    · ac_rfl
    · ac_rfl
    · have : g ^^^ lin r (x / 2) ^^^ (g ^^^ lin r (y / 2)) = (g ^^^ g) ^^^ (lin r (x / 2) ^^^ lin r (y / 2)) := by ac_rfl
      rw [this, Nat.xor_self, Nat.zero_xor]
theorem lin_zero (gs : List Nat) : lin gs 0 = 0 := by
  induction gs with
  | nil => rfl
  | cons g r ih => simp [lin, ih]
/-- Two linear maps that agree on the powers of 2 agree. -/
theorem lin_agree (f g : Nat → Nat) (hf : ∀ x y, f (x ^^^ y) = f x ^^^ f y) (hg : ∀ x y, g (x ^^^ y) = g x ^^^ g y) (h0 : f 0 = g 0) (n : Nat) (h : ∀ i, i < n → f (1 <<< i) = g (1 <<< i)) :
    ∀ x, x < 2 ^ n → f x = g x := by
  induction n with
  | zero => intro x hx; have hx0 : x = 0 := by simpa using hx
            subst hx0; exact h0
  | succ n ih =>
    intro x hx
    have ih := ih (fun i hi => h i (by omega))
    by_cases hb : x < 2 ^ n
    · exact ih x hb
    · have e : x = (x ^^^ 1 <<< n) ^^^ 1 <<< n := by rw [Nat.xor_assoc, Nat.xor_self, Nat.xor_zero]
      have hl : x ^^^ 1 <<< n < 2 ^ n := by
        apply Nat.lt_pow_two_of_testBit
        intro i hi
        rw [Nat.testBit_xor, bit_one]
        by_cases hin : n = i
        · subst hin
          have : x.testBit n = true := by
            rw [Nat.testBit, Nat.and_comm, Nat.and_one_is_mod, Nat.shiftRight_eq_div_pow]
            have : x / 2 ^ n = 1 := by rw [Nat.pow_succ] at hx; exact Nat.div_eq_of_lt_le (by omega) (by omega)
            rw [this]; rfl
          simp [this]
        · rw [Nat.testBit_lt_two_pow (Nat.lt_of_lt_of_le hx (Nat.pow_le_pow_right (by decide) (by omega)))]
          simp [hin]
      rw [e, hf, hg, ih _ hl, h n (by omega)]

def gens : List Nat := [10928140, 7118858, 6996160, 13017248, 13421568, 11184640, 15658721, 255, 3855, 61455, 983055, 15728655]
def synB : List Nat := [4032, 3970, 3969, 3971, 128, 200, 196, 204, 256, 352, 336, 368, 512, 618, 597, 639, 1024, 1133, 1115, 1142, 2048, 2151, 2142, 2169]
def msgB : List Nat := [64, 65, 66, 67, 128, 4, 8, 12, 256, 16, 32, 48, 512, 0, 0, 0, 1024, 0, 0, 0, 2048, 0, 0, 0]
def resB : List Nat := [7118848, 10928128, 13017088, 6995968, 11182080, 13418496, 15, 239, 3599, 57359, 917519, 14680079]

/-! ### All 4096 words at once -/
def okW (n : Nat) : Bool := n == 8 || n == 12 || n == 16 || n == 24
def chkM (m : Nat) : Bool := cw m == lin gens m && (m == 0 || okW (wt (lin gens m)))
theorem chk_all : (List.range 4096).all chkM = true := by decide +kernel
theorem cw_lin {m : Nat} (hm : m < 4096) : cw m = lin gens m := by
  have := List.all_eq_true.1 chk_all m (List.mem_range.2 hm)
  unfold chkM at this
  simp only [Bool.and_eq_true, beq_iff_eq] at this
  exact this.1
theorem cw_wt {m : Nat} (hm : m < 4096) (h0 : m ≠ 0) : wt (cw m) = 8 ∨ wt (cw m) = 12 ∨ wt (cw m) = 16 ∨ wt (cw m) = 24 := by
  have := List.all_eq_true.1 chk_all m (List.mem_range.2 hm)
  unfold chkM okW at this
  simp only [Bool.and_eq_true, beq_iff_eq, Bool.or_eq_true] at this
  rw [this.1]
  rcases this.2 with h | h
  · exact absurd h h0
  · omega
theorem cw_xor {m n : Nat} (hm : m < 4096) (hn : n < 4096) : cw m ^^^ cw n = cw (m ^^^ n) := by
  rw [cw_lin hm, cw_lin hn, cw_lin (Nat.xor_lt_two_pow (n := 12) hm hn), lin_xor]
theorem cw_zero : cw 0 = 0 := by decide
theorem cod_xor {a b : Nat} (ha : Cod a) (hb : Cod b) : Cod (a ^^^ b) := by
  obtain ⟨m, hm, rfl⟩ := cod_ex ha
  obtain ⟨n, hn, rfl⟩ := cod_ex hb
  rw [cw_xor hm hn]; exact cod_cw _
theorem cod_zero : Cod 0 := by rw [← cw_zero]; exact cod_cw 0
theorem cod_wt {w : Nat} (h : Cod w) (h0 : w ≠ 0) : wt w = 8 ∨ wt w = 12 ∨ wt w = 16 ∨ wt w = 24 := by
  obtain ⟨m, hm, rfl⟩ := cod_ex h
  exact cw_wt hm (by rintro rfl; exact h0 cw_zero)
theorem cod_mod4 {w : Nat} (h : Cod w) : wt w % 4 = 0 := by
  by_cases h0 : w = 0
  · subst h0; decide
  · rcases cod_wt h h0 with h | h | h | h <;> omega
/-- Two words of the code have an even number of common places. -/
theorem cod_meet {a b : Nat} (ha : Cod a) (hb : Cod b) : wt (a &&& b) % 2 = 0 := by
  have h1 := cod_mod4 ha; have h2 := cod_mod4 hb; have h3 := cod_mod4 (cod_xor ha hb)
  have := wt_xor a b
  omega
theorem cod_small {w : Nat} (h : Cod w) (h8 : wt w < 8) : w = 0 := by
  rcases Nat.eq_zero_or_pos w with h0 | h0
  · exact h0
  · rcases cod_wt h (by omega) with h | h | h | h <;> omega
theorem cw_inj {m n : Nat} (hm : m < 4096) (hn : n < 4096) (h : cw m = cw n) : m = n := by
  have h1 := cw_xor hm hn
  rw [h, Nat.xor_self] at h1
  have hlt : m ^^^ n < 4096 := Nat.xor_lt_two_pow (n := 12) hm hn
  by_cases h0 : m ^^^ n = 0
  · apply Nat.eq_of_testBit_eq
    intro i
    have := congrArg (Nat.testBit · i) h0
    simp only [Nat.testBit_xor, Nat.zero_testBit] at this
    revert this
    cases m.testBit i <;> cases n.testBit i <;> decide
  · have := cw_wt hlt h0
    rw [← h1] at this
    have e : wt 0 = 0 := by decide
    omega

/-! ### Every word is near to one of the code -/
def synd (w : Nat) : Nat := lin synB w
theorem res_all : ∀ i, i < 24 → 1 <<< i ^^^ lin gens (lin msgB (1 <<< i)) = lin resB (lin synB (1 <<< i)) := by decide +kernel
theorem msgB_lt : ∀ x, lin msgB x < 4096 := by
  have h : ∀ (l : List Nat), (∀ g ∈ l, g < 4096) → ∀ x, lin l x < 4096 := by
    intro l
    induction l with
    | nil => intro _ x; simp [lin]
    | cons g r ih =>
      intro hl x
      simp only [lin]
      refine Nat.xor_lt_two_pow (n := 12) ?_ (ih (fun g hg => hl g (by simp [hg])) _)
      split
      · exact hl g (by simp)
      · decide
  exact h msgB (by decide)
theorem synd_cod {w : Nat} (hw : w < 16777216) (h : synd w = 0) : Cod w := by
  have e := lin_agree (fun x => x ^^^ lin gens (lin msgB x)) (fun x => lin resB (lin synB x)) (fun x y => by
      simp only [lin_xor]; ac_rfl) (fun x y => by simp only [lin_xor]) (by simp [lin_zero]) 24 res_all w hw
  unfold synd at h
  rw [h, lin_zero] at e
  have e2 : w = lin gens (lin msgB w) := by
    have := congrArg (· ^^^ lin gens (lin msgB w)) e
    simpa [Nat.xor_assoc] using this
  rw [e2, ← cw_lin (msgB_lt w)]
  exact cod_cw _
/-- Which places: three or fewer, or four with the place 0. -/
def errs : List Nat :=
  0 :: ((List.range 24).map (1 <<< ·) ++ (List.range 24).flatMap (fun i => (List.range i).map fun j => 1 <<< i ^^^ 1 <<< j)
    ++ (List.range 24).flatMap (fun i => (List.range i).flatMap fun j => (List.range j).map fun k => 1 <<< i ^^^ 1 <<< j ^^^ 1 <<< k)
    ++ (List.range 24).flatMap (fun i => (List.range i).flatMap fun j => ((List.range j).filter (0 < ·)).map fun k => 1 <<< i ^^^ 1 <<< j ^^^ 1 <<< k ^^^ 1))
def mask (l : List Nat) : Nat := l.foldl (fun a e => a ||| 1 <<< synd e) 0
theorem mask_all : ∃ n, n = 4096 ∧ mask errs = 2 ^ n - 1 := ⟨4096, rfl, by decide +kernel⟩
theorem mask_bit (l : List Nat) (s : Nat) : ∀ a, (l.foldl (fun a e => a ||| 1 <<< synd e) a).testBit s = true → a.testBit s = true ∨ ∃ e ∈ l, synd e = s := by
  induction l with
  | nil => intro a h; exact .inl h
  | cons e r ih =>
    intro a h
    rcases ih _ h with h | ⟨e', he', hs⟩
    · rw [Nat.testBit_or, bit_one, Bool.or_eq_true] at h
      rcases h with h | h
      · exact .inl h
      · exact .inr ⟨e, by simp, by simpa using h⟩
    · exact .inr ⟨e', by simp [he'], hs⟩
theorem errs_ok : errs.all (fun e => decide (wt e ≤ 4) && decide (e < 16777216)) = true := by decide +kernel
theorem synd_lt (x : Nat) : synd x < 4096 := by
  have h : ∀ (l : List Nat), (∀ g ∈ l, g < 4096) → ∀ x, lin l x < 4096 := by
    intro l
    induction l with
    | nil => intro _ x; simp [lin]
    | cons g r ih =>
      intro hl x
      simp only [lin]
      refine Nat.xor_lt_two_pow (n := 12) ?_ (ih (fun g hg => hl g (by simp [hg])) _)
      split
      · exact hl g (by simp)
      · decide
  exact h synB (by decide) x
/-- For each word there is a word of the code that differs in four places or fewer. -/
theorem cover {w : Nat} (hw : w < 16777216) : ∃ c, Cod c ∧ wt (w ^^^ c) ≤ 4 := by
  have hb : (mask errs).testBit (synd w) = true := by
    obtain ⟨n, hn, e⟩ := mask_all
    rw [e, Nat.testBit_two_pow_sub_one, hn]
    exact decide_eq_true (synd_lt w)
  rcases mask_bit errs (synd w) 0 hb with h | ⟨e, he, hs⟩
  · simp at h
  · have ho := List.all_eq_true.1 errs_ok e he
    simp only [Bool.and_eq_true, decide_eq_true_eq] at ho
    refine ⟨w ^^^ e, synd_cod (xor_lt hw ho.2) ?_, ?_⟩
    · unfold synd at *; rw [lin_xor, hs, Nat.xor_self]
    · rw [← Nat.xor_assoc, Nat.xor_self, Nat.zero_xor]; exact ho.1
end Go.Proofs.Ytmboaaopmjmdnaa
