/- The code by columns: scores, parities, messages. No program here. -/
import Derived.Test.YtmboaaopmjmdnaaM2
namespace Go.Proofs.Ytmboaaopmjmdnaa

/-- Column c of a word, as bits of its rows. -/
def col (w c : Nat) : Nat := w >>> (4 * c) &&& 15
theorem col_eq (w c : Nat) : col w c = w / 2 ^ (4 * c) % 16 := by
  unfold col; rw [Nat.shiftRight_eq_div_pow, show (15 : Nat) = 2 ^ 4 - 1 from rfl, Nat.and_two_pow_sub_one_eq_mod]
theorem col_lt (w c : Nat) : col w c < 16 := by rw [col_eq]; omega
theorem col_bit (w c r : Nat) (hr : r < 4) : (col w c).testBit r = w.testBit (4 * c + r) := by
  unfold col
  rw [Nat.testBit_and, Nat.testBit_shiftRight, show (15 : Nat) = 2 ^ 4 - 1 from rfl, Nat.testBit_two_pow_sub_one]
  simp [hr]
theorem col_bt (w c r : Nat) (hr : r < 4) : bt (col w c) r = bt w (4 * c + r) := by unfold bt; rw [col_bit w c r hr]
theorem col_hi (w c r : Nat) (hr : 4 ≤ r) : bt (col w c) r = 0 := by
  rw [bt_zero]
  exact Nat.testBit_lt_two_pow (Nat.lt_of_lt_of_le (col_lt w c) (show 2 ^ 4 ≤ 2 ^ r from Nat.pow_le_pow_right (by decide) hr))
theorem wt_col (w c : Nat) : wt (col w c) = bt w (4 * c) + bt w (4 * c + 1) + bt w (4 * c + 2) + bt w (4 * c + 3) := by
  have h : ∀ r, bt (col w c) r = if r < 4 then bt w (4 * c + r) else 0 := by
    intro r
    split
    · exact col_bt w c r ‹_›
    · exact col_hi w c r (by omega)
  unfold wt
  simp [sm, h]
theorem wt_cols (w : Nat) : wt w = sm 6 fun c => wt (col w c) := by
  simp only [sm, wt_col]
  unfold wt
  simp only [sm, Nat.reduceMul, Nat.reduceAdd]
  omega

/-- The score of a column: the rows of its places, added up. -/
def scrTo (x : Nat) : Nat → Nat
  | 0 => 0
  | r + 1 => if x.testBit r then scrTo x r ^^^ r else scrTo x r
def scr (x : Nat) : Nat := scrTo x 4
theorem scr_all : ∀ x, x < 16 → scr x < 4 := by decide
theorem scr_lt (w c : Nat) : scr (col w c) < 4 := scr_all _ (col_lt w c)
theorem scrTo_lt : ∀ x, x < 16 → ∀ r, r ≤ 4 → scrTo x r < 4 := by decide
def scores (w : Nat) : List Nat := (List.range 6).map fun c => scr (col w c)
theorem scores_eq (w : Nat) : scores w = [scr (col w 0), scr (col w 1), scr (col w 2), scr (col w 3), scr (col w 4), scr (col w 5)] := rfl

/-- The scores of the first k columns. -/
def scoTo (w k : Nat) : List Nat := (List.range k).map fun c => scr (col w c)
theorem scoTo_succ (w k : Nat) : scoTo w (k + 1) = scoTo w k ++ [scr (col w k)] := by unfold scoTo; rw [List.range_succ]; simp
theorem scoTo_six (w : Nat) : scoTo w 6 = scores w := rfl
theorem scoTo_len (w k : Nat) : (scoTo w k).length = k := by simp [scoTo]
/-- The row of the hexacode for three digits. -/
def hx (x a b c : Nat) : Nat := tm a (tm x x) ^^^ tm b x ^^^ c
def hexL (a b c : Nat) : List Nat := [a, b, c, hx 1 a b c, hx 2 a b c, hx 3 a b c]
/-- The row with k of its last three digits. -/
def hexTo (a b c k : Nat) : List Nat := [a, b, c] ++ (List.range k).map fun i => hx (i + 1) a b c
theorem hexTo_succ (a b c k : Nat) : hexTo a b c (k + 1) = hexTo a b c k ++ [hx (k + 1) a b c] := by unfold hexTo; rw [List.range_succ]; simp
theorem hexTo_three (a b c : Nat) : hexTo a b c 3 = hexL a b c := rfl
theorem hexTo_len (a b c k : Nat) : (hexTo a b c k).length = k + 3 := by simp [hexTo]
theorem hx_lt : ∀ x, x < 4 → ∀ a, a < 4 → ∀ b, b < 4 → ∀ c, c < 4 → hx x a b c < 4 := by decide

/-- The number of places in the row 0. -/
def top (w : Nat) : Nat := sm 6 fun c => bt w (4 * c)
/-- The parity of row 0, bit by bit. -/
def topX (w : Nat) : Nat → Nat
  | 0 => 0
  | k + 1 => topX w k ^^^ bt w (4 * k)
theorem topX_eq (w k : Nat) : topX w k = sm k (fun c => bt w (4 * c)) % 2 := by
  induction k with
  | zero => rfl
  | succ k ih =>
    have e : ∀ a, a < 2 → ∀ b, b < 2 → a ^^^ b = (a + b) % 2 := by decide
    have := bt_le w (4 * k)
    simp only [topX, sm]
    rw [ih, e _ (by omega) _ (by omega)]
    omega
def inCode (w : Nat) : Bool := (List.range 6).all (fun c => wt (col w c) % 2 == top w % 2) && decide (scores w = hexL (scr (col w 0)) (scr (col w 1)) (scr (col w 2)))
theorem inCode_iff (w : Nat) : inCode w = true ↔ (∀ c, c < 6 → wt (col w c) % 2 = top w % 2) ∧ scores w = hexL (scr (col w 0)) (scr (col w 1)) (scr (col w 2)) := by
  unfold inCode
  simp

/-! ### The word of a message -/
def tbl (s p f : Nat) : Nat := [0, 12, 10, 6, 15, 3, 5, 9, 14, 2, 4, 8, 1, 13, 11, 7].getD (8 * p + 4 * f + s) 0
theorem tbl_all : ∀ s, s < 4 → ∀ p, p < 2 → ∀ f, f < 2 → tbl s p f < 16 ∧ scr (tbl s p f) = s ∧ wt (tbl s p f) % 2 = p ∧ bt (tbl s p f) 0 = f := by decide
theorem tbl_back : ∀ x, x < 16 → tbl (scr x) (wt x % 2) (bt x 0) = x := by decide
def rowM (m : Nat) : List Nat := hexL (m % 4) (m / 4 % 4) (m / 16 % 4)
/-- The place of row 0 in column 0. -/
def fst0 (m : Nat) : Nat := bt m 6 ^^^ bt m 7 ^^^ bt m 8 ^^^ bt m 9 ^^^ bt m 10 ^^^ bt m 11
def fstM (m c : Nat) : Nat := if c = 0 then fst0 m else bt m (6 + c)
def colM (m c : Nat) : Nat := tbl ((rowM m).getD c 0) (bt m 6) (fstM m c)
def cw (m : Nat) : Nat := colM m 0 + 16 * colM m 1 + 256 * colM m 2 + 4096 * colM m 3 + 65536 * colM m 4 + 1048576 * colM m 5

theorem xor_bits : ∀ a, a < 2 → ∀ b, b < 2 → a ^^^ b = (a + b) % 2 := by decide
theorem fst0_eq (m : Nat) : fst0 m = (bt m 6 + bt m 7 + bt m 8 + bt m 9 + bt m 10 + bt m 11) % 2 := by
  have h := fun i => bt_le m i
  have h6 := h 6; have h7 := h 7; have h8 := h 8; have h9 := h 9; have h10 := h 10; have h11 := h 11
  unfold fst0
  rw [xor_bits (bt m 6) (by omega) (bt m 7) (by omega)]
  rw [xor_bits _ (by omega) (bt m 8) (by omega)]
  rw [xor_bits _ (by omega) (bt m 9) (by omega)]
  rw [xor_bits _ (by omega) (bt m 10) (by omega)]
  rw [xor_bits _ (by omega) (bt m 11) (by omega)]
  omega
theorem fstM_lt (m c : Nat) : fstM m c < 2 := by
  unfold fstM; split
  · rw [fst0_eq]; omega
  · have := bt_le m (6 + c); omega
theorem rowM_lt (m c : Nat) : (rowM m).getD c 0 < 4 := by
  have h0 : m % 4 < 4 := by omega
  have h1 : m / 4 % 4 < 4 := by omega
  have h2 : m / 16 % 4 < 4 := by omega
  have e1 := hx_lt 1 (by decide) _ h0 _ h1 _ h2
  have e2 := hx_lt 2 (by decide) _ h0 _ h1 _ h2
  have e3 := hx_lt 3 (by decide) _ h0 _ h1 _ h2
  unfold rowM hexL
  match c with
  | 0 => exact h0
  | 1 => exact h1
  | 2 => exact h2
  | 3 => exact e1
  | 4 => exact e2
  | 5 => exact e3
  | n + 6 => simp
theorem colM_all (m c : Nat) : colM m c < 16 ∧ scr (colM m c) = (rowM m).getD c 0 ∧ wt (colM m c) % 2 = bt m 6 ∧ bt (colM m c) 0 = fstM m c :=
  tbl_all _ (rowM_lt m c) _ (by have := bt_le m 6; omega) _ (fstM_lt m c)
theorem cw_lt (m : Nat) : cw m < 16777216 := by
  have h := fun c => (colM_all m c).1
  have h0 := h 0; have h1 := h 1; have h2 := h 2; have h3 := h 3; have h4 := h 4; have h5 := h 5
  unfold cw; omega
theorem cw_col (m c : Nat) (hc : c < 6) : col (cw m) c = colM m c := by
  have h := fun c => (colM_all m c).1
  have h0 := h 0; have h1 := h 1; have h2 := h 2; have h3 := h 3; have h4 := h 4; have h5 := h 5
  rw [col_eq]
  unfold cw
  match c, hc with
  | 0, _ => simp; omega
  | 1, _ => simp; omega
  | 2, _ => simp; omega
  | 3, _ => simp; omega
  | 4, _ => simp; omega
  | 5, _ => simp; omega
theorem cw_in (m : Nat) : inCode (cw m) = true := by
  rw [inCode_iff]
  have ht : top (cw m) % 2 = bt m 6 := by
    unfold top
    have e : ∀ c, c < 6 → bt (cw m) (4 * c) = fstM m c := fun c hc => by
      rw [← (colM_all m c).2.2.2, ← cw_col m c hc, col_bt _ _ 0 (by decide), Nat.add_zero]
    rw [sm_congr e]
    have hb := bt_le m 6
    simp only [sm, fstM]
    simp
    rw [fst0_eq]
    omega
  refine ⟨fun c hc => ?_, ?_⟩
  · rw [cw_col m c hc, (colM_all m c).2.2.1, ht]
  · rw [scores_eq, cw_col m 0 (by decide), cw_col m 1 (by decide), cw_col m 2 (by decide), cw_col m 3 (by decide), cw_col m 4 (by decide), cw_col m 5 (by decide),
      (colM_all m 0).2.1, (colM_all m 1).2.1, (colM_all m 2).2.1, (colM_all m 3).2.1, (colM_all m 4).2.1, (colM_all m 5).2.1]
    rfl

/-- The message of a word. -/
def msg (w : Nat) : Nat := scr (col w 0) + 4 * scr (col w 1) + 16 * scr (col w 2) + 64 * (wt (col w 0) % 2) + 128 * bt w 4 + 256 * bt w 8 + 512 * bt w 12 + 1024 * bt w 16 + 2048 * bt w 20
theorem msg_lt (w : Nat) : msg w < 4096 := by
  have h0 := scr_lt w 0; have h1 := scr_lt w 1; have h2 := scr_lt w 2
  have a := bt_le w 4; have b := bt_le w 8; have c := bt_le w 12; have d := bt_le w 16; have e := bt_le w 20
  unfold msg; omega
theorem word_cols (w : Nat) (hw : w < 16777216) : w = col w 0 + 16 * col w 1 + 256 * col w 2 + 4096 * col w 3 + 65536 * col w 4 + 1048576 * col w 5 := by
  simp only [col_eq]; simp; omega
theorem cw_msg {w : Nat} (hw : w < 16777216) (h : inCode w = true) : cw (msg w) = w := by
  obtain ⟨hp, hs⟩ := (inCode_iff w).1 h
  have h0 := scr_lt w 0; have h1 := scr_lt w 1; have h2 := scr_lt w 2
  have b4 := bt_le w 4; have b8 := bt_le w 8; have b12 := bt_le w 12; have b16 := bt_le w 16; have b20 := bt_le w 20
  have m0 : msg w % 4 = scr (col w 0) := by unfold msg; omega
  have m1 : msg w / 4 % 4 = scr (col w 1) := by unfold msg; omega
  have m2 : msg w / 16 % 4 = scr (col w 2) := by unfold msg; omega
  have p6 : bt (msg w) 6 = wt (col w 0) % 2 := by rw [bt_div]; unfold msg; simp; omega
  have q1 : bt (msg w) 7 = bt w 4 := by rw [bt_div]; unfold msg; simp; omega
  have q2 : bt (msg w) 8 = bt w 8 := by rw [bt_div]; unfold msg; simp; omega
  have q3 : bt (msg w) 9 = bt w 12 := by rw [bt_div]; unfold msg; simp; omega
  have q4 : bt (msg w) 10 = bt w 16 := by rw [bt_div]; unfold msg; simp; omega
  have q5 : bt (msg w) 11 = bt w 20 := by rw [bt_div]; unfold msg; simp; omega
  have hrow : rowM (msg w) = scores w := by unfold rowM; rw [m0, m1, m2, hs]
  have f0 : fst0 (msg w) = bt w 0 := by
    rw [fst0_eq, p6, q1, q2, q3, q4, q5, hp 0 (by decide)]
    have b0 := bt_le w 0
    unfold top
    simp [sm]
    omega
  have hc : ∀ c, c < 6 → colM (msg w) c = col w c := by
    intro c hc
    have e1 : (rowM (msg w)).getD c 0 = scr (col w c) := by
      rw [hrow]; unfold scores; simp [List.getD_eq_getElem?_getD, hc]
    have e2 : fstM (msg w) c = bt (col w c) 0 := by
      rw [col_bt _ _ 0 (by decide), Nat.add_zero]
      unfold fstM
      match c, hc with
      | 0, _ => simpa using f0
      | 1, _ => simpa using q1
      | 2, _ => simpa using q2
      | 3, _ => simpa using q3
      | 4, _ => simpa using q4
      | 5, _ => simpa using q5
    have e3 : bt (msg w) 6 = wt (col w c) % 2 := by rw [p6, hp c hc, hp 0 (by decide)]
    unfold colM
    rw [e1, e2, e3]
    exact tbl_back _ (col_lt w c)
  have := word_cols w hw
  unfold cw
  rw [hc 0 (by decide), hc 1 (by decide), hc 2 (by decide), hc 3 (by decide), hc 4 (by decide), hc 5 (by decide)]
  exact this.symm
/-- A word of the code. -/
def Cod (w : Nat) : Prop := w < 16777216 ∧ inCode w = true
theorem cod_cw (m : Nat) : Cod (cw m) := ⟨cw_lt m, cw_in m⟩
theorem cod_ex {w : Nat} (h : Cod w) : ∃ m, m < 4096 ∧ cw m = w := ⟨msg w, msg_lt w, cw_msg h.1 h.2⟩
end Go.Proofs.Ytmboaaopmjmdnaa
