/- Counting bits by halves: bits.OnesCount64 at words. No program here. -/
import Derived.Test.YtmboaaopmjmdnaaM3
namespace Go.Proofs.Ytmboaaopmjmdnaa

theorem and16 {n m : Nat} (hn : n < 16) (hm : m < 16) (y M : Nat) : (n + 16 * y) &&& (m + 16 * M) = (n &&& m) + 16 * (y &&& M) := by
  have hnm : n &&& m < 16 := Nat.and_lt_two_pow (n := 4) _ hm
  have t : ∀ (a z i : Nat), a < 16 → (a + 16 * z).testBit i = if i < 4 then a.testBit i else z.testBit (i - 4) := by
    intro a z i ha
    have := Nat.testBit_two_pow_mul_add z (i := 4) (b := a) ha i
    rw [Nat.add_comm]; exact this
  apply Nat.eq_of_testBit_eq
  intro i
  rw [Nat.testBit_and, t n y i hn, t m M i hm, t _ _ i hnm]
  split
  · rw [Nat.testBit_and]
  · rw [Nat.testBit_and]
def q1 (x M : Nat) : Nat := (x / 2 &&& M) + (x &&& M)
def q2 (x M : Nat) : Nat := (x / 4 &&& M) + (x &&& M)
theorem half_all : ∀ n, n < 16 → ∀ z, z < 2 → (n / 2 + 8 * z) &&& 5 = n / 2 &&& 5 ∧ n / 2 + 8 * z < 16 := by decide
theorem quarter_all : ∀ n, n < 16 → ∀ z, z < 4 → (n / 4 + 4 * z) &&& 3 = n / 4 &&& 3 ∧ n / 4 + 4 * z < 16 := by decide
theorem q1_nib {n : Nat} (hn : n < 16) (y M : Nat) : q1 (n + 16 * y) (5 + 16 * M) = q1 n 5 + 16 * q1 y M := by
  have e : (n + 16 * y) / 2 = (n / 2 + 8 * (y % 2)) + 16 * (y / 2) := by omega
  have h := half_all n hn (y % 2) (by omega)
  unfold q1
  rw [e, and16 h.2 (by decide), and16 hn (by decide), h.1]
  omega
theorem q2_nib {n : Nat} (hn : n < 16) (y M : Nat) : q2 (n + 16 * y) (3 + 16 * M) = q2 n 3 + 16 * q2 y M := by
  have e : (n + 16 * y) / 4 = (n / 4 + 4 * (y % 4)) + 16 * (y / 4) := by omega
  have h := quarter_all n hn (y % 4) (by omega)
  unfold q2
  rw [e, and16 h.2 (by decide), and16 hn (by decide), h.1]
  omega
theorem q_wt : ∀ n, n < 16 → q1 n 5 < 16 ∧ q2 (q1 n 5) 3 = wt n ∧ wt n ≤ 4 := by decide
theorem pop_fold (x : Nat) (hx : x < 16777216) :
    q2 (q1 x 6148914691236517205) 3689348814741910323 = wt (col x 0) + 16 * wt (col x 1) + 256 * wt (col x 2) + 4096 * wt (col x 3) + 65536 * wt (col x 4) + 1048576 * wt (col x 5) := by
  have hc := fun c => col_lt x c
  have e := word_cols x hx
  have e' : x = col x 0 + 16 * (col x 1 + 16 * (col x 2 + 16 * (col x 3 + 16 * (col x 4 + 16 * (col x 5 + 16 * 0))))) := by omega
  have k1 : q1 x 6148914691236517205 = q1 (col x 0) 5 + 16 * (q1 (col x 1) 5 + 16 * (q1 (col x 2) 5 + 16 * (q1 (col x 3) 5 + 16 * (q1 (col x 4) 5 + 16 * (q1 (col x 5) 5 + 16 * 0))))) := by
    conv => lhs; rw [e']
    rw [show (6148914691236517205 : Nat) = 5 + 16 * (5 + 16 * (5 + 16 * (5 + 16 * (5 + 16 * (5 + 16 * 366503875925))))) from rfl]
    rw [q1_nib (hc 0), q1_nib (hc 1), q1_nib (hc 2), q1_nib (hc 3), q1_nib (hc 4), q1_nib (hc 5)]
    rw [show q1 0 366503875925 = 0 from by decide]
  have w := fun c => q_wt (col x c) (hc c)
  rw [k1, show (3689348814741910323 : Nat) = 3 + 16 * (3 + 16 * (3 + 16 * (3 + 16 * (3 + 16 * (3 + 16 * 219902325555))))) from rfl]
  rw [q2_nib (w 0).1, q2_nib (w 1).1, q2_nib (w 2).1, q2_nib (w 3).1, q2_nib (w 4).1, q2_nib (w 5).1]
  rw [show q2 0 219902325555 = 0 from by decide, (w 0).2.1, (w 1).2.1, (w 2).2.1, (w 3).2.1, (w 4).2.1, (w 5).2.1]
  omega
theorem pop_mask {a b c d e f : Nat} (ha : a ≤ 4) (hb : b ≤ 4) (hc : c ≤ 4) (hd : d ≤ 4) (he : e ≤ 4) (hf : f ≤ 4) (z : Nat) (hz : z = a + 16 * b + 256 * c + 4096 * d + 65536 * e + 1048576 * f) :
    (z / 16 + z) &&& 1085102592571150095 = (a + b) + 256 * (c + d) + 65536 * (e + f) := by
  have e1 : z / 16 + z = (a + b) + 16 * ((b + c) + 16 * ((c + d) + 16 * ((d + e) + 16 * ((e + f) + 16 * (f + 16 * 0))))) := by omega
  rw [e1, show (1085102592571150095 : Nat) = 15 + 16 * (0 + 16 * (15 + 16 * (0 + 16 * (15 + 16 * (0 + 16 * 64677154575))))) from rfl]
  rw [and16 (by omega) (by decide), and16 (by omega) (by decide), and16 (by omega) (by decide), and16 (by omega) (by decide), and16 (by omega) (by decide), and16 (by omega) (by decide)]
  have m : ∀ n, n < 16 → n &&& 15 = n := by decide
  rw [m _ (by omega), m _ (by omega), m _ (by omega)]
  simp
  omega
/-- The whole of it. -/
def pop3 (x : Nat) : Nat := (q2 (q1 x 6148914691236517205) 3689348814741910323 / 16 + q2 (q1 x 6148914691236517205) 3689348814741910323) &&& 1085102592571150095
theorem pop3_eq (x : Nat) (hx : x < 16777216) : ∃ s0 s1 s2 : Nat, s0 ≤ 8 ∧ s1 ≤ 8 ∧ s2 ≤ 8 ∧ pop3 x = s0 + 256 * s1 + 65536 * s2 ∧ s0 + s1 + s2 = wt x := by
  have w := fun c => (q_wt (col x c) (col_lt x c)).2.2
  refine ⟨_, _, _, ?_, ?_, ?_, pop_mask (w 0) (w 1) (w 2) (w 3) (w 4) (w 5) _ (pop_fold x hx), ?_⟩
  · have := w 0; have := w 1; omega
  · have := w 2; have := w 3; omega
  · have := w 4; have := w 5; omega
  · have := wt_cols x; simp only [sm] at this; omega
theorem and127 (n : Nat) : n &&& 127 = n % 128 := by rw [show (127 : Nat) = 2 ^ 7 - 1 from rfl, Nat.and_two_pow_sub_one_eq_mod]
theorem pop_end {p s0 s1 s2 : Nat} (h0 : s0 ≤ 8) (h1 : s1 ≤ 8) (h2 : s2 ≤ 8) (hp : p = s0 + 256 * s1 + 65536 * s2) :
    ((p + p / 256) + (p + p / 256) / 65536 + ((p + p / 256) + (p + p / 256) / 65536) / 4294967296) &&& 127 = s0 + s1 + s2 := by
  rw [and127]
  have e1 : p / 256 = s1 + 256 * s2 := by omega
  have e2 : (p + p / 256) / 65536 = s2 := by omega
  have e3 : (p + p / 256 + (p + p / 256) / 65536) / 4294967296 = 0 := by omega
  rw [e3, e2, e1, hp]
  omega
end Go.Proofs.Ytmboaaopmjmdnaa
