/- The sums of two tetrads each of a list, in the two programs' orders. No program here. -/
import Derived.Test.YthggjkpnjogcaaaM12
namespace Go.Proofs.Ythggjkpnjogcaaa

/-- Each number of l with each later one. -/
def prI (l : List Nat) : Nat → List Nat
  | 0 => []
  | i + 1 => prI l i ++ (l.drop (i + 1)).map fun y => l.getD i 0 ^^^ y
/-- Each number of l with each earlier one. -/
def prS (l : List Nat) : Nat → List Nat
  | 0 => []
  | i + 1 => prS l i ++ (l.take i).map fun y => l.getD i 0 ^^^ y
theorem pr_six (a b c d e f : Nat) : (prI [a, b, c, d, e, f] 6).Perm (prS [a, b, c, d, e, f] 6) := by
  have h : prS [a, b, c, d, e, f] 6 = [b ^^^ a, c ^^^ a, c ^^^ b, d ^^^ a, d ^^^ b, d ^^^ c, e ^^^ a, e ^^^ b, e ^^^ c, e ^^^ d, f ^^^ a, f ^^^ b, f ^^^ c, f ^^^ d, f ^^^ e] := rfl
  have k : prI [a, b, c, d, e, f] 6 = [a ^^^ b, a ^^^ c, a ^^^ d, a ^^^ e, a ^^^ f, b ^^^ c, b ^^^ d, b ^^^ e, b ^^^ f, c ^^^ d, c ^^^ e, c ^^^ f, d ^^^ e, d ^^^ f, e ^^^ f] := rfl
  rw [h, k, Nat.xor_comm b a, Nat.xor_comm c a, Nat.xor_comm c b, Nat.xor_comm d a, Nat.xor_comm d b, Nat.xor_comm d c, Nat.xor_comm e a, Nat.xor_comm e b, Nat.xor_comm e c, Nat.xor_comm e d,
    Nat.xor_comm f a, Nat.xor_comm f b, Nat.xor_comm f c, Nat.xor_comm f d, Nat.xor_comm f e]
  rw [List.perm_iff_count]
  intro x
  simp only [List.count_cons, List.count_nil]
  omega
theorem srt_perm_eq {l t : List Int} (h : l.Perm t) : srt l = srt t := srt_of (srt_up t) ((srt_perm t).trans h.symm)
theorem pr_srt {l : List Nat} (h : l.length = 6) : srt (nl (prI l 6)) = srt (nl (prS l 6)) := by
  match l, h with
  | [a, b, c, d, e, f], _ => exact srt_perm_eq ((pr_six a b c d e f).map _)
end Go.Proofs.Ythggjkpnjogcaaa
