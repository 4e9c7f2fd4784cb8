import Derived.Test.YtffemgcffenkcaaD2
namespace Go.Proofs.Ytffemgcffenkcaa
open Go.RowKit

theorem lns_at {b s k y : Nat} (hb : b < 16777216) (h : (lns b s)[k]? = some y) : y < 16777216 := line_lt hb ((mem_lns hb).1 (List.mem_of_getElem? h)).1
theorem thinL_all {w : Nat} {l : List Nat} {n : Nat} (h : thinL w (l.take n) = true) (hn : l.length ≤ n) : thinL w l = true := by rwa [List.take_of_length_le hn] at h

/-- Whether w has points alone, no three of them on a line. -/
def spreadZ (b x : Int) : Bool := baseZ b && (valid x && (decide (x.toNat &&& b.toNat = 0) && thinL x.toNat (lns b.toNat 0)))
theorem spread_no1 {b x : Int} (h : baseZ b = false) : spreadZ b x = false := by unfold spreadZ; rw [h, Bool.false_and]
theorem spread_no2 {b x : Int} (h : valid x = false) : spreadZ b x = false := by unfold spreadZ; rw [h, Bool.false_and, Bool.and_false]
theorem spread_no3 {b x : Nat} (h : x &&& b ≠ 0) : spreadZ b x = false := by
  unfold spreadZ
  rw [show decide ((x : Int).toNat &&& (b : Int).toNat = 0) = false from decide_eq_false h, Bool.false_and, Bool.and_false, Bool.and_false]
theorem spread_eq {b x : Nat} (hb : b < 16777216) (h3 : wt b = 3) (hx : x < 16777216) (h : x &&& b = 0) : spreadZ b x = thinL x (lns b 0) := by
  unfold spreadZ
  rw [baseZ_yes hb h3, valid_yes hx, show decide ((x : Int).toNat &&& (b : Int).toNat = 0) = true from decide_eq_true h, Int.toNat_natCast, Int.toNat_natCast, Bool.true_and, Bool.true_and, Bool.true_and]

end Go.Proofs.Ytffemgcffenkcaa
