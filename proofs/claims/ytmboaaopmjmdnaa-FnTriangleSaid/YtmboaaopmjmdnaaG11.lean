/- Two rows of rows compared (laws.go). -/
import Derived.Test.YtmboaaopmjmdnaaB5
import Derived.Test.YtmboaaopmjmdnaaB7
import Derived.Test.YtmboaaopmjmdnaaG2
namespace Go.Proofs.Ytmboaaopmjmdnaa
open Go.RowKit

theorem sameInts_same (B : Nat) (A1 A2 : Option Addr) (n1 n2 c1 c2 : Nat) (l : List Int) (w : World) (h1 : Sl w B A1 n1 c1 l) (h2 : Sl w B A2 n2 c2 l) (hn : n1 ≤ 1048576) :
    Calls Try.prog 17 #[.slice A1 n1 c1, .slice A2 n2 c2] w fun e w' => e = .returned (.bool true) ∧ Below w.heap.size w w' := by
  have h := sameInts B A1 A2 n1 n2 c1 c2 l l w h1 h2 hn
  rwa [decide_eq_true rfl] at h

set_option maxHeartbeats 1000000 in
theorem sameSS (b1 b2 : Nat) (A1 A2 : Option Addr) (n c1 c2 : Nat) (rs1 rs2 : List Sh) (F : Nat → List Int) (w : World) (h1 : Rows w b1 A1 n c1 rs1 F) (h2 : Rows w b2 A2 n c2 rs2 F) (hn : n ≤ 1000) (hF : ∀ i, (F i).length ≤ 1000) :
    Calls Try.prog 7 #[.slice A1 n c1, .slice A2 n c2] w fun e w' => e = .returned (.bool true) ∧ Below w.heap.size w w' := by
  have H1 := Lib.hid h1
  have H2 := Lib.hid h2
  have HF := Lib.hid hF
  have e0 : ((n : Int) != (n : Int)) = false := by simp
  clear h1 h2 hF
  go_enter Try.func7, Try.ntmps7
  go_wp2
  go_loopw [5] (fun iv wr => ∃ k : Nat, k ≤ n ∧ iv = .int .i64 k ∧ Below w.heap.size w wr) (fun iv _ => n - (intOf iv).toNat)
  case atStart => exact ⟨0, Nat.zero_le _, rfl, Below.refl _ _⟩
  case round =>
    obtain ⟨k, hk, rfl, hb⟩ := hrel
    have B := Lib.hid hb
    clear hb
    by_cases hlt : k < n
    · have f1 : decide ((k : Int) < (n : Int)) = true := by simp; omega
      obtain ⟨g1, a1, m1, k1, rfl, _, hg1, _, hc1, ho1⟩ := (H1.out.below B.out).get hlt
      obtain ⟨g2, a2, m2, k2, rfl, _, hg2, _, hc2, ho2⟩ := (H2.out.below B.out).get hlt
      have hm1 : m1 ≤ 1048576 := by have h1 := ho1.length; have h2 := HF.out k; omega
      have S1 := Lib.hid ho1.sl
      have S2 := Lib.hid ho2.sl
      have hcw1 : ∀ w2, Grown wr w2 → w2.cell? ⟨g1, k, none⟩ = some (.slice a1 m1 k1) := fun w2 b => b.cell hg1 hc1
      have hcw2 : ∀ w2, Grown wr w2 → w2.cell? ⟨g2, k, none⟩ = some (.slice a2 m2 k2) := fun w2 b => b.cell hg2 hc2
      have hbw : ∀ w2, Grown wr w2 → Below w.heap.size w w2 := fun w2 b => b.below B.out
      have i0 : (0 : Int) ≤ (k : Int) := by omega
      have i1 : (k : Int) < (n : Int) := by omega
      clear ho1 ho2 hc1 hc2
      go_wp2_with fail
      refine region_class (Grown wr) (by kernel_rfl) (by kernel_rfl) (Grown.drew _) ?_
      repeat (refine WQ_step (fun K hK => ?_); go_simp; first | (refine hK _ ?_; clear hK K) | (apply Exists.intro; refine ⟨fun w2 hw2 => ?_, hK _ ?_⟩; (first | (with_reducible rfl) | (rw [hcw1 w2 hw2]; exact ⟨rfl, rfl⟩) | (rw [hcw2 w2 hw2]; exact ⟨rfl, rfl⟩) | (exact hw2.call (sameInts_same _ a1 a2 m1 m2 k1 k2 _ _ (hw2.sl S1.out) (hw2.sl S2.out) hm1))); clear hK K))
      refine WQ_nil ?_
      intro w5 hw5
      have F5 := Lib.hid (hbw w5 hw5)
      clear hcw1 hcw2 hbw hw5
      go_wp2
      go_roundw
      case rel => exact ⟨k + 1, by omega, by go_num, F5.out⟩
      case measure => simp [intOf]; omega
    · obtain rfl : k = n := by omega
      have f1 : decide ((k : Int) < (k : Int)) = false := by simp
      go_wp2
      go_ret
      exact ⟨rfl, B.out⟩
end Go.Proofs.Ytmboaaopmjmdnaa
