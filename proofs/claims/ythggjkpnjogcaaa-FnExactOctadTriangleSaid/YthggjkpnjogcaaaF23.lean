/- Two rows of rows compared; rows of rows marked, and the marks found again. -/
import Derived.Test.YthggjkpnjogcaaaB5
import Derived.Test.YthggjkpnjogcaaaB7
namespace Go.Proofs.Ythggjkpnjogcaaa
open Go.RowKit

theorem eqIntS_same (B : Nat) (A1 A2 : Option Addr) (n1 n2 c1 c2 : Nat) (l : List Int) (w : World) (h1 : Sl w B A1 n1 c1 l) (h2 : Sl w B A2 n2 c2 l) (hn : n1 ≤ 1048576) :
    Calls Try.prog 43 #[.slice A1 n1 c1, .slice A2 n2 c2] w fun e w' => e = .returned (.bool true) ∧ Below w.heap.size w w' := by
  have h := eqIntS_any B A1 A2 n1 n2 c1 c2 l l w h1 h2 hn
  rwa [decide_eq_true rfl] at h

set_option maxHeartbeats 1000000 in
theorem eqSS (b1 b2 : Nat) (A1 A2 : Option Addr) (n c1 c2 : Nat) (rs1 rs2 : List Sh) (F : Nat → List Int) (w : World) (h1 : Rows w b1 A1 n c1 rs1 F) (h2 : Rows w b2 A2 n c2 rs2 F) (hn : n ≤ 1000) (hF : ∀ i, (F i).length ≤ 1000) :
    Calls Try.prog 46 #[.slice A1 n c1, .slice A2 n c2] w fun e w' => e = .returned (.bool true) ∧ Below w.heap.size w w' := by
  have H1 := Lib.hid h1
  have H2 := Lib.hid h2
  have HF := Lib.hid hF
  have e0 : ((n : Int) != (n : Int)) = false := by simp
  clear h1 h2 hF
  go_enter Try.func46, Try.ntmps46
  go_wp2
  go_loopw [5] (fun iv wr => ∃ k : Nat, k ≤ n ∧ iv = .int .i64 k ∧ Below w.heap.size w wr) (fun iv _ => n - (intOf iv).toNat)
  case atStart => exact ⟨0, Nat.zero_le _, rfl, Below.refl _ _⟩
  case round =>
    obtain ⟨k, hk, rfl, hb⟩ := hrel
    have B := Lib.hid hb
    clear hb
    by_cases hlt : k < n
    · have f1 : decide ((k : Int) < (n : Int)) = true := by simp; omega
      obtain ⟨g1, a1, m1, k1, rfl, _, hg1, _, hc1, ho1⟩ := (H1.out.below B.out).get hlt
      obtain ⟨g2, a2, m2, k2, rfl, _, hg2, _, hc2, ho2⟩ := (H2.out.below B.out).get hlt
      have hm1 : m1 ≤ 1048576 := by have h1 := ho1.length; have h2 := HF.out k; omega
      have S1 := Lib.hid ho1.sl
      have S2 := Lib.hid ho2.sl
      have hcw1 : ∀ w2, Grown wr w2 → w2.cell? ⟨g1, k, none⟩ = some (.slice a1 m1 k1) := fun w2 b => b.cell hg1 hc1
      have hcw2 : ∀ w2, Grown wr w2 → w2.cell? ⟨g2, k, none⟩ = some (.slice a2 m2 k2) := fun w2 b => b.cell hg2 hc2
      have hbw : ∀ w2, Grown wr w2 → Below w.heap.size w w2 := fun w2 b => b.below B.out
      have i0 : (0 : Int) ≤ (k : Int) := by omega
      have i1 : (k : Int) < (n : Int) := by omega
      clear ho1 ho2 hc1 hc2
      go_wp2_with fail
      refine region_class (Grown wr) (by kernel_rfl) (by kernel_rfl) (Grown.drew _) ?_
      repeat (refine WQ_step (fun K hK => ?_); go_simp; first | (refine hK _ ?_; clear hK K) | (apply Exists.intro; refine ⟨fun w2 hw2 => ?_, hK _ ?_⟩; (first | (with_reducible rfl) | (rw [hcw1 w2 hw2]; exact ⟨rfl, rfl⟩) | (rw [hcw2 w2 hw2]; exact ⟨rfl, rfl⟩) | (exact hw2.call (eqIntS_same _ a1 a2 m1 m2 k1 k2 _ _ (hw2.sl S1.out) (hw2.sl S2.out) hm1))); clear hK K))
      refine WQ_nil ?_
      intro w5 hw5
      have F5 := Lib.hid (hbw w5 hw5)
      clear hcw1 hcw2 hbw hw5
      go_wp2
      go_roundw
      case rel => exact ⟨k + 1, by omega, by go_num, F5.out⟩
      case measure => simp [intOf]; omega
    · obtain rfl : k = n := by omega
      have f1 : decide ((k : Int) < (k : Int)) = false := by simp
      go_wp2
      go_ret
      exact ⟨rfl, B.out⟩

/-- How many numbers the first k rows have. -/
def tot (F : Nat → List Int) : Nat → Nat
  | 0 => 0
  | k + 1 => tot F k + (F k).length
theorem tot_le {F : Nat → List Int} (hF : ∀ i, (F i).length ≤ 1000) (k : Nat) : tot F k ≤ 1000 * k := by
  induction k with
  | zero => exact Nat.le_refl _
  | succ k ih => have := hF k; rw [tot]; omega
/-- The rows marked from s on; only those below k are. -/
def mkF (s : Int) (F : Nat → List Int) (i : Nat) : List Int := upFrom (s + tot F i) (F i).length
def mixF (s : Int) (F : Nat → List Int) (k i : Nat) : List Int := if i < k then mkF s F i else F i
theorem mix_zero (s : Int) (F : Nat → List Int) : mixF s F 0 = F := by funext i; unfold mixF; rw [if_neg (by omega)]
theorem mix_here (s : Int) (F : Nat → List Int) (k : Nat) : mixF s F k k = F k := by unfold mixF; rw [if_neg (by omega)]
theorem mix_all (s : Int) (F : Nat → List Int) {n i : Nat} (h : i < n) : mixF s F n i = mkF s F i := by unfold mixF; rw [if_pos h]
theorem mix_succ (s : Int) (F : Nat → List Int) (k i : Nat) : (if i = k then mkF s F k else mixF s F k i) = mixF s F (k + 1) i := by
  unfold mixF
  by_cases h : i = k
  · subst h; rw [if_pos rfl, if_pos (by omega)]
  · rw [if_neg h]
    by_cases h2 : i < k
    · rw [if_pos h2, if_pos (by omega)]
    · rw [if_neg h2, if_neg (by omega)]
/-- One of the rows has been written. -/
theorem Rows.mark {w w2 : World} {base : Nat} {A : Option Addr} {n cap : Nat} {rs : List Sh} {F : Nat → List Int} {k : Nat} {a : Option Addr} {m c : Nat} {l : List Int}
    (h : Rows w base A n cap rs F) (hr : rs[k]? = some ⟨a, m, c⟩) (own2 : Own w2 base a m c l) (only2 : Only w w2 a) : Rows w2 base A n cap rs (fun i => if i = k then l else F i) := by
  refine ⟨World.ownsRow.kept h.outer only2 ?_, fun i r hi => ?_, h.far, h.apart⟩
  · rw [map_block]
    cases A with
    | none => exact .inl rfl
    | some p =>
      refine .inr fun hh => ?_
      cases a with
      | none => cases hh
      | some q =>
        simp only [Option.map_some, Option.some.injEq] at hh
        exact h.far k _ p q hr rfl rfl hh.symm
  · by_cases e : i = k
    · subst e
      rw [if_pos rfl]
      rw [hr] at hi
      injection hi with hi
      subst hi
      exact own2
    · rw [if_neg e]
      exact (h.inner i r hi).only only2 fun x y hx hy => h.apart i k r ⟨a, m, c⟩ x y e hi hr hx hy

set_option maxHeartbeats 1000000 in
theorem markSS (base : Nat) (A : Option Addr) (n cap : Nat) (rs : List Sh) (F : Nat → List Int) (s : Int) (w : World) (h : Rows w base A n cap rs F) (hB : base ≤ w.heap.size) (hn : n ≤ 1000) (hF : ∀ i, (F i).length ≤ 1000) (h0 : 0 ≤ s) (h1 : s ≤ 1000) :
    Calls Try.prog 47 #[.slice A n cap, .int .i64 s] w fun e w' => e = .returned (.int .i64 (s + tot F n)) ∧ Rows w' base A n cap rs (mkF s F) ∧ Below base w w' := by
  have H := Lib.hid h
  have HF := Lib.hid hF
  have HT := Lib.hid (tot_le hF)
  clear h hF
  go_enter Try.func47, Try.ntmps47
  go_wp2
  go_loopw [1, 5] (fun s' iv wr => ∃ k : Nat, k ≤ n ∧ iv = .int .i64 k ∧ s' = .int .i64 (s + (tot F k : Nat)) ∧ Rows wr base A n cap rs (mixF s F k) ∧ Below base w wr) (fun _ iv _ => n - (intOf iv).toNat)
  case atStart => exact ⟨0, Nat.zero_le _, rfl, by simp [tot], by rw [mix_zero]; exact H.out, Below.refl _ _⟩
  case round =>
    obtain ⟨k, hk, rfl, rfl, hr, hb⟩ := hrel
    have R := Lib.hid hr
    have B := Lib.hid hb
    clear hr hb
    by_cases hlt : k < n
    · have f1 : decide ((k : Int) < (n : Int)) = true := by simp; omega
      obtain ⟨g1, a1, m1, k1, rfl, _, hg1, hr1, hc1, ho1⟩ := R.out.get hlt
      rw [mix_here] at ho1
      have hlen := ho1.length
      have hm1 : m1 ≤ 1000 := by have h2 := HF.out k; omega
      have hT := HT.out k
      have i0 : (0 : Int) ≤ (k : Int) := by omega
      have i1 : (k : Int) < (n : Int) := by omega
      have HM := Lib.hid (markIntS_any base a1 m1 k1 (F k) (s + (tot F k : Nat)) wr ho1 (by omega) (by omega) (by omega))
      have HL := Lib.hid hlen
      have HR1 := Lib.hid hr1
      have hsz := B.out.size
      have HAB := Lib.hid ho1.at_base
      clear ho1 hlen hr1
      go_wp2_with fail
      refine HM.out.mono ?_
      rintro e w2 ⟨rfl, o2, q2⟩
      have HR2 := Lib.hid ((R.out.mark HR1.out o2 q2).cong (G := mixF s F (k + 1)) (fun i _ => by
        rw [← mix_succ]
        by_cases e : i = k
        · rw [if_pos e, if_pos e]; unfold mkF; rw [HL.out]
        · rw [if_neg e, if_neg e]))
      have HB2 := Lib.hid (B.out.trans (q2.below (by omega) (HAB.out)))
      clear o2 q2
      go_wp2
      go_roundw
      case rel => exact ⟨k + 1, by omega, by go_num, int_eq (by have h := HL.out; rw [tot]; omega), HR2.out, HB2.out⟩
      case measure => simp [intOf]; omega
    · obtain rfl : k = n := by omega
      have f1 : decide ((k : Int) < (k : Int)) = false := by simp
      go_wp2
      go_ret
      exact ⟨rfl, R.out.cong fun i hi => mix_all s F hi, B.out⟩

set_option maxHeartbeats 1000000 in
theorem heldSS (base : Nat) (A : Option Addr) (n cap : Nat) (rs : List Sh) (F : Nat → List Int) (s : Int) (w : World) (h : Rows w base A n cap rs (mkF s F)) (hn : n ≤ 1000) (hF : ∀ i, (F i).length ≤ 1000) (h0 : 0 ≤ s) (h1 : s ≤ 1000) :
    Calls Try.prog 48 #[.slice A n cap, .int .i64 s] w fun e w' => e = .returned (.int .i64 (s + tot F n)) ∧ w = w' := by
  have H := Lib.hid h
  have HF := Lib.hid hF
  have HT := Lib.hid (tot_le hF)
  clear h hF
  go_enter Try.func48, Try.ntmps48
  go_wp2
  go_loop [1, 5] (fun s' iv => ∃ k : Nat, k ≤ n ∧ iv = .int .i64 k ∧ s' = .int .i64 (s + (tot F k : Nat))) (fun _ iv => n - (intOf iv).toNat)
  case atStart => exact ⟨0, Nat.zero_le _, rfl, by simp [tot]⟩
  case round =>
    obtain ⟨k, hk, rfl, rfl⟩ := hrel
    by_cases hlt : k < n
    · have f1 : decide ((k : Int) < (n : Int)) = true := by simp; omega
      obtain ⟨g1, a1, m1, k1, rfl, _, hg1, hr1, hc1, ho1⟩ := H.out.get hlt
      have hlen : (F k).length = m1 := by have := ho1.length; unfold mkF at this; rwa [upFrom_length] at this
      have hm1 : m1 ≤ 1000 := by have h2 := HF.out k; omega
      have hT := HT.out k
      have i0 : (0 : Int) ≤ (k : Int) := by omega
      have i1 : (k : Int) < (n : Int) := by omega
      have ho2 := ho1.sl
      unfold mkF at ho2
      rw [hlen] at ho2
      have HM := Lib.hid (heldIntS_any _ a1 m1 k1 (s + (tot F k : Nat)) w ho2 (by omega) (by omega) (by omega))
      have HL := Lib.hid hlen
      have f2 : decide (s + (tot F k : Nat) + (m1 : Int) < 0) = false := by simp; omega
      clear ho1 ho2 hlen hr1
      go_wp2_with fail
      refine HM.out.mono ?_
      rintro e w' ⟨rfl, rfl⟩
      go_wp2
      go_round
      case rel => exact ⟨k + 1, by omega, by go_num, int_eq (by have h := HL.out; rw [tot]; omega)⟩
      case measure => simp [intOf]; omega
    · obtain rfl : k = n := by omega
      have f1 : decide ((k : Int) < (k : Int)) = false := by simp
      go_wp2
      go_ret
      exact ⟨rfl, rfl⟩
end Go.Proofs.Ythggjkpnjogcaaa
