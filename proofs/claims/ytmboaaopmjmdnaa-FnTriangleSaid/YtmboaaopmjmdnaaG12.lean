import Derived.Test.YtmboaaopmjmdnaaH6
import Derived.Test.YtmboaaopmjmdnaaF22
import Derived.Test.YtmboaaopmjmdnaaG11
namespace Go.Proofs.Ytmboaaopmjmdnaa
open Go.RowKit

/-- Each number is the sum of the two below it. -/
theorem tri_sum : ∀ k, k < 8 → ∀ j, j < k + 1 → triN j (k - j) = triN j (k + 1 - j) + triN (j + 1) (k + 1 - (j + 1)) ∧ triN j (k - j) ≤ 759 := by decide +kernel

/-- The triangle's cells: a header each row, a number each place. -/
structure Tri (w : World) (g : Nat) (G L C : Nat → Nat) : Prop where
  len : ∀ i, i < 9 → L i = i + 1
  head : ∀ i, i < 9 → w.cell? ⟨g, i, none⟩ = some (.slice (some ⟨G i, 0, none⟩) (L i) (C i))
  num : ∀ i, i < 9 → ∀ j, j ≤ i → w.cell? ⟨G i, j, none⟩ = some (.int .i64 (triN j (i - j) : Nat))
theorem tri_rows {w : World} {base : Nat} {A : Option Addr} {cap : Nat} {rs : List Sh} (h : Rows w base A 9 cap rs triF) : ∃ g G L C, A = some ⟨g, 0, none⟩ ∧ Tri w g G L C := by
  obtain ⟨g, _, _, _, rfl, _⟩ := h.get (k := 0) (by decide)
  have hex : ∀ i : Nat, ∃ p : Nat × Nat × Nat, i < 9 → p.2.1 = i + 1 ∧ w.cell? ⟨g, i, none⟩ = some (.slice (some ⟨p.1, 0, none⟩) p.2.1 p.2.2) ∧ ∀ j, j ≤ i → w.cell? ⟨p.1, j, none⟩ = some (.int .i64 (triN j (i - j) : Nat)) := by
    intro i
    by_cases hi : i < 9
    · obtain ⟨g', a, m, c, e, _, _, _, hc, ho⟩ := h.get hi
      injection e with e
      injection e with e1 e2
      subst e1
      obtain rfl : m = i + 1 := by have := ho.length; rw [triF_len] at this; omega
      obtain ⟨b, rfl, _, _⟩ := ho.form (by omega)
      refine ⟨⟨b, i + 1, c⟩, fun _ => ⟨rfl, hc, fun j hj => ho.cell ?_⟩⟩
      unfold triF
      rw [nl_get, trow_get hj]
      rfl
    · exact ⟨⟨0, 0, 0⟩, fun h => absurd h hi⟩
  obtain ⟨f, hf⟩ := Classical.axiomOfChoice hex
  exact ⟨g, fun i => (f i).1, fun i => (f i).2.1, fun i => (f i).2.2, rfl, fun i hi => (hf i hi).1, fun i hi => (hf i hi).2.1, fun i hi => (hf i hi).2.2⟩

/-- The triangle's rows, as long as there are. -/
def triH (i : Nat) : List Int := if i < 9 then triF i else []
theorem triH_len (i : Nat) : (triH i).length ≤ 1000 := by
  unfold triH
  split
  · rw [triF_len]; omega
  · simp
theorem rows_triH {w : World} {base : Nat} {A : Option Addr} {n cap : Nat} {rs : List Sh} (hn : n ≤ 9) (h : Rows w base A n cap rs triF) : Rows w base A n cap rs triH :=
  h.cong fun i hi => by unfold triH; rw [if_pos (Nat.lt_of_lt_of_le hi hn)]

set_option maxRecDepth 100000 in
set_option maxHeartbeats 1000000 in
theorem lawFnTriangle (A : Option Addr) (n cap : Nat) (zs : List Int) (w : World) (h : IsRow .u8 w A n cap zs) :
    Calls Try.prog 3 #[.slice A n cap] w fun e w' => e = .returned (.bool true) ∧ Below w.heap.size w w' := by
  have H := Lib.hid h
  clear h
  by_cases hn : n ≤ 1048576
  · have e1 : decide ((1048576 : Int) < (n : Int)) = false := by simp; omega
    go_enter Try.func3, Try.ntmps3
    go_wp2_with fail
    refine (dOctadTriangle A n cap zs w H.out hn).mono ?_
    rintro e w1 ⟨⟨x, rfl⟩, b1⟩
    have HI := Lib.hid (iOctadTriangle x w1)
    have HS := Lib.hid (sOctadTriangle x)
    unfold MakesT at HI HS
    cases hv : octZ x with
    | false =>
      rw [hv] at HI HS
      clear hv
      generalize htn : tn false = N at HI HS
      have hN : N ≤ 9 := by rw [← htn]; decide
      clear htn
      go_wp2_with fail
      refine HI.out.mono ?_
      rintro e w2 ⟨A2, c2, r2, rfl, o2, b2⟩
      go_wp2_with fail
      refine (HS.out w2).mono ?_
      rintro e w3 ⟨A3, c3, r3, rfl, o3, b3⟩
      have HB3 := below_to (below_to b1 b2 (Nat.le_refl _)) b3 (Nat.le_refl _)
      have S2 := rows_triH hN (o2.below b3)
      have S3 := rows_triH hN o3
      have hN' : N ≤ 1000 := by omega
      go_wp2_with fail
      refine (sameSS _ _ A2 A3 N c2 c3 r2 r3 triH w3 S2 S3 hN' triH_len).mono ?_
      rintro e w4 ⟨rfl, b4⟩
      go_wp2_with fail
      refine (sameSS _ _ A2 A3 N c2 c3 r2 r3 triH w4 (S2.below b4) (S3.below b4) hN' triH_len).mono ?_
      rintro e w5 ⟨rfl, b5⟩
      have HB := Lib.hid (below_to (below_to HB3 b4 (Nat.le_refl _)) b5 (Nat.le_refl _))
      clear b1 b2 b3 b4 b5 o2 o3 S2 S3 HB3
      go_wp2
      go_ret
      exact ⟨rfl, HB.out⟩
    | true =>
      rw [hv] at HI HS
      clear hv
      have htn : tn true = 9 := rfl
      rw [htn] at HI HS
      clear htn
      go_wp2_with fail
      refine HI.out.mono ?_
      rintro e w2 ⟨A2, c2, r2, rfl, o2, b2⟩
      go_wp2_with fail
      refine (HS.out w2).mono ?_
      rintro e w3 ⟨A3, c3, r3, rfl, o3, b3⟩
      have HB3 := below_to (below_to b1 b2 (Nat.le_refl _)) b3 (Nat.le_refl _)
      have o2' := o2.below b3
      have S2 := rows_triH (Nat.le_refl 9) o2'
      have S3 := rows_triH (Nat.le_refl 9) o3
      go_wp2_with fail
      refine (sameSS _ _ A2 A3 9 c2 c3 r2 r3 triH w3 S2 S3 (by decide) triH_len).mono ?_
      rintro e W ⟨rfl, b4⟩
      have HB := Lib.hid (below_to HB3 b4 (Nat.le_refl _))
      obtain ⟨g, G, L, C, rfl, ht⟩ := tri_rows (o2'.below b4)
      have HT := Lib.hid ht
      clear b1 b2 b3 b4 o2 o3 S2 S3 HB3 o2' ht HI HS
      go_wp2
      go_loopw [8] (fun iv wr => ∃ k m : Nat, k ≤ 8 ∧ iv = .int .i64 (k : Nat) ∧ wr = W.drewN m) (fun iv _ => 8 - (intOf iv).toNat)
      case atStart => exact ⟨0, 0, Nat.zero_le _, rfl, rfl⟩
      case round =>
        obtain ⟨k, m, hk, rfl, rfl⟩ := hrel
        by_cases hlt : k < 8
        · have f0 : decide ((k : Int) < 8) = true := by simp; omega
          go_wp2
          go_loopw [9] (fun jv wr => ∃ j m : Nat, j ≤ k + 1 ∧ jv = .int .i64 (j : Nat) ∧ wr = W.drewN m) (fun jv _ => (k + 1) - (intOf jv).toNat)
          case atStart => exact ⟨0, m, Nat.zero_le _, rfl, rfl⟩
          case round =>
            obtain ⟨j, m2, hj, rfl, rfl⟩ := hrel
            by_cases hjk : j < k + 1
            · have g0 : decide ((j : Int) ≤ (k : Int)) = true := by simp; omega
              have q1 := HT.out.head k (by omega)
              have q2 := HT.out.head (k + 1) (by omega)
              have q3 := HT.out.num k (by omega) j (by omega)
              have q4 := HT.out.num (k + 1) (by omega) j (by omega)
              have q5 := HT.out.num (k + 1) (by omega) (j + 1) (by omega)
              have l1 := HT.out.len k (by omega)
              have l2 := HT.out.len (k + 1) (by omega)
              obtain ⟨hs, hle⟩ := tri_sum k hlt j hjk
              generalize triN j (k - j) = x at q3 hs hle
              generalize triN j (k + 1 - j) = y at q4 hs
              generalize triN (j + 1) (k + 1 - (j + 1)) = z at q5 hs
              generalize G k = g1 at q1 q3
              generalize G (k + 1) = g2 at q2 q4 q5
              generalize C k = c3 at q1
              generalize C (k + 1) = c4 at q2
              generalize L k = n1 at q1 l1
              generalize L (k + 1) = n2 at q2 l2
              have i0 : (0 : Int) ≤ (j : Int) := by omega
              have i1 : (0 : Int) ≤ (k : Int) := by omega
              have i2 : (j : Int) < (n1 : Int) := by omega
              have i3 : (k : Int) < 9 := by omega
              have i4 : (k : Int) + 1 < 9 := by omega
              have i5 : (j : Int) < (n2 : Int) := by omega
              have i6 : (j : Int) + 1 < (n2 : Int) := by omega
              have j1 : IntKind.i64.wrap ((k : Int) + 1) = (k : Int) + 1 := by rw [IntKind.wrap_i64]; omega
              have j2 : IntKind.i64.wrap ((j : Int) + 1) = (j : Int) + 1 := by rw [IntKind.wrap_i64]; omega
              have j3 : ((k : Int) + 1).toNat = k + 1 := by omega
              have j4 : ((j : Int) + 1).toNat = j + 1 := by omega
              have j5 : (0 : Int) ≤ (k : Int) + 1 := by omega
              have j6 : (0 : Int) ≤ (j : Int) + 1 := by omega
              have s1 : IntKind.i64.wrap ((y : Int) + (z : Int)) = (x : Int) := by rw [IntKind.wrap_i64]; omega
              have s2 : ((x : Int) != (x : Int)) = false := by simp
              clear hs hle l1 l2
              go_wp2_with fail
              go_quiet (fail)
              go_wp2
              go_roundw
              case rel => exact ⟨j + 1, m2 + nq, by omega, by go_num, by simp⟩
              case measure => simp [intOf]; omega
            · obtain rfl : j = k + 1 := by omega
              have g0 : decide ((k : Int) + 1 ≤ (k : Int)) = false := by simp; omega
              go_wp2
              go_roundw
              case rel => exact ⟨k + 1, m2, by omega, by go_num, rfl⟩
              case measure => simp [intOf]; omega
        · obtain rfl : k = 8 := by omega
          have f0 : decide ((8 : Int) < 8) = false := by decide
          have hc : ∀ i j v : Nat, i < 9 → j ≤ i → triN j (i - j) = v → W.cell? ⟨G i, j, none⟩ = some (.int .i64 (v : Nat)) := by
            intro i j v hi hj e
            rw [HT.out.num i hi j hj, e]
          have hd : ∀ i : Nat, i < 9 → W.cell? ⟨g, i, none⟩ = some (.slice (some ⟨G i, 0, none⟩) (i + 1) (C i)) := by
            intro i hi
            rw [HT.out.head i hi, HT.out.len i hi]
          have q0 : W.cell? ⟨g, 0, none⟩ = some (.slice (some ⟨G 0, 0, none⟩) 1 (C 0)) := hd 0 (by decide)
          have q1 : W.cell? ⟨g, 1, none⟩ = some (.slice (some ⟨G 1, 0, none⟩) 2 (C 1)) := hd 1 (by decide)
          have q2 : W.cell? ⟨g, 2, none⟩ = some (.slice (some ⟨G 2, 0, none⟩) 3 (C 2)) := hd 2 (by decide)
          have q3 : W.cell? ⟨g, 3, none⟩ = some (.slice (some ⟨G 3, 0, none⟩) 4 (C 3)) := hd 3 (by decide)
          have q4 : W.cell? ⟨g, 4, none⟩ = some (.slice (some ⟨G 4, 0, none⟩) 5 (C 4)) := hd 4 (by decide)
          have q5 : W.cell? ⟨g, 5, none⟩ = some (.slice (some ⟨G 5, 0, none⟩) 6 (C 5)) := hd 5 (by decide)
          have q8 : W.cell? ⟨g, 8, none⟩ = some (.slice (some ⟨G 8, 0, none⟩) 9 (C 8)) := hd 8 (by decide)
          have r0 : W.cell? ⟨G 0, 0, none⟩ = some (.int .i64 759) := hc 0 0 759 (by decide) (by decide) (by decide)
          have r1 : W.cell? ⟨G 1, 1, none⟩ = some (.int .i64 253) := hc 1 1 253 (by decide) (by decide) (by decide)
          have r2 : W.cell? ⟨G 2, 2, none⟩ = some (.int .i64 77) := hc 2 2 77 (by decide) (by decide) (by decide)
          have r3 : W.cell? ⟨G 3, 3, none⟩ = some (.int .i64 21) := hc 3 3 21 (by decide) (by decide) (by decide)
          have r4 : W.cell? ⟨G 4, 4, none⟩ = some (.int .i64 5) := hc 4 4 5 (by decide) (by decide) (by decide)
          have r5 : W.cell? ⟨G 5, 5, none⟩ = some (.int .i64 1) := hc 5 5 1 (by decide) (by decide) (by decide)
          have r8 : W.cell? ⟨G 8, 8, none⟩ = some (.int .i64 1) := hc 8 8 1 (by decide) (by decide) (by decide)
          have r9 : W.cell? ⟨G 8, 0, none⟩ = some (.int .i64 30) := hc 8 0 30 (by decide) (by decide) (by decide +kernel)
          clear hc hd HT
          go_wp2
          go_ret
          exact ⟨rfl, below_drewN HB.out _⟩
  · have e1 : decide ((1048576 : Int) < (n : Int)) = true := by simp; omega
    go_enter Try.func3, Try.ntmps3
    go_wp2
    go_ret
    exact ⟨rfl, Below.refl _ _⟩
end Go.Proofs.Ytmboaaopmjmdnaa
