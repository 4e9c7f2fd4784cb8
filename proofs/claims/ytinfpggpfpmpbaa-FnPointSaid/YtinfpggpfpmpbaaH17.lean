/- The drawing of a base and two lines. -/
import Derived.Test.YtinfpggpfpmpbaaK1
namespace Go.Proofs.Ytinfpggpfpmpbaa
open Go.RowKit

theorem Sl.reads_any {w : World} {g bb ob n c : Nat} {l : List Int} (S : Sl w w.heap.size (some ⟨bb, ob, none⟩) n c l) (hA : bb ≠ g) :
    ∀ (w8 : World) (k : Nat), Only w.drew w8 (some ⟨g, 0, none⟩) → k < n → ∃ y : Int, w8.cell? ⟨bb, ob + k, none⟩ = some (.int .i64 y) := fun w8 k o8 hk => by
  have S8 := Sl.read (w := w.drew) S.drew (fun x hx => by injection hx with hx; subst hx; exact hA) o8
  obtain ⟨b', o', y, e, _, _, hc⟩ := S8.get hk
  injection e with e
  injection e with e1 e2
  subst e1
  subst e2
  exact ⟨y, hc⟩

set_option maxHeartbeats 2000000 in
theorem dPlanePoint (A : Option Addr) (n cap : Nat) (zs : List Int) (w : World) (h : IsRow .u8 w A n cap zs) (hn : n ≤ 1048576) :
    Calls Try.prog 40 #[.slice A n cap] w fun e w' => (∃ x y z, e = .returned (.tuple #[.int .i64 x, .int .i64 y, .int .i64 z])) ∧ Below w.heap.size w w' := by
  have H := Lib.hid h
  clear h
  go_enter Try.func40, Try.ntmps40
  go_wp2_with fail
  refine (sopen A n cap zs w H.out hn).mono ?_
  rintro e w1 ⟨g, rfl, r1, b1⟩
  have hgl := r1.lo
  go_wp2_with fail
  refine (sbased w.heap.size g 0 w1 r1 (by decide)).mono ?_
  rintro e w2 ⟨x, hx, rfl, q, hq1, hq2, r2, o2⟩
  have B2 := Lib.hid (Only.drawn b1 (Nat.le_refl _) hgl o2)
  have R2 := Lib.hid r2
  have hz2 : g < w2.heap.size := r2.hi
  have HL := Lib.hid (sPlaneLines x w2)
  have hll := pln_len x
  clear r1 b1 r2 o2 hx
  generalize nl (plnR x) = L0 at HL hll
  cases hv : baseZ x with
  | false =>
    rw [hv] at HL
    clear hv
    go_wp2_with fail
    refine HL.out.mono ?_
    rintro e w3 ⟨A3, n3, c3, rfl, o3, b3⟩
    have B3 := Lib.hid (below_to B2.out b3 (Nat.le_refl _))
    clear o3 b3
    go_wp2
    go_ret3
    exact ⟨⟨x, _, _, rfl⟩, B3.out⟩
  | true =>
    rw [hv] at HL
    clear hv
    go_wp2_with fail
    refine HL.out.mono ?_
    rintro e w3 ⟨A3, n3, c3, rfl, o3, b3⟩
    have hn3 : n3 ≤ 21 := by have := o3.length; omega
    have B3 := Lib.hid (below_to B2.out b3 (Nat.le_refl _))
    have R3 := Lib.hid (R2.out.below b3)
    have HS := Lib.hid o3.sl
    have HAT := Lib.hid o3.at_base
    clear o3 b3 HL
    by_cases h0 : n3 = 0
    · subst h0
      go_wp2
      go_ret3
      exact ⟨⟨x, _, _, rfl⟩, B3.out⟩
    · have e1 : ((n3 : Int) == 0) = false := by simp; omega
      go_wp2_with fail
      refine (pick_any w.heap.size g q n3 w3 R3.out (by omega) (by omega) (by omega)).mono ?_
      rintro e w4 ⟨k4, hk4, rfl, r4, o4⟩
      have S4 := HS.out.read (fun z hz => by have := HAT.out z hz; omega) o4
      obtain ⟨bb, ob, y4, rfl, hbb, hy4, c4⟩ := S4.get hk4
      have hne : bb ≠ g := by have := HAT.out ⟨bb, ob, none⟩ rfl; have : w2.heap.size ≤ bb := this; omega
      have i0 : (0 : Int) ≤ (k4 : Int) := Int.natCast_nonneg _
      have i1 : (k4 : Int) < (n3 : Int) := by omega
      have HC := Lib.hid (Sl.reads_any S4 hne)
      have HI := Lib.hid (show ∀ k : Nat, k < n3 → (k : Int) < (n3 : Int) from fun k hk => by omega)
      have B4 := Lib.hid (Only.drawn B3.out (Nat.le_refl _) hgl o4)
      have HFIN := Lib.hid (fun (w8 : World) (o8 : Only w4.drew w8 (some ⟨g, 0, none⟩)) => Only.drawn B4.out.drew (Nat.le_refl _) hgl o8)
      have R4d := Lib.hid r4.drew
      have hp1 : q + 1 ≤ 1000000 := by omega
      have hp2 : 1 ≤ n3 := by omega
      have hp3 : n3 ≤ 1000000 := by omega
      have hp4 : q + 1 + 1 ≤ 1000000 := by omega
      clear r4 o4 S4 hy4
      go_wp2_with fail
      go_region_with (first | (go_at_call 75; refine (pick_any w.heap.size g (q + 1 + 1) 12 w8 ?_ hp4 (by decide) (by decide)).mono ?_; (exact r8); rintro e w9 ⟨k9, hk9, rfl, r9, o9⟩; obtain ⟨y9, c9⟩ := HC.out w9 k8 (o8.trans o9) hk8; have F9 := HFIN.out w9 (o8.trans o9); clear r9) | (go_at_call 75; refine (pick_any w.heap.size g (q + 1) n3 w4.drew ?_ hp1 hp2 hp3).mono ?_; (exact R4d.out); rintro e w8 ⟨k8, hk8, rfl, r8, o8⟩; have i80 : (0 : Int) ≤ (k8 : Int) := Int.natCast_nonneg _; have i81 := HI.out k8 hk8; obtain ⟨y8, c8⟩ := HC.out w8 k8 o8 hk8))
      all_goals
        have HF := Lib.hid F9
        clear F9
        go_wp2
        go_ret3
        exact ⟨⟨x, _, _, rfl⟩, HF.out⟩
end Go.Proofs.Ytinfpggpfpmpbaa
