/- The drawing of a sextet and an octad. -/
import Derived.Test.YtbpgaphcpgfafaaH1
import Derived.Deep.RegionWith
namespace Go.Proofs.Ytbpgaphcpgfafaa
open Go.RowKit

set_option maxHeartbeats 2000000 in
theorem dSextetHolds (A : Option Addr) (n cap : Nat) (zs : List Int) (w : World) (h : IsRow .u8 w A n cap zs) (hn : n ≤ 1048576) :
    Calls Try.prog 14 #[.slice A n cap] w fun e w' => ∃ A1 n1 c1 l x, n1 ≤ 6 ∧ e = .returned (.tuple #[.slice A1 n1 c1, .int .i64 x]) ∧ Sl w' w'.heap.size A1 n1 c1 l ∧ Below w.heap.size w w' := by
  have H := Lib.hid h
  clear h
  go_enter Try.func14, Try.ntmps14
  go_wp2_with fail
  refine (sopen A n cap zs w H.out hn).mono ?_
  rintro e w1 ⟨g, rfl, r1, b1⟩
  have hgl := r1.lo
  have hgi := r1.hi
  go_wp2_with fail
  refine (ssextd w.heap.size g 0 w1 r1 (by decide)).mono ?_
  rintro e w2 ⟨A1, n1, c1, l, h6, rfl, o2, q, hq1, hq2, r2, o⟩
  have B2 := Lib.hid (Only.drawn b1 (Nat.le_refl _) hgl o)
  have R2 := Lib.hid r2
  have O2 := Lib.hid o2
  clear r1 b1 o2 r2 o
  rcases h6 with rfl | rfl
  · go_wp2_with fail
    refine (soct w.heap.size g q w2 R2.out (by omega)).mono ?_
    rintro e w3 ⟨y, hy, rfl, q3, hq3, hq4, r3, oo⟩
    have HB := Lib.hid (Only.drawn B2.out (Nat.le_refl _) hgl oo)
    have S1 := Lib.hid ((O2.out.sl_read hgi oo).sl)
    clear r3 oo hy
    go_wp2
    go_ret2
    exact ⟨A1, 0, c1, _, y, by decide, rfl, S1.out, HB.out⟩
  · go_wp2_with fail
    refine (pick_any w.heap.size g q 2 w2 R2.out (by omega) (by decide) (by decide)).mono ?_
    rintro e w3 ⟨k, hk, rfl, r3, o3⟩
    have O3 := Lib.hid (O2.out.sl_read hgi o3)
    have B3 := Lib.hid (Only.drawn B2.out (Nat.le_refl _) hgl o3)
    have R3 := Lib.hid r3
    clear r3 o3 O2 B2 R2
    by_cases h0 : k = 0
    · subst h0
      obtain ⟨ga, rfl, hga1, hga2⟩ := O3.out.form (by decide)
      have hl6 := O3.out.length
      have R3d := Lib.hid R3.out.drew
      have hfin : ∀ w8, Only w3.drew w8 (some ⟨g, 0, none⟩) → Below w.heap.size w w8 ∧ Sl w8 w8.heap.size (some ⟨ga, 0, none⟩) 6 c1 l := fun w8 o8 =>
        ⟨Only.drawn B3.out.drew (Nat.le_refl _) hgl o8, ((show Own w3.drew w1.heap.size (some ⟨ga, 0, none⟩) 6 c1 l from O3.out.drew).sl_read hgi o8).sl⟩
      have hcell : ∀ (w8 : World) (k : Nat), Only w3.drew w8 (some ⟨g, 0, none⟩) → k < 6 → w8.cell? ⟨ga, k, none⟩ = some (.int .i64 (l.getD k 0)) := fun w8 k o8 hk => by
        have h8 := (show Own w3.drew w1.heap.size (some ⟨ga, 0, none⟩) 6 c1 l from O3.out.drew).sl_read hgi o8
        exact h8.cell (by rw [List.getD_eq_getElem?_getD, List.getElem?_eq_getElem (by omega)]; rfl)
      have HFin := Lib.hid hfin
      have HCell := Lib.hid hcell
      have hp1 : q + 1 ≤ 1000000 := by omega
      have hp2 : q + 2 ≤ 1000000 := by omega
      clear hfin hcell
      generalize l.getD = f at HCell
      go_wp2_with fail
      go_region_with (first | (go_at_call 45; refine (pick_any w.heap.size g (q + 1) 3 w3.drew ?_ hp1 (by decide) (by decide)).mono ?_; (exact R3d.out); rintro e w8 ⟨k8, hk8, rfl, r8, o8⟩; have c8 := HCell.out w8 k8 o8 (Nat.lt_trans hk8 (by decide)); have i80 : (0 : Int) ≤ (k8 : Int) := Int.natCast_nonneg _; have i81 : (k8 : Int) < 6 := (by omega)) | (go_at_call 45; refine (pick_any w.heap.size g (q + 2) 3 w8 ?_ hp2 (by decide) (by decide)).mono ?_; (exact r8); rintro e w9 ⟨k9, hk9, rfl, r9, o9⟩; have c9 := HCell.out w9 k8 (o8.trans o9) (Nat.lt_trans hk8 (by decide)); have d9 := HCell.out w9 (3 + k9) (o8.trans o9) (by omega); have i90 : (0 : Int) ≤ 3 + (k9 : Int) := (by omega); have i91 : 3 + (k9 : Int) < 6 := (by omega); have i93 : IntKind.i64.wrap (3 + (k9 : Int)) = 3 + (k9 : Int) := (by rw [IntKind.wrap_i64]; omega); have i94 : 3 + k9 < 6 := (by omega); have i92 : (3 + (k9 : Int)).toNat = 3 + k9 := (by omega); have F9 := HFin.out w9 (o8.trans o9); clear r9))
      all_goals
        have HF9 := Lib.hid F9
        clear F9
        go_wp2
        go_ret2
        exact ⟨_, 6, c1, l, _, by decide, rfl, HF9.out.2, HF9.out.1⟩
    · have e0 : ((k : Int) == 0) = false := by simp; omega
      go_wp2_with fail
      refine (soct w.heap.size g (q + 1) w3 R3.out (by omega)).mono ?_
      rintro e w4 ⟨y, hy, rfl, q3, hq3, hq4, r4, oo⟩
      have HB := Lib.hid (Only.drawn B3.out (Nat.le_refl _) hgl oo)
      have S1 := Lib.hid ((O3.out.sl_read hgi oo).sl)
      clear r4 oo hy
      go_wp2
      go_ret2
      exact ⟨A1, 6, c1, _, y, by decide, rfl, S1.out, HB.out⟩
end Go.Proofs.Ytbpgaphcpgfafaa
