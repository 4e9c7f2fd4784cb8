import Derived.Test.YthggjkpnjogcaaaA4
namespace Go.Proofs.Ythggjkpnjogcaaa
open Go.RowKit

set_option maxHeartbeats 400000 in
theorem markIntS_any (base : Nat) (A : Option Addr) (n cap : Nat) (l : List Int) (s : Int) (w : World) (h : Own w base A n cap l) (hn : n ≤ 1048576) (h0 : 0 ≤ s) (h1 : s ≤ 4194304) :
    Calls Try.prog 44 #[.slice A n cap, .int .i64 s] w fun e w' => e = .returned (.int .i64 (s + n)) ∧ Own w' base A n cap (upFrom s n) ∧ Only w w' A := by
  have HS := Lib.hid h
  clear h
  go_enter Try.func44, Try.ntmps44
  go_wp2
  go_loopw [1, 5] (fun s' i wr => ∃ k : Nat, k ≤ n ∧ i = .int .i64 k ∧ s' = .int .i64 (s + k) ∧ Own wr base A n cap (upFrom s k ++ l.drop k) ∧ Only w wr A) (fun _ i _ => n - (intOf i).toNat)
  case atStart => exact ⟨0, Nat.zero_le _, rfl, by simp, by simpa [upFrom] using HS.out, Only.refl _ _⟩
  case round =>
    obtain ⟨k, hk, rfl, rfl, hown, honly⟩ := hrel
    by_cases hlt : k < n
    · obtain ⟨g, rfl, _, _⟩ := HS.out.form (by omega)
      have hl := HS.out.length
      obtain ⟨y, hy⟩ : ∃ y, l[k]? = some y := ⟨_, List.getElem?_eq_getElem (by omega)⟩
      have hc := hown.cell (j := k) (x := y) (by rw [List.getElem?_append_right (by rw [upFrom_length]; exact Nat.le_refl _), upFrom_length]; simpa using hy)
      clear hy
      have hf := hown.free k
      have HL := Lib.hid hl
      clear hl
      go_wp2
      go_roundw
      case rel =>
        refine ⟨k + 1, by omega, by go_num, int_eq (by omega), ?_, honly.setCell k _⟩
        have := hown.set k (s + k)
        rwa [show (upFrom s k ++ List.drop k l).set k (s + k) = upFrom s (k + 1) ++ List.drop (k + 1) l from by
          rw [List.set_append_right _ _ (by rw [upFrom_length]; exact Nat.le_refl _), upFrom_length, Nat.sub_self, List.drop_eq_getElem_cons (by have := HL.out; omega), List.set_cons_zero]
          simp [upFrom]] at this
      case measure => simp [intOf]; omega
    · obtain rfl : k = n := by omega
      have hl := HS.out.length
      have HL := Lib.hid hl
      clear hl
      go_wp2
      go_ret
      exact ⟨rfl, by have h3 := HL.out; rwa [List.drop_eq_nil_of_le (by omega), List.append_nil] at hown, honly⟩

set_option maxHeartbeats 400000 in
theorem heldIntS_any (B : Nat) (A : Option Addr) (n cap : Nat) (s : Int) (w : World) (h : Sl w B A n cap (upFrom s n)) (hn : n ≤ 1048576) (h0 : 0 ≤ s) (h1 : s ≤ 4194304) :
    Calls Try.prog 45 #[.slice A n cap, .int .i64 s] w fun e w' => e = .returned (.int .i64 (s + n)) ∧ w = w' := by
  have HS := Lib.hid h
  clear h
  go_enter Try.func45, Try.ntmps45
  go_wp2
  go_loop [1, 5] (fun s' i => ∃ k : Nat, k ≤ n ∧ i = .int .i64 k ∧ s' = .int .i64 (s + k)) (fun _ i => n - (intOf i).toNat)
  case atStart => exact ⟨0, Nat.zero_le _, rfl, by simp⟩
  case round =>
    obtain ⟨k, hk, rfl, rfl⟩ := hrel
    by_cases hlt : k < n
    · obtain ⟨b, o, x, rfl, hb, hx, hc⟩ := HS.out.get hlt
      rw [upFrom_get s n k hlt] at hx
      injection hx with hx
      rw [← hx] at hc
      clear hx
      go_wp2
      go_round
      case rel => exact ⟨k + 1, by omega, by go_num, int_eq (by omega)⟩
      case measure => simp [intOf]; omega
    · obtain rfl : k = n := by omega
      go_wp2
      go_ret
      exact ⟨rfl, rfl⟩
end Go.Proofs.Ythggjkpnjogcaaa
