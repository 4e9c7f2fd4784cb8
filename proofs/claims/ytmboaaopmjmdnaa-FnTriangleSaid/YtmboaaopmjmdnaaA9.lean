import Derived.Test.YtmboaaopmjmdnaaA6
namespace Go.Proofs.Ytmboaaopmjmdnaa
open Go.RowKit

theorem tm_eq (a b : Nat) (ha : a ≠ 0) (hb : b ≠ 0) : (tm a b : Int) = 1 + ((a : Int) + b - 2) % 3 := by
  unfold tm; rw [if_neg (by omega)]; omega

theorem iTimes (a b : Nat) (w : World) (ha : a < 4) (hb : b < 4) : Calls Try.prog 62 #[.int .i64 a, .int .i64 b] w fun e w' => e = .returned (.int .i64 (tm a b)) ∧ w = w' := by
  by_cases h1 : a = 0
  · subst h1
    go_enter Try.func62, Try.ntmps62
    go_wp2
    go_ret
    exact ⟨by simp [tm], rfl⟩
  · have e1 : ((a : Int) == 0) = false := by simp; omega
    by_cases h2 : b = 0
    · subst h2
      clear h1
      go_enter Try.func62, Try.ntmps62
      go_wp2
      go_ret
      exact ⟨by simp [tm], rfl⟩
    · have e2 : ((b : Int) == 0) = false := by simp; omega
      have HT := Lib.hid (tm_eq a b h1 h2)
      have h3 : 1 ≤ a := by omega
      have h4 : 1 ≤ b := by omega
      clear h1 h2
      go_enter Try.func62, Try.ntmps62
      go_wp2
      go_ret
      exact ⟨ret_eq (int_eq (by rw [HT.out])), rfl⟩

theorem sTimes (a b : Nat) (w : World) (ha : a < 4) (hb : b < 4) : Calls Try.prog 60 #[.int .i64 a, .int .i64 b] w fun e w' => e = .returned (.int .i64 (tm a b)) ∧ w = w' := by
  by_cases h1 : a = 0
  · subst h1
    go_enter Try.func60, Try.ntmps60
    go_wp2
    go_ret
    exact ⟨by simp [tm], rfl⟩
  · have e1 : ((a : Int) == 0) = false := by simp; omega
    by_cases h2 : b = 0
    · subst h2
      clear h1
      go_enter Try.func60, Try.ntmps60
      go_wp2
      go_ret
      exact ⟨by simp [tm], rfl⟩
    · have e2 : ((b : Int) == 0) = false := by simp; omega
      have HT := Lib.hid (tm_eq a b h1 h2)
      have h3 : 1 ≤ a := by omega
      have h4 : 1 ≤ b := by omega
      clear h1 h2
      go_enter Try.func60, Try.ntmps60
      go_wp2
      go_ret
      exact ⟨ret_eq (int_eq (by rw [HT.out])), rfl⟩

theorem sTimesI (a b : Int) (w : World) (h1 : 0 ≤ a) (h2 : a < 4) (h3 : 0 ≤ b) (h4 : b < 4) : Calls Try.prog 60 #[.int .i64 a, .int .i64 b] w fun e w' => e = .returned (.int .i64 (tm a.toNat b.toNat)) ∧ w = w' := by
  obtain ⟨x, rfl⟩ := Int.eq_ofNat_of_zero_le h1
  obtain ⟨y, rfl⟩ := Int.eq_ofNat_of_zero_le h3
  exact sTimes x y w (by omega) (by omega)
end Go.Proofs.Ytmboaaopmjmdnaa
