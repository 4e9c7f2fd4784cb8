import Derived.Test.YthggjkpnjogcaaaE2
import Derived.Test.YthggjkpnjogcaaaA3
import Derived.Test.YthggjkpnjogcaaaM12
namespace Go.Proofs.Ythggjkpnjogcaaa
open Go.RowKit

set_option maxHeartbeats 400000 in
theorem iOctadThrough (B : Nat) (A : Option Addr) (n cap : Nat) (l : List Int) (w : World) (h : Sl w B A n cap l) (hn : n ≤ 1048576) :
    Calls Try.prog 30 #[.slice A n cap] w fun e w' => e = .returned (.tuple #[.int .i64 (throughR l : Nat), .bool (throughOk l)]) ∧ Below w.heap.size w w' := by
  have HW := Lib.hid (iWordOf B A n cap l w h hn)
  have hl := h.len
  clear h
  cases hw : wordOf l with
  | none =>
    rw [hw] at HW
    have HR := Lib.hid (through_no (l := l) (.inl (by rw [hw]; rfl)))
    clear hw hl
    go_enter Try.func30, Try.ntmps30
    go_wp2_with fail
    refine HW.out.mono ?_
    rintro e w' ⟨rfl, rfl⟩
    go_wp2
    go_ret2
    rw [HR.out.1, HR.out.2]
    exact ⟨rfl, Below.refl _ _⟩
  | some a =>
    rw [hw] at HW
    by_cases h5 : n = 5
    · subst h5
      obtain ⟨hok, hal, hoct⟩ := through_yes hw hl
      have HR := Lib.hid hok
      have HO := Lib.hid (ioctadsWith a w hal)
      rw [hoct] at HO
      clear hw hl hok hoct
      generalize throughR l = r at HO ⊢
      go_enter Try.func30, Try.ntmps30
      go_wp2_with fail
      refine HW.out.mono ?_
      rintro e w' ⟨rfl, rfl⟩
      go_wp2_with fail
      refine HO.out.mono ?_
      rintro e w1 ⟨A1, n1, c1, rfl, o1, b1⟩
      obtain rfl : n1 = 1 := o1.length.symm
      obtain ⟨b', o, x, rfl, hb', hx, hc⟩ := o1.sl.nat (k := 0) (by decide)
      obtain rfl : r = x := by simpa using hx
      have hc0 : w1.cell? ⟨b', o, none⟩ = some (.int .i64 r) := hc
      clear hx hc o1
      go_wp2
      go_ret2
      rw [HR.out]
      exact ⟨rfl, b1⟩
    · have HR := Lib.hid (through_no (l := l) (.inr (by omega)))
      have e1 : ((n : Int) != 5) = true := by simp; omega
      clear hw hl
      go_enter Try.func30, Try.ntmps30
      go_wp2_with fail
      refine HW.out.mono ?_
      rintro e w' ⟨rfl, rfl⟩
      go_wp2
      go_ret2
      rw [HR.out.1, HR.out.2]
      exact ⟨rfl, Below.refl _ _⟩

/-- What 'OctadList' answers. -/
def olistOk (l : List Int) : Bool := (wordOf l).isSome && decide (3 ≤ l.length ∧ l.length ≤ 8)
def olistR (l : List Int) : List Nat := if olistOk l then octs (hasf ((wordOf l).getD 0) 0) else []
theorem olist_no {l : List Int} (h : (wordOf l).isSome = false ∨ ¬ (3 ≤ l.length ∧ l.length ≤ 8)) : olistOk l = false ∧ olistR l = [] := by
  have h1 : olistOk l = false := by unfold olistOk; rcases h with h | h <;> simp [h]
  exact ⟨h1, by unfold olistR; rw [h1]; rfl⟩
theorem olist_yes {l : List Int} {a : Nat} (h : wordOf l = some a) (h5 : 3 ≤ l.length ∧ l.length ≤ 8) : olistOk l = true ∧ olistR l = octs (hasf a 0) ∧ a < 16777216 := by
  have h1 : olistOk l = true := by unfold olistOk; rw [h]; simp [h5]
  exact ⟨h1, by unfold olistR; rw [h1, h]; rfl, (wordOf_facts l a h).1⟩
theorem olist_len (l : List Int) : (nl (olistR l)).length ≤ 759 := by
  rw [nl_length]
  unfold olistR
  split
  · exact octs_len _
  · simp

set_option maxHeartbeats 400000 in
theorem iOctadList (B : Nat) (A : Option Addr) (n cap : Nat) (l : List Int) (w : World) (h : Sl w B A n cap l) (hn : n ≤ 1048576) :
    Calls Try.prog 34 #[.slice A n cap] w (MakesB (nl (olistR l)) (olistOk l) w) := by
  have HW := Lib.hid (iWordOf B A n cap l w h hn)
  have hl := h.len
  clear h
  cases hw : wordOf l with
  | none =>
    rw [hw] at HW
    have HR := Lib.hid (olist_no (l := l) (.inl (by rw [hw]; rfl)))
    clear hw hl
    go_enter Try.func34, Try.ntmps34
    go_wp2_with fail
    refine HW.out.mono ?_
    rintro e w' ⟨rfl, rfl⟩
    go_wp2
    go_ret2
    rw [HR.out.1, HR.out.2]
    exact ⟨_, _, _, rfl, Own.lit w [] (by decide), (Below.refl _ _).alloc (Nat.le_refl _) _⟩
  | some a =>
    rw [hw] at HW
    by_cases h5 : 3 ≤ n ∧ n ≤ 8
    · obtain ⟨hok, hr, hal⟩ := olist_yes hw (by omega)
      have HR := Lib.hid (And.intro hok hr)
      have HO := Lib.hid (ioctadsWith a w hal)
      have HI := Lib.hid (within_yes (n : Int) 3 8 w (by omega) (by omega))
      clear hw hl hok hr h5
      go_enter Try.func34, Try.ntmps34
      go_wp2_with fail
      refine HW.out.mono ?_
      rintro e w' ⟨rfl, rfl⟩
      go_wp2_with fail
      refine HI.out.mono ?_
      rintro e w' ⟨rfl, rfl⟩
      go_wp2_with fail
      refine HO.out.mono ?_
      rintro e w1 ⟨A1, n1, c1, rfl, o1, b1⟩
      go_wp2
      go_ret2
      rw [HR.out.1, HR.out.2]
      exact ⟨_, _, _, rfl, o1, b1⟩
    · have HR := Lib.hid (olist_no (l := l) (.inr (by omega)))
      have HI := Lib.hid (within_no (n : Int) 3 8 w (by omega))
      clear hw hl h5
      go_enter Try.func34, Try.ntmps34
      go_wp2_with fail
      refine HW.out.mono ?_
      rintro e w' ⟨rfl, rfl⟩
      go_wp2_with fail
      refine HI.out.mono ?_
      rintro e w' ⟨rfl, rfl⟩
      go_wp2
      go_ret2
      rw [HR.out.1, HR.out.2]
      exact ⟨_, _, _, rfl, Own.lit w [] (by decide), (Below.refl _ _).alloc (Nat.le_refl _) _⟩

set_option maxHeartbeats 400000 in
theorem sOctadList (B : Nat) (A : Option Addr) (n cap : Nat) (l : List Int) (w : World) (h : Sl w B A n cap l) (hn : n ≤ 1048576) :
    Calls Try.prog 35 #[.slice A n cap] w (MakesB (nl (olistR l)) (olistOk l) w) := by
  have HW := Lib.hid (sWordOf B A n cap l w h hn)
  have hl := h.len
  clear h
  cases hw : wordOf l with
  | none =>
    rw [hw] at HW
    have HR := Lib.hid (olist_no (l := l) (.inl (by rw [hw]; rfl)))
    clear hw hl
    go_enter Try.func35, Try.ntmps35
    go_wp2_with fail
    refine HW.out.mono ?_
    rintro e w' ⟨rfl, rfl⟩
    go_wp2
    go_ret2
    rw [HR.out.1, HR.out.2]
    exact ⟨_, _, _, rfl, Own.lit w [] (by decide), (Below.refl _ _).alloc (Nat.le_refl _) _⟩
  | some a =>
    rw [hw] at HW
    by_cases h5 : 3 ≤ n ∧ n ≤ 8
    · obtain ⟨hok, hr, hal⟩ := olist_yes hw (by omega)
      have HR := Lib.hid (And.intro hok hr)
      have HO := Lib.hid (sl4With a w hal)
      have HI := Lib.hid (l6In_yes (n : Int) 3 8 w (by omega) (by omega))
      clear hw hl hok hr h5
      go_enter Try.func35, Try.ntmps35
      go_wp2_with fail
      refine HW.out.mono ?_
      rintro e w' ⟨rfl, rfl⟩
      go_wp2_with fail
      refine HI.out.mono ?_
      rintro e w' ⟨rfl, rfl⟩
      go_wp2_with fail
      refine HO.out.mono ?_
      rintro e w1 ⟨A1, n1, c1, rfl, o1, b1⟩
      go_wp2
      go_ret2
      rw [HR.out.1, HR.out.2]
      exact ⟨_, _, _, rfl, o1, b1⟩
    · have HR := Lib.hid (olist_no (l := l) (.inr (by omega)))
      have HI := Lib.hid (l6In_no (n : Int) 3 8 w (by omega))
      clear hw hl h5
      go_enter Try.func35, Try.ntmps35
      go_wp2_with fail
      refine HW.out.mono ?_
      rintro e w' ⟨rfl, rfl⟩
      go_wp2_with fail
      refine HI.out.mono ?_
      rintro e w' ⟨rfl, rfl⟩
      go_wp2
      go_ret2
      rw [HR.out.1, HR.out.2]
      exact ⟨_, _, _, rfl, Own.lit w [] (by decide), (Below.refl _ _).alloc (Nat.le_refl _) _⟩
end Go.Proofs.Ythggjkpnjogcaaa
