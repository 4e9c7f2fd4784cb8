import Derived.Test.YtbpgaphcpgfafaaF2
namespace Go.Proofs.Ytbpgaphcpgfafaa
open Go.RowKit

/-- Whether a list is a sextet. -/
def sxvZ (l : List Int) : Bool := decide (l.length = 6) && (tetZ (l.getD 0 0) && decide (l = nl (sext (l.getD 0 0).toNat)))
theorem sxv_no1 {l : List Int} (h : l.length ≠ 6) : sxvZ l = false := by unfold sxvZ; simp [h]
theorem sxv_no2 {l : List Int} (h : tetZ (l.getD 0 0) = false) : sxvZ l = false := by unfold sxvZ; rw [h]; simp
theorem sxv_eq {l : List Int} {t : Nat} (h6 : l.length = 6) (h0 : l.getD 0 0 = (t : Int)) (ht : t < 16777216) (h4 : wt t = 4) : sxvZ l = decide (l = nl (sext t)) := by
  unfold sxvZ
  rw [h0, tetZ_yes ht h4, Int.toNat_natCast]
  simp [h6]
theorem Sl.head {w : World} {B : Nat} {A : Option Addr} {n cap : Nat} {l : List Int} (h : Sl w B A n cap l) (hn : 0 < n) :
    ∃ b o, A = some ⟨b, o, none⟩ ∧ b < B ∧ w.cell? ⟨b, o, none⟩ = some (.int .i64 (l.getD 0 0)) := by
  obtain ⟨b, o, e, hb, hc⟩ := h.at_ hn
  exact ⟨b, o, e, hb, hc 0 hn⟩

theorem iSextetValid (B : Nat) (A : Option Addr) (n cap : Nat) (l : List Int) (w : World) (h : Sl w B A n cap l) (hB : B ≤ w.heap.size) :
    Calls Try.prog 29 #[.slice A n cap] w fun e w' => e = .returned (.bool (sxvZ l)) ∧ Below w.heap.size w w' := by
  have hl := h.len
  by_cases h6 : n = 6
  · subst h6
    obtain ⟨b, o, rfl, hb, hc⟩ := h.head (by decide)
    obtain ⟨x, hx⟩ : ∃ x, l.getD 0 0 = x := ⟨_, rfl⟩
    rw [hx] at hc
    cases hz : tetZ x with
    | false =>
      have HT := Lib.hid (itet_is x false hz)
      have HR := Lib.hid (sxv_no2 (l := l) (by rw [hx]; exact hz))
      clear hz hx hl
      go_enter Try.func29, Try.ntmps29
      go_wp2_with fail
      refine (HT.out _).mono ?_
      rintro e w' ⟨rfl, rfl⟩
      go_wp2
      go_ret
      rw [HR.out]
      exact ⟨rfl, Below.refl _ _⟩
    | true =>
      have HT := Lib.hid (itet_is x true hz)
      obtain ⟨t, rfl, ht, h4⟩ := tetZ_nat hz
      have HR := Lib.hid (sxv_eq hl hx ht h4)
      have HX := Lib.hid (isextet t w ht h4)
      have HL := Lib.hid (sext_len ht h4)
      have HS := Lib.hid (h.more hB)
      clear hz hx hl h h4
      go_enter Try.func29, Try.ntmps29
      go_wp2_with fail
      refine (HT.out _).mono ?_
      rintro e w' ⟨rfl, rfl⟩
      go_wp2_with fail
      refine HX.out.mono ?_
      rintro e w1 ⟨A1, n1, c1, rfl, o1, b1⟩
      go_wp2_with fail
      refine (equalInts w1.heap.size _ A1 6 n1 cap c1 _ _ w1 ((HS.out.below b1).more b1.size) o1.sl (by decide)).mono ?_
      rintro e w2 ⟨rfl, b2⟩
      have HB := Lib.hid (below_to b1 b2 (Nat.le_refl _))
      clear b1 b2 o1
      go_wp2
      go_ret
      rw [HR.out]
      exact ⟨rfl, HB.out⟩
  · have HR := Lib.hid (sxv_no1 (l := l) (by omega))
    have e1 : ((n : Int) == 6) = false := by simp; omega
    clear hl
    go_enter Try.func29, Try.ntmps29
    go_wp2
    go_ret
    rw [HR.out]
    exact ⟨rfl, Below.refl _ _⟩

set_option maxHeartbeats 1000000 in
theorem sSextetValid (B : Nat) (A : Option Addr) (n cap : Nat) (l : List Int) (w : World) (h : Sl w B A n cap l) (hB : B ≤ w.heap.size) :
    Calls Try.prog 30 #[.slice A n cap] w fun e w' => e = .returned (.bool (sxvZ l)) ∧ Below w.heap.size w w' := by
  have hl := h.len
  by_cases h6 : n = 6
  · subst h6
    obtain ⟨b, o, rfl, hb, hc⟩ := h.head (by decide)
    obtain ⟨x, hx⟩ : ∃ x, l.getD 0 0 = x := ⟨_, rfl⟩
    rw [hx] at hc
    have HX := Lib.hid (sSextetOf x w)
    cases hz : tetZ x with
    | false =>
      rw [hz] at HX
      have HR := Lib.hid (sxv_no2 (l := l) (by rw [hx]; exact hz))
      clear hz hx hl
      go_enter Try.func30, Try.ntmps30
      go_wp2_with fail
      refine HX.out.mono ?_
      rintro e w1 ⟨A1, n1, c1, rfl, o1, b1⟩
      go_wp2
      go_ret
      rw [HR.out]
      exact ⟨rfl, b1⟩
    | true =>
      rw [hz] at HX
      obtain ⟨t, rfl, ht, h4⟩ := tetZ_nat hz
      rw [(sx_yes ht h4).2] at HX
      have HR := Lib.hid (sxv_eq hl hx ht h4)
      have HL := Lib.hid (sext_len ht h4)
      have HS := Lib.hid (h.more hB)
      clear hz hx hl h h4
      generalize sext t = M at HX HR HL
      go_enter Try.func30, Try.ntmps30
      go_wp2_with fail
      refine HX.out.mono ?_
      rintro e w1 ⟨A1, n1, c1, rfl, o1, b1⟩
      obtain rfl : n1 = 6 := by have := o1.length; rw [nl_length, HL.out] at this; omega
      have HS1 := Lib.hid ((HS.out.below b1).more b1.size)
      have HS2 := Lib.hid o1.sl
      have HB1 := Lib.hid b1
      clear o1 b1
      go_wp2
      go_loopw [5] (fun i wr => ∃ k m : Nat, k ≤ 6 ∧ i = .int .i64 k ∧ wr = w1.drewN m ∧ ∀ j, j < k → l[j]? = (nl M)[j]?) (fun i _ => 6 - (intOf i).toNat)
      case atStart => exact ⟨0, 0, Nat.zero_le _, rfl, rfl, by omega⟩
      case round =>
        obtain ⟨k, m, hk, rfl, rfl, hj⟩ := hrel
        have HJ := Lib.hid hj
        clear hj
        by_cases hlt : k < 6
        · obtain ⟨b2, o2, y, ha2, hb2, hy, hc2⟩ := HS1.out.get hlt
          injection ha2 with ha2
          injection ha2 with ha3 ha4
          subst ha3
          subst ha4
          obtain ⟨b', o', z, rfl, hb', hz, hc'⟩ := HS2.out.get hlt
          have HX := Lib.hid hy
          have HY := Lib.hid hz
          clear hy hz
          have hi0 : (0 : Int) ≤ (k : Int) := by omega
          have hi1 : (k : Int) < 6 := by omega
          by_cases hxy : y = z
          · subst hxy
            go_wp2_with fail
            go_quiet (fail)
            go_wp2
            go_roundw
            case rel =>
              refine ⟨k + 1, m + nq, by omega, by go_num, by simp, fun j hj => ?_⟩
              by_cases hjk : j = k
              · subst hjk; rw [HX.out, HY.out]
              · exact HJ.out j (by omega)
            case measure => simp [intOf]; omega
          · have hf : decide (l = nl M) = false := by
              rw [decide_eq_false_iff_not]
              intro e
              have h1 := HX.out
              rw [e, HY.out] at h1
              injection h1 with h1
              exact hxy h1.symm
            have e1 : (y == z) = false := by simpa using hxy
            have e2 : (y != z) = true := by simpa using hxy
            have HF := Lib.hid hf
            clear hf hxy
            go_wp2_with fail
            go_quiet (fail)
            go_wp2
            go_ret
            rw [HR.out, HF.out]
            exact ⟨rfl, below_drewN (below_drewN HB1.out _) _⟩
        · obtain rfl : k = 6 := by omega
          have hf : decide (l = nl M) = true := by
            have h1 := HS1.out.len
            have h2 := HS2.out.len
            have h3 := HJ.out
            rw [decide_eq_true_eq]
            apply List.ext_getElem?
            intro j
            by_cases hj : j < 6
            · exact h3 j hj
            · rw [List.getElem?_eq_none (by omega), List.getElem?_eq_none (by omega)]
          have HF := Lib.hid hf
          clear hf
          go_wp2
          go_ret
          rw [HR.out, HF.out]
          exact ⟨rfl, below_drewN HB1.out _⟩
  · have HR := Lib.hid (sxv_no1 (l := l) (by omega))
    have e1 : ((n : Int) != 6) = true := by simp; omega
    clear hl
    go_enter Try.func30, Try.ntmps30
    go_wp2
    go_ret
    rw [HR.out]
    exact ⟨rfl, Below.refl _ _⟩
end Go.Proofs.Ytbpgaphcpgfafaa
