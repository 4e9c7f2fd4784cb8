/- The reader that the drawn laws take their inputs from. -/
import Derived.Test.YtmboaaopmjmdnaaB2
namespace Go.Proofs.Ytmboaaopmjmdnaa
open Go.RowKit

/-- The reader at block g: it has come to place p; its bytes lie below 'base'. -/
structure Rd (base : Nat) (w : World) (g p : Nat) : Prop where
  lo : base ≤ g
  hi : g < w.heap.size
  pos : w.cell? ⟨g, 1, none⟩ = some (.int .i64 (p : Nat))
  thaw : w.frozen? ⟨g, 1, none⟩ = false
  code : ∃ A n c, w.cell? ⟨g, 0, none⟩ = some (.slice A n c) ∧ n ≤ 2000 ∧ (0 < n → ∃ x, A = some x ∧ x.block < base ∧ ∀ j, j < n → ∃ v : Nat, v < 256 ∧ w.cell? (x.add j) = some (.int .u8 (v : Nat)))

/-- What leaves the reader's block and all below 'base' alone leaves the reader. -/
theorem Rd.keep {base : Nat} {w w' : World} {g p : Nat} (h : Rd base w g p) (hs : w.heap.size ≤ w'.heap.size) (hk : ∀ i, i < base ∨ i = g → w'.heap[i]? = w.heap[i]?) : Rd base w' g p := by
  have hc : ∀ o, w'.cell? ⟨g, o, none⟩ = w.cell? ⟨g, o, none⟩ := fun o => World.cell?_of_block (w := w) (hk g (.inr rfl))
  refine ⟨h.lo, Nat.lt_of_lt_of_le h.hi hs, (hc 1).trans h.pos, (World.frozen?_of_block (w := w) (hk g (.inr rfl))).trans h.thaw, ?_⟩
  obtain ⟨A, n, c, h0, hn, hb⟩ := h.code
  refine ⟨A, n, c, (hc 0).trans h0, hn, fun hp => ?_⟩
  obtain ⟨x, hx, hlt, hv⟩ := hb hp
  refine ⟨x, hx, hlt, fun j hj => ?_⟩
  obtain ⟨v, hv1, hv2⟩ := hv j hj
  exact ⟨v, hv1, (World.cell?_of_block (w := w) (hk _ (.inl (by rw [block_add]; exact hlt)))).trans hv2⟩
theorem Rd.below {base : Nat} {w w' : World} {g p : Nat} (h : Rd base w g p) (hb : Below w.heap.size w w') : Rd base w' g p :=
  h.keep hb.size fun i hi => hb.block i (by rcases hi with hi | rfl; have := h.lo; have := h.hi; omega; exact h.hi)
theorem Rd.only {base : Nat} {w w' : World} {g p : Nat} {A : Option Addr} (h : Rd base w g p) (ho : Only w w' A) (hA : ∀ x, A = some x → base ≤ x.block ∧ x.block ≠ g) : Rd base w' g p :=
  h.keep ho.size fun i hi => ho.block i (by rcases hi with hi | rfl; have := h.lo; have := h.hi; omega; exact h.hi) (fun e => by
    cases A with
    | none => cases e
    | some x =>
      have := hA x rfl
      simp at e
      rcases hi with hi | rfl <;> omega)
theorem Rd.drewN {base : Nat} {w : World} {g p : Nat} (h : Rd base w g p) (k : Nat) : Rd base (w.drewN k) g p := ⟨h.lo, h.hi, h.pos, h.thaw, h.code⟩
theorem Below.toOnly {w w' : World} (h : Below w.heap.size w w') (A : Option Addr) : Only w w' A := ⟨h.os, h.tape, h.output, h.size, fun i hi _ => h.block i hi⟩
theorem Only.drewN {w w' : World} {A : Option Addr} (h : Only w w' A) (k : Nat) : Only w (w'.drewN k) A := ⟨h.os, h.tape, h.output, h.size, h.block⟩

theorem Rd.step {base : Nat} {w : World} {g p : Nat} (h : Rd base w g p) {u : Value} (hu : u = .int .i64 (p + 1 : Nat)) : Rd base (w.setCell ⟨g, 1, none⟩ u) g (p + 1) := by
  subst hu
  have hs : (w.setCell ⟨g, 1, none⟩ (.int .i64 (p + 1 : Nat))).heap.size = w.heap.size := by simp [World.setCell]
  refine ⟨h.lo, by rw [hs]; exact h.hi, World.cell?_setCell_same w _ _ h.pos, (World.frozen?_setCell _ _ _ _).trans h.thaw, ?_⟩
  obtain ⟨A, n, c, h0, hn, hb⟩ := h.code
  refine ⟨A, n, c, (World.cell?_setCell_other _ _ _ _ (by simp)).trans h0, hn, fun hp => ?_⟩
  obtain ⟨x, hx, hlt, hv⟩ := hb hp
  refine ⟨x, hx, hlt, fun j hj => ?_⟩
  obtain ⟨v, hv1, hv2⟩ := hv j hj
  refine ⟨v, hv1, (World.cell?_setCell_other _ _ _ _ (fun e => ?_)).trans hv2⟩
  have h2 := block_add x j
  have h3 := h.lo
  have h4 := congrArg Addr.block e
  simp only [h2] at h4
  omega

def pickX (v u p q : Nat) : Nat := v * 131 + u * 1117 + p * 29 + q * 53
theorem pick_end (v u p q n : Nat) (hv : v < 256) (hu : u < 256) (hp : p ≤ 1000000) (hq : q ≤ p) :
    (bits .xor .i64 (wrap64 ((v : Int) * 131 + (u : Int) * 1117 + (p : Int) * 29 + wrap64 (wrap64 (q : Int) * 53))) (wrap64 ((wrap64 ((v : Int) * 131 + (u : Int) * 1117 + (p : Int) * 29 + wrap64 (wrap64 (q : Int) * 53))).tdiv 64))).tmod (n : Int) = (((pickX v u p q ^^^ pickX v u p q / 64) % n : Nat) : Int) := by
  have e1 : wrap64 (wrap64 (q : Int) * 53) = ((q * 53 : Nat) : Int) := by
    rw [wrap_small q (by omega), show (q : Int) * 53 = ((q * 53 : Nat) : Int) from by omega, wrap_small _ (by omega)]
  have hx : pickX v u p q < 200000000 := by unfold pickX; omega
  have e2 : wrap64 ((v : Int) * 131 + (u : Int) * 1117 + (p : Int) * 29 + wrap64 (wrap64 (q : Int) * 53)) = (pickX v u p q : Int) := by
    rw [e1, show (v : Int) * 131 + (u : Int) * 1117 + (p : Int) * 29 + ((q * 53 : Nat) : Int) = (pickX v u p q : Int) from by unfold pickX; omega, wrap_small _ (by omega)]
  rw [e2]
  generalize pickX v u p q = X at hx
  rw [show ((X : Int)).tdiv 64 = ((X / 64 : Nat) : Int) from rfl, wrap_small _ (by omega), i64_xor X (X / 64) (by omega) (by omega)]
  rfl

set_option maxRecDepth 100000 in
set_option maxHeartbeats 1000000 in
theorem pick_any (base g p n : Nat) (w : World) (h : Rd base w g p) (hp : p ≤ 1000000) (hn1 : 1 ≤ n) (hn : n ≤ 1000000) :
    Calls Try.prog 18 #[.pointer (some ⟨g, 0, none⟩), .int .i64 n] w fun e w' => ∃ k : Nat, k < n ∧ e = .returned (.int .i64 k) ∧ Rd base w' g (p + 1) ∧ Only w w' (some ⟨g, 0, none⟩) := by
  have h2 : Rd base (w.setCell ⟨g, 1, none⟩ (.int .i64 ((p : Int) + 1))) g (p + 1) := h.step (int_eq (by simp))
  have o2 : Only w (w.setCell ⟨g, 1, none⟩ (.int .i64 ((p : Int) + 1))) (some ⟨g, 0, none⟩) := (Only.refl w _).setCell 1 _
  obtain ⟨A, nb, cb, hc0, hnb, hcode⟩ := h.code
  have hpos := h.pos
  have hthaw := h.thaw
  have hlo := h.lo
  have H2 := Lib.hid h2
  have O2 := Lib.hid o2
  clear h h2 o2
  have e1 : decide ((n : Int) < 1) = false := by simp; omega
  by_cases h0 : nb = 0
  · clear hcode
    go_enter Try.func18, Try.ntmps18
    go_wp2
    go_ret
    exact ⟨0, by omega, rfl, H2.out, O2.out⟩
  · obtain ⟨x, rfl, hxb, hv⟩ := hcode (by omega)
    have hcell : ∀ j, j < nb → ∃ v : Nat, v < 256 ∧ (w.setCell ⟨g, 1, none⟩ (.int .i64 ((p : Int) + 1))).cell? (x.add j) = some (.int .u8 (v : Nat)) := by
      intro j hj
      obtain ⟨v, hv1, hv2⟩ := hv j hj
      refine ⟨v, hv1, (World.cell?_setCell_other _ _ _ _ (fun e => ?_)).trans hv2⟩
      have h2 := block_add x j
      have h4 := congrArg Addr.block e
      simp only [h2] at h4
      omega
    have e2 : ((nb : Int) == 0) = false := by simp; omega
    by_cases hlt : p < nb
    · obtain ⟨v, hv1, hv2⟩ := hcell p hlt
      have e3 : decide ((p : Int) < (nb : Int)) = true := by simp; omega
      clear hv hcell h0
      go_enter Try.func18, Try.ntmps18
      go_wp2
      go_ret
      exact ⟨v % n, Nat.mod_lt _ (by omega), ret_eq (int_eq (by simp)), H2.out, O2.out⟩
    · obtain ⟨v, hv1, hv2⟩ := hcell (p % nb) (Nat.mod_lt _ (by omega))
      obtain ⟨u, hu1, hu2⟩ := hcell ((p * 7 + 3) % nb) (Nat.mod_lt _ (by omega))
      have e3 : decide ((p : Int) < (nb : Int)) = false := by simp; omega
      clear hv hcell hcode
      go_enter Try.func18, Try.ntmps18
      have hcs : (w.setCell ⟨g, 1, none⟩ (.int .i64 ((p : Int) + 1))).cell? ⟨g, 0, none⟩ = some (.slice (some x) nb cb) := (World.cell?_setCell_other _ _ _ _ (by simp)).trans hc0
      go_wp2_with fail
      generalize w.setCell ⟨g, 1, none⟩ (.int .i64 ((p : Int) + 1)) = w1 at H2 O2 hv2 hu2 hcs ⊢
      have i0 : (0 : Int) ≤ (p : Int) % (nb : Int) := Int.emod_nonneg _ (by omega)
      have i1 : (p : Int) % (nb : Int) < (nb : Int) := Int.emod_lt_of_pos _ (by omega)
      have j0 : (0 : Int) ≤ ((p : Int) * 7 + 3) % (nb : Int) := Int.emod_nonneg _ (by omega)
      have j1 : ((p : Int) * 7 + 3) % (nb : Int) < (nb : Int) := Int.emod_lt_of_pos _ (by omega)
      have hnz : (nb : Int) ≠ 0 := by omega
      have hnp : (0 : Int) < (nb : Int) := by omega
      have it : ((p : Int) % (nb : Int)).toNat = p % nb := by
        rw [show ((p : Int) % (nb : Int)) = ((p % nb : Nat) : Int) from by simp]; rfl
      have jt : (((p : Int) * 7 + 3) % (nb : Int)).toNat = (p * 7 + 3) % nb := by
        rw [show (((p : Int) * 7 + 3) % (nb : Int)) = (((p * 7 + 3) % nb : Nat) : Int) from by simp]; rfl
      have HE := Lib.hid (pick_end v u p (p / nb) n hv1 hu1 hp (Nat.div_le_self _ _))
      go_quiet (fail)
      go_wp2
      go_ret
      refine ⟨(pickX v u p (p / nb) ^^^ pickX v u p (p / nb) / 64) % n, Nat.mod_lt _ (by omega), ret_eq (int_eq ?_), H2.out.drewN _, O2.out.drewN _⟩
      rw [show (p : Int) / (nb : Int) = ((p / nb : Nat) : Int) from by simp]
      exact HE.out
end Go.Proofs.Ytmboaaopmjmdnaa
