/- The drawing of words, places and octads. -/
import Derived.Test.YtmboaaopmjmdnaaE1
import Derived.Test.YtmboaaopmjmdnaaE2
namespace Go.Proofs.Ytmboaaopmjmdnaa
open Go.RowKit

theorem u8_of {z : Int} (h : (Lit.int .u8 z).wf = true) : ∃ v : Nat, v < 256 ∧ z = (v : Int) := by
  simp only [Lit.wf, Bool.and_eq_true, decide_eq_true_eq] at h
  have h1 : (0 : Int) ≤ z := h.1
  have h2 : z ≤ 255 := h.2
  exact ⟨z.toNat, by omega, by omega⟩
theorem IsRow.bytes {w : World} {A : Option Addr} {n cap : Nat} {zs : List Int} (h : IsRow .u8 w A n cap zs) {m : Nat} (hm : m ≤ n) :
    0 < m → ∃ x, A = some x ∧ x.block < w.heap.size ∧ ∀ j, j < m → ∃ v : Nat, v < 256 ∧ w.cell? (x.add j) = some (.int .u8 (v : Nat)) := by
  intro hp
  rcases h with ⟨_, h0, _⟩ | ⟨x, rfl, hlc, hcm, hzl, hcell, hw⟩
  · omega
  · refine ⟨x, rfl, ?_, fun j hj => ?_⟩
    · have := World.block_lt_of_cell? w _ (hcell 0 (by omega))
      rwa [block_add] at this
    · have hj' : j < zs.length := by omega
      have hm : zs.getD j 0 ∈ zs := by
        rw [List.getD_eq_getElem?_getD, List.getElem?_eq_getElem hj']; exact List.getElem_mem _
      obtain ⟨v, hv, e⟩ := u8_of (hw _ hm)
      exact ⟨v, hv, by rw [hcell j hj', e]⟩
theorem Rd.fresh {w : World} {A : Option Addr} {n c : Nat} {T : TypeId} (hn : n ≤ 2000) (hb : 0 < n → ∃ x, A = some x ∧ x.block < w.heap.size ∧ ∀ j, j < n → ∃ v : Nat, v < 256 ∧ w.cell? (x.add j) = some (.int .u8 (v : Nat))) :
    Rd w.heap.size (w.alloc (.cells #[.slice A n c, .int .i64 0] T)) w.heap.size 0 := by
  have hbl : Below w.heap.size w (w.alloc (.cells #[.slice A n c, .int .i64 0] T)) := (Below.refl _ _).alloc (Nat.le_refl _) _
  have hat : (w.alloc (.cells #[.slice A n c, .int .i64 0] T)).heap[w.heap.size]? = some (.cells #[.slice A n c, .int .i64 0] T) := by show (w.heap.push _)[w.heap.size]? = _; simp
  refine ⟨Nat.le_refl _, by simp, ?_, ?_, A, n, c, ?_, hn, fun hp => ?_⟩
  · rw [World.cell?_alloc_at _ _ _ _ rfl]; rfl
  · unfold World.frozen?; rw [hat]; rfl
  · rw [World.cell?_alloc_at _ _ _ _ rfl]; rfl
  · obtain ⟨x, hx, hlt, hv⟩ := hb hp
    refine ⟨x, hx, hlt, fun j hj => ?_⟩
    obtain ⟨v, hv1, hv2⟩ := hv j hj
    exact ⟨v, hv1, (hbl.cell (p := x.add j) (by rw [block_add]; exact hlt)).trans hv2⟩

theorem sopen (A : Option Addr) (n cap : Nat) (zs : List Int) (w : World) (h : IsRow .u8 w A n cap zs) (hn : n ≤ 1048576) :
    Calls Try.prog 9 #[.slice A n cap] w fun e w' => ∃ g, e = .returned (.pointer (some ⟨g, 0, none⟩)) ∧ Rd w.heap.size w' g 0 ∧ Below w.heap.size w w' := by
  by_cases h2 : 2000 < n
  · have hb := h.bytes (m := 2000) (by omega)
    have HB := Lib.hid hb
    have e1 : decide ((2000 : Int) < (n : Int)) = true := by simp; omega
    obtain ⟨x, rfl, hlc, hcm⟩ : ∃ x, A = some x ∧ n ≤ cap ∧ cap ≤ maxLen := by
      rcases h with ⟨_, h0, _⟩ | ⟨x, rfl, hlc, hcm, _⟩
      · omega
      · exact ⟨x, rfl, hlc, hcm⟩
    clear hb h
    go_enter Try.func9, Try.ntmps9
    go_wp2
    go_ret
    exact ⟨_, rfl, Rd.fresh (Nat.le_refl _) HB.out, (Below.refl _ _).alloc (Nat.le_refl _) _⟩
  · have hb := h.bytes (m := n) (Nat.le_refl _)
    have HB := Lib.hid hb
    have e1 : decide ((2000 : Int) < (n : Int)) = false := by simp; omega
    clear hb h
    go_enter Try.func9, Try.ntmps9
    go_wp2
    go_ret
    exact ⟨_, rfl, Rd.fresh (by omega) HB.out, (Below.refl _ _).alloc (Nat.le_refl _) _⟩

/-- A drawing: the reader has moved on by at most K; nothing else that was there has turned. -/
def Drew (base g p K : Nat) (w w' : World) : Prop := ∃ q, p ≤ q ∧ q ≤ p + K ∧ Rd base w' g q ∧ Only w w' (some ⟨g, 0, none⟩)
theorem Drew.refl {base g p : Nat} {w : World} (h : Rd base w g p) : Drew base g p 0 w w := ⟨p, Nat.le_refl _, Nat.le_refl _, h, Only.refl _ _⟩
theorem Drew.of {base g p q K : Nat} {a w' : World} (h1 : p ≤ q) (h2 : q ≤ p + K) (h : Rd base w' g q) (ho : Only a w' (some ⟨g, 0, none⟩)) : Drew base g p K a w' := ⟨q, h1, h2, h, ho⟩

theorem scode (base g p : Nat) (w : World) (h : Rd base w g p) (hp : p ≤ 100000) :
    Calls Try.prog 32 #[.pointer (some ⟨g, 0, none⟩)] w fun e w' => ∃ m, m < 4096 ∧ e = .returned (.int .i64 (cw m)) ∧ Drew base g p 2 w w' := by
  have H := Lib.hid h
  clear h
  go_enter Try.func32, Try.ntmps32
  go_wp2_with fail
  refine (pick_any base g p 64 w H.out (by omega) (by decide) (by decide)).mono ?_
  rintro e w1 ⟨k1, hk1, rfl, r1, o1⟩
  go_wp2_with fail
  refine (pick_any base g (p + 1) 64 w1 r1 (by omega) (by decide) (by decide)).mono ?_
  rintro e w2 ⟨k2, hk2, rfl, r2, o2⟩
  go_wp2_with fail
  rw [show (k1 : Int) + 64 * (k2 : Int) = ((k1 + 64 * k2 : Nat) : Int) from by omega]
  refine (sl3Of (k1 + 64 * k2) w2 (by omega)).mono ?_
  rintro e w3 ⟨rfl, b3⟩
  have HD := Lib.hid (Drew.of (p := p) (K := 2) (by omega) (by omega) (r2.below b3) ((o1.trans o2).trans (Below.toOnly b3 _)))
  clear r1 o1 r2 o2 b3
  go_wp2
  go_ret
  exact ⟨_, by omega, rfl, HD.out⟩

/-- What 'l91Word' draws: a word, or one of two numbers that are none. -/
def Near (x : Int) : Prop := -1 ≤ x ∧ x ≤ 16777216

set_option maxHeartbeats 1000000 in
theorem sword (base g p : Nat) (w : World) (h : Rd base w g p) (hp : p ≤ 90000) :
    Calls Try.prog 19 #[.pointer (some ⟨g, 0, none⟩)] w fun e w' => ∃ x, Near x ∧ e = .returned (.int .i64 x) ∧ Drew base g p 9 w w' := by
  have H := Lib.hid h
  clear h
  go_enter Try.func19, Try.ntmps19
  go_wp2_with fail
  refine (pick_any base g p 20 w H.out (by omega) (by decide) (by decide)).mono ?_
  rintro e w1 ⟨k1, hk1, rfl, r1, o1⟩
  have R1 := Lib.hid r1
  have O1 := Lib.hid o1
  clear r1 o1
  by_cases h0 : k1 = 0
  · subst h0
    go_wp2
    go_ret
    exact ⟨-1, ⟨by omega, by omega⟩, rfl, Drew.of (by omega) (by omega) R1.out O1.out⟩
  · have e0 : ((k1 : Int) == 0) = false := by simp; omega
    by_cases h1 : k1 = 1
    · subst h1
      go_wp2
      go_ret
      exact ⟨16777216, ⟨by omega, by omega⟩, rfl, Drew.of (by omega) (by omega) R1.out O1.out⟩
    · have e1 : ((k1 : Int) == 1) = false := by simp; omega
      by_cases h2 : k1 = 2
      · subst h2
        go_wp2_with fail
        refine (pick_any base g (p + 1) 256 w1 R1.out (by omega) (by decide) (by decide)).mono ?_
        rintro e w2 ⟨k2, hk2, rfl, r2, o2⟩
        go_wp2_with fail
        refine (pick_any base g (p + 2) 256 w2 r2 (by omega) (by decide) (by decide)).mono ?_
        rintro e w3 ⟨k3, hk3, rfl, r3, o3⟩
        go_wp2_with fail
        refine (pick_any base g (p + 3) 256 w3 r3 (by omega) (by decide) (by decide)).mono ?_
        rintro e w4 ⟨k4, hk4, rfl, r4, o4⟩
        have HD := Lib.hid (Drew.of (p := p) (K := 9) (by omega) (by omega) r4 (((O1.out.trans o2).trans o3).trans o4))
        clear r2 o2 r3 o3 r4 o4
        go_wp2
        go_ret
        exact ⟨_, ⟨by omega, by omega⟩, rfl, HD.out⟩
      · have e2 : ((k1 : Int) == 2) = false := by simp; omega
        go_wp2_with fail
        refine (scode base g (p + 1) w1 R1.out (by omega)).mono ?_
        rintro e w2 ⟨m, hm, rfl, q, hq1, hq2, r2, o2⟩
        go_wp2_with fail
        refine (pick_any base g q 6 w2 r2 (by omega) (by decide) (by decide)).mono ?_
        rintro e w3 ⟨n, hn, rfl, r3, o3⟩
        have hcl := cw_lt m
        generalize cw m = x0 at hcl
        have R3 := Lib.hid r3
        have O3 := Lib.hid ((O1.out.trans o2).trans o3)
        clear r2 o2 r3 o3
        go_wp2
        go_loopw [3, 5] (fun u i wr => ∃ x k : Nat, k ≤ n ∧ x < 16777216 ∧ i = .int .i64 k ∧ u = .int .i64 x ∧ Rd base wr g (q + 1 + k) ∧ Only w wr (some ⟨g, 0, none⟩)) (fun _ i _ => n - (intOf i).toNat)
        case atStart => exact ⟨x0, 0, Nat.zero_le _, hcl, rfl, rfl, R3.out, O3.out⟩
        case round =>
          obtain ⟨x, k, hk, hx, rfl, rfl, hr, ho⟩ := hrel
          have R := Lib.hid hr
          have O := Lib.hid ho
          clear hr ho
          by_cases hlt : k < n
          · go_wp2_with fail
            refine (pick_any base g (q + 1 + k) 24 wr R.out (by omega) (by decide) (by decide)).mono ?_
            rintro e w4 ⟨d, hd, rfl, r4, o4⟩
            have hxor : bits .xor .i64 (x : Int) (wrap64 (2 ^ d)) = ((x ^^^ 1 <<< d : Nat) : Int) := by
              rw [i64_two d hd]; exact i64_xor _ _ (by omega) (by have := one_shl_lt hd; omega)
            have R4 := Lib.hid r4
            have O4 := Lib.hid (O.out.trans o4)
            clear r4 o4
            go_wp2
            go_roundw
            case rel => exact ⟨x ^^^ 1 <<< d, k + 1, by omega, xor_lt hx (one_shl_lt hd), by go_num, by trivial, R4.out, O4.out⟩
            case measure => simp [intOf]; omega
          · obtain rfl : k = n := by omega
            go_wp2
            go_ret
            exact ⟨x, ⟨by omega, by omega⟩, rfl, Drew.of (by omega) (by omega) R.out O.out⟩
end Go.Proofs.Ytmboaaopmjmdnaa
