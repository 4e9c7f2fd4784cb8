import Derived.Test.YtmboaaopmjmdnaaC6
import Derived.Test.YtmboaaopmjmdnaaB2
import Derived.Test.YtmboaaopmjmdnaaM11
namespace Go.Proofs.Ytmboaaopmjmdnaa
open Go.RowKit

theorem isorted (base : Nat) (A : Option Addr) (n c : Nat) (l : List Int) (w : World) (h : Own w base A n c l) (hn : n ≤ 1048576) :
    Calls Try.prog 41 #[.slice A n c] w fun e w' => e = .returned (.slice A n c) ∧ Own w' base A n c (srt l) ∧ Only w w' A := by
  have HO := Lib.hid h
  clear h
  go_enter Try.func41, Try.ntmps41
  go_wp2_with fail
  refine (sortInts base A n c l w HO.out hn).mono ?_
  rintro e w1 ⟨rfl, o1, b1⟩
  have HO1 := Lib.hid o1
  have HB1 := Lib.hid b1
  clear o1 b1
  go_wp2
  go_ret
  exact ⟨rfl, HO1.out, HB1.out⟩

/-- What a function value of 'octads' is asked to be: it tells f, and turns nothing. -/
def Tells (w : World) (fid : FuncId) (caps : List Value) (f : Nat → Bool) : Prop :=
  (∀ args W, Sem.run Try.prog (callFunc fid args) W = .ok (.enter fid args) W) ∧ ∀ (x : Nat) (W : World), x < 16777216 → Below w.heap.size w W → Calls Try.prog fid (Value.int .i64 x :: caps).toArray W fun e W' => e = .returned (.bool (f x)) ∧ W = W'

set_option maxRecDepth 100000 in
set_option maxHeartbeats 1000000 in
theorem ioctads1 (fid : FuncId) (p : Value) (f : Nat → Bool) (w : World) (hf : Tells w fid [p] f) :
    Calls Try.prog 24 #[.func (.func fid) #[] #[p]] w (Makes (nl (octs f)) w) := by
  have HF := Lib.hid hf
  have HA := Lib.hid (octTo_all f)
  clear hf
  go_enter Try.func24, Try.ntmps24
  go_wp2_with fail
  refine (iwords _).mono ?_
  rintro e w1 ⟨A1, n1, c1, rfl, o1, b1⟩
  have hn1 : n1 = 4096 := o1.length.symm.trans ((nl_length _).trans (wdTo_len _))
  subst hn1
  have R0 := Lib.hid (Run.start (Own.lit w [] (by decide)) ((Below.refl _ _).alloc (Nat.le_refl _) _) (by simp) o1 b1)
  have hs1 : w.heap.size ≤ w1.heap.size := by have := b1.size; simp at this; omega
  clear o1 b1
  go_wp2
  go_loopw [3, 9] (fun v i wr => ∃ k A n cap, k ≤ 4096 ∧ n ≤ k ∧ i = .int .i64 (k : Nat) ∧ v = .slice A n cap ∧ w.heap.size ≤ wr.heap.size ∧ Run w.heap.size w wr A n cap (nl (octTo f k)) A1 4096 c1 (nl (wdTo 4096))) (fun _ i _ => 4096 - (intOf i).toNat)
  case atStart => exact ⟨0, _, _, _, Nat.zero_le _, Nat.zero_le _, rfl, rfl, hs1, R0.out⟩
  case round =>
    obtain ⟨k, A, n, cap, hk, hnk, rfl, rfl, hsz, hrun⟩ := hrel
    have R := Lib.hid hrun
    clear hrun R0
    by_cases hlt : k < 4096
    · obtain ⟨b, o, x, rfl, hb, hx, hc⟩ := R.out.sl.nat hlt
      obtain rfl : x = cw k := by rw [wd_getD k hlt] at hx; injection hx with hx; exact hx.symm
      have hcl := cw_lt k
      have hwl := wt_le (cw k)
      clear hx
      by_cases h8 : wt (cw k) = 8
      · have e1 : ((wt (cw k) : Int) == 8) = true := by rw [show ((8 : Int)) = ((8 : Nat) : Int) from rfl, int_beq]; simp [h8]
        cases hfx : f (cw k) with
        | true =>
          have HS := Lib.hid (octTo_yes f k h8 hfx)
          have HC := Lib.hid (HF.out.2 (cw k) wr hcl R.out.below)
          rw [hfx] at HC
          clear h8 hfx
          go_wp2_with (first | (go_at_call 23; refine (iweight _ _ hcl).mono ?_; rintro e w' ⟨rfl, rfl⟩) | (rw [HF.out.1, Oper.upon_enter]; refine HC.out.mono ?_; rintro e w' ⟨rfl, rfl⟩) | (at_builtin; refine wl_run _ rfl (.tmp 21) (.tmp 23) rfl w.heap.size w A _ cap (nl (octTo f k)) _ _ _ _ _ rfl R.out rfl (by omega) hsz ?_))
          intro A2 cap2 w2 hrun2 hsz2
          have R2 := Lib.hid hrun2
          clear hrun2
          go_wp2
          go_roundw
          case rel =>
            refine ⟨k + 1, A2, n + 1, cap2, by omega, by omega, by go_num, by simp, hsz2, ?_⟩
            have h := R2.out
            rw [HS.out, nl_append]
            simpa [nl] using h
          case measure => simp [intOf]; omega
        | false =>
          have HS := Lib.hid (octTo_no f k (.inr hfx))
          have HC := Lib.hid (HF.out.2 (cw k) wr hcl R.out.below)
          rw [hfx] at HC
          clear h8 hfx
          go_wp2_with (first | (go_at_call 23; refine (iweight _ _ hcl).mono ?_; rintro e w' ⟨rfl, rfl⟩) | (rw [HF.out.1, Oper.upon_enter]; refine HC.out.mono ?_; rintro e w' ⟨rfl, rfl⟩))
          go_roundw
          case rel => exact ⟨k + 1, A, n, cap, by omega, by omega, by go_num, by simp, hsz, by rw [HS.out]; exact R.out⟩
          case measure => simp [intOf]; omega
      · have e1 : ((wt (cw k) : Int) == 8) = false := by rw [show ((8 : Int)) = ((8 : Nat) : Int) from rfl, int_beq]; simp [h8]
        have HS := Lib.hid (octTo_no f k (.inl h8))
        clear h8
        go_wp2_with (first | (go_at_call 23; refine (iweight _ _ hcl).mono ?_; rintro e w' ⟨rfl, rfl⟩))
        go_roundw
        case rel => exact ⟨k + 1, A, n, cap, by omega, by omega, by go_num, by simp, hsz, by rw [HS.out]; exact R.out⟩
        case measure => simp [intOf]; omega
    · obtain rfl : k = 4096 := by omega
      go_wp2_with (first | (go_at_call 41; refine (isorted w.heap.size A n cap _ wr R.out.own (by omega)).mono ?_; rintro e w2 ⟨rfl, o2, b2⟩))
      go_ret
      rw [HA.out] at o2
      exact ⟨A, n, cap, rfl, o2, R.out.below.trans (b2.below hsz R.out.own.at_base)⟩

theorem hasf_one (x y : Nat) : hasf x 0 y = (y &&& x == x) := by simp [hasf]
theorem int_beq' (a b : Nat) : ((a : Int) == (b : Int)) = (a == b) := by
  rw [Bool.eq_iff_iff, beq_iff_eq, beq_iff_eq]; omega

theorem owith_clo (Bn x y : Nat) (w : World) (hx : x < 16777216) (hy : y < 16777216) (hc : w.cell? ⟨Bn, 0, none⟩ = some (.int .i64 x)) :
    Calls Try.prog 25 #[.int .i64 y, .pointer (some ⟨Bn, 0, none⟩)] w fun e w' => e = .returned (.bool (hasf x 0 y)) ∧ w = w' := by
  have ha := i64_and y x (by omega) (by omega)
  have hr := int_beq' (y &&& x) x
  rw [← hasf_one] at hr
  go_enter Try.func25, Try.ntmps25
  go_wp2
  go_ret
  exact ⟨rfl, rfl⟩

theorem callFunc_in {P : Program} {f : FuncId} {fn : Func} (hf : P.funcs[f]? = some fn) (hname : (fn.name == "runtime.NumGoroutine") = false) (hb : fn.body.isNone = false) (args : Array Value) (w : World) :
    (callFunc f args).run P w = .ok (.enter f args) w := by
  have h1 : fn.name ≠ "runtime.NumGoroutine" := by simpa using hname
  have h2 : ∃ c, fn.body = some c := by
    cases h : fn.body with
    | none => rw [h] at hb; cases hb
    | some c => exact ⟨c, rfl⟩
  obtain ⟨c, h2⟩ := h2
  simp [callFunc, hf, h1, h2]
theorem owith_tells (x : Nat) (w : World) (hx : x < 16777216) (g : Nat) (hg : g < w.heap.size) (hc : w.cell? ⟨g, 0, none⟩ = some (.int .i64 x)) :
    Tells w 25 [.pointer (some ⟨g, 0, none⟩)] (hasf x 0) := by
  refine ⟨fun args W => callFunc_in Try.func25 (by kernel_rfl) (by kernel_rfl) args W, fun y W hy hb => ?_⟩
  exact owith_clo g x y W hx hy ((hb.cell (p := ⟨g, 0, none⟩) hg).trans hc)

theorem ioctadsWith (x : Nat) (w : World) (hx : x < 16777216) :
    Calls Try.prog 11 #[.int .i64 x] w (Makes (nl (octs (hasf x 0))) w) := by
  have b0 : Below w.heap.size w (w.alloc (.cells #[.int .i64 x] 3)) := (Below.refl _ _).alloc (Nat.le_refl _) _
  have HB := Lib.hid b0
  clear b0
  go_enter Try.func11, Try.ntmps11
  go_wp2_with fail
  refine (ioctads1 25 _ (hasf x 0) _ (owith_tells x _ hx w.heap.size (by simp) (by rw [World.cell?_alloc_at _ _ _ _ rfl]; rfl))).mono ?_
  rintro e w1 ⟨A, n, c, rfl, o, b⟩
  have HO := Lib.hid o
  have HB1 := Lib.hid b
  clear o b
  go_wp2
  go_ret
  exact ⟨A, n, c, rfl, HO.out.base_le (by simp), below_to HB.out HB1.out (Nat.le_refl _)⟩
end Go.Proofs.Ytmboaaopmjmdnaa
