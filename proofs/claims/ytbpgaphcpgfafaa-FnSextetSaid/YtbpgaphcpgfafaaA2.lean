import Derived.Test.YtbpgaphcpgfafaaB1
namespace Go.Proofs.Ytbpgaphcpgfafaa
open Go.RowKit

set_option maxHeartbeats 400000 in
theorem toIntS_any (A : Option Addr) (len cap : Nat) (zs : List Int) (w : World) (h : IsRow .i64 w A len cap zs) (hlen : len ≤ 1048576) :
    Calls Try.prog 19 #[.slice A len cap] w fun e w' => ∃ A' cap', e = .returned (.slice A' len cap') ∧ Own w' w.heap.size A' len cap' (zs.take len) ∧ Below w.heap.size w w' := by
  have HG := Lib.hid h
  clear h
  go_enter Try.func19, Try.ntmps19
  go_wp2_with (at_make; refine wl_make _ rfl (.tmp 6) (.tmp 6) rfl .i64 .i64 len len len rfl rfl rfl rfl hlen ?_)
  intro w1 HO HB
  go_wp2
  go_loopw [4] (fun i wr => ∃ k : Nat, k ≤ len ∧ i = .int .i64 k ∧ Own wr w.heap.size (some ⟨w.heap.size, 0, none⟩) len len (zs.take k ++ List.replicate (len - k) 0) ∧ Below w.heap.size w wr) (fun i _ => len - (intOf i).toNat)
  case atStart => exact ⟨0, Nat.zero_le _, rfl, by simpa using HO, HB⟩
  case round =>
    obtain ⟨k, hk, rfl, hown, hb⟩ := hrel
    by_cases hlt : k < len
    · rcases HG.out with ⟨_, h0, _⟩ | ⟨x, rfl, hlc, hcm, hzl, hcell, _⟩
      · omega
      have hcx := hcell k (by omega)
      have hxb : (x.add k).block < w.heap.size := World.block_lt_of_cell? w _ hcx
      have hx : wr.cell? (x.add k) = some (.int .i64 (zs.getD k 0)) := (hb.cell hxb).trans hcx
      obtain ⟨y, hy⟩ : ∃ y, zs[k]? = some y := ⟨_, List.getElem?_eq_getElem (by omega)⟩
      rw [List.getD_eq_getElem?_getD, hy] at hx
      have hx : wr.cell? (x.add k) = some (.int .i64 y) := hx
      have hnew : wr.cell? ⟨w.heap.size, k, none⟩ = some (.int .i64 0) := hown.cell (fill_get zs k len hlt (by omega))
      have hfr := hown.free k
      have HX := Lib.hid hy
      have HZ := Lib.hid hzl
      clear hcell hcx hy hzl HB HO
      go_wp2
      go_roundw
      case rel =>
        refine ⟨k + 1, by omega, by go_num, ?_, hb.setCell (Nat.le_refl _) _⟩
        have := hown.set k y
        rwa [fill_set zs k len hlt (by have := HZ.out; omega) y HX.out] at this
      case measure => simp [intOf]; omega
    · obtain rfl : k = len := by omega
      go_wp2
      go_ret
      exact ⟨_, _, rfl, by simpa using hown, hb⟩
end Go.Proofs.Ytbpgaphcpgfafaa
