/-
  No cell of these rows narrows 'for every input' (looked for: loops, veiled, ifaces, maps, wideKeys, modest, calm, conditions, laid).
  DERIVED. THE GIVEN ROWS OF THIS SEAT. 12 by the template 'for every input the law returns true; each argument reads behind the call as it read before'; 0 by the template 'total and deterministic' (their statements: YtdomilpnhkkkiaaTotals.lean).
  GIVEN WITH THE SEED: the statements are not yours to turn. If you find one false, say at which input.
  Laid BY PROGRAM, IN A SANDBOX (cutbox-rows.mjs): the forced cells as the released guide's own fill.sh prints them over the translation f2a8f5453d5f5b1d… (all of the seat's roots in one cut). By AI agents, Wed Nov 11 2026. No macro, syntax, notation, axiom, sorry.
-/
import Derived.Test.YtdomilpnhkkkiaaChecked
import GoSem.Claim
import GoSem.ClaimJoined
import GoSem.ClaimMapViews
import Derived.JoinedTies
import Derived.KernelRfl
namespace Go.Proofs.Ytdomilpnhkkkiaa
/- THE CELL 'sum', in the pinned program and in every row, IS THE sha256 OF THE DUMP (.gsa) THAT YtdomilpnhkkkiaaProg.lean LOADS. Nothing in Lean hashes anything: it is a label: what it is worth is what the hold of that sum in a sandbox is worth. -/
noncomputable def Try.pinned : Pinned := { name := "ytdomilpnhkkkiaa", sum := "f2a8f5453d5f5b1d2500f7cb4d1f952eaa4a0a63ab7756bad34b776139cd5527", checked := Try.checked }
namespace Rows
def none {H : Type} : Left H := { results := [], args := [] }

/-- 'laws.FnExactPermValid': WHATEVER THE INPUT: true; the input reads as it did. -/
def fnExactPermValidSpec : ChangeSpec := { name := "fnExactPermValid", fn := fun _ => fun
  | [d] => { results := [.lit (.bool true)], args := [d] }
  | _ => none }
def fnExactPermValidRow : OpenClaim := { program := "ytdomilpnhkkkiaa", sum := "f2a8f5453d5f5b1d2500f7cb4d1f952eaa4a0a63ab7756bad34b776139cd5527", func := "loop.example/golayoctads/laws.FnExactPermValid", spec := "fnExactPermValid", apart := false }
def FnExactPermValidSaid : Prop := fnExactPermValidRow.holds Try.pinned (OpenSpec.ofChange fnExactPermValidSpec)

/-- ITS FALSE NEIGHBOUR: 'it returns false'. Refute it at one input. -/
def fnExactPermValidWrong : ChangeSpec := { name := "fnExactPermValid", fn := fun _ => fun
  | [d] => { results := [.lit (.bool false)], args := [d] }
  | _ => none }
def FnExactPermValidWrongFalsely : Prop := fnExactPermValidRow.holds Try.pinned (OpenSpec.ofChange fnExactPermValidWrong)

/-- 'laws.FnExactPermScale': WHATEVER THE INPUT: true; the input reads as it did. -/
def fnExactPermScaleSpec : ChangeSpec := { name := "fnExactPermScale", fn := fun _ => fun
  | [d] => { results := [.lit (.bool true)], args := [d] }
  | _ => none }
def fnExactPermScaleRow : OpenClaim := { program := "ytdomilpnhkkkiaa", sum := "f2a8f5453d5f5b1d2500f7cb4d1f952eaa4a0a63ab7756bad34b776139cd5527", func := "loop.example/golayoctads/laws.FnExactPermScale", spec := "fnExactPermScale", unfollowed := true, recurses := true, apart := false }
def FnExactPermScaleSaid : Prop := fnExactPermScaleRow.holds Try.pinned (OpenSpec.ofChange fnExactPermScaleSpec)

/-- ITS FALSE NEIGHBOUR: 'it returns false'. Refute it at one input. -/
def fnExactPermScaleWrong : ChangeSpec := { name := "fnExactPermScale", fn := fun _ => fun
  | [d] => { results := [.lit (.bool false)], args := [d] }
  | _ => none }
def FnExactPermScaleWrongFalsely : Prop := fnExactPermScaleRow.holds Try.pinned (OpenSpec.ofChange fnExactPermScaleWrong)

/-- 'laws.FnExactPermFixed': WHATEVER THE INPUT: true; the input reads as it did. -/
def fnExactPermFixedSpec : ChangeSpec := { name := "fnExactPermFixed", fn := fun _ => fun
  | [d] => { results := [.lit (.bool true)], args := [d] }
  | _ => none }
def fnExactPermFixedRow : OpenClaim := { program := "ytdomilpnhkkkiaa", sum := "f2a8f5453d5f5b1d2500f7cb4d1f952eaa4a0a63ab7756bad34b776139cd5527", func := "loop.example/golayoctads/laws.FnExactPermFixed", spec := "fnExactPermFixed", apart := false }
def FnExactPermFixedSaid : Prop := fnExactPermFixedRow.holds Try.pinned (OpenSpec.ofChange fnExactPermFixedSpec)

/-- ITS FALSE NEIGHBOUR: 'it returns false'. Refute it at one input. -/
def fnExactPermFixedWrong : ChangeSpec := { name := "fnExactPermFixed", fn := fun _ => fun
  | [d] => { results := [.lit (.bool false)], args := [d] }
  | _ => none }
def FnExactPermFixedWrongFalsely : Prop := fnExactPermFixedRow.holds Try.pinned (OpenSpec.ofChange fnExactPermFixedWrong)

/-- 'laws.FnExactPermTimes': WHATEVER THE INPUT: true; the input reads as it did. -/
def fnExactPermTimesSpec : ChangeSpec := { name := "fnExactPermTimes", fn := fun _ => fun
  | [d1, d2] => { results := [.lit (.bool true)], args := [d1, d2] }
  | _ => none }
def fnExactPermTimesRow : OpenClaim := { program := "ytdomilpnhkkkiaa", sum := "f2a8f5453d5f5b1d2500f7cb4d1f952eaa4a0a63ab7756bad34b776139cd5527", func := "loop.example/golayoctads/laws.FnExactPermTimes", spec := "fnExactPermTimes", apart := false }
def FnExactPermTimesSaid : Prop := fnExactPermTimesRow.holds Try.pinned (OpenSpec.ofChange fnExactPermTimesSpec)

/-- ITS FALSE NEIGHBOUR: 'it returns false'. Refute it at one input. -/
def fnExactPermTimesWrong : ChangeSpec := { name := "fnExactPermTimes", fn := fun _ => fun
  | [d1, d2] => { results := [.lit (.bool false)], args := [d1, d2] }
  | _ => none }
def FnExactPermTimesWrongFalsely : Prop := fnExactPermTimesRow.holds Try.pinned (OpenSpec.ofChange fnExactPermTimesWrong)

/-- 'laws.FnExactPermTurned': WHATEVER THE INPUT: true; the input reads as it did. -/
def fnExactPermTurnedSpec : ChangeSpec := { name := "fnExactPermTurned", fn := fun _ => fun
  | [d] => { results := [.lit (.bool true)], args := [d] }
  | _ => none }
def fnExactPermTurnedRow : OpenClaim := { program := "ytdomilpnhkkkiaa", sum := "f2a8f5453d5f5b1d2500f7cb4d1f952eaa4a0a63ab7756bad34b776139cd5527", func := "loop.example/golayoctads/laws.FnExactPermTurned", spec := "fnExactPermTurned", apart := false }
def FnExactPermTurnedSaid : Prop := fnExactPermTurnedRow.holds Try.pinned (OpenSpec.ofChange fnExactPermTurnedSpec)

/-- ITS FALSE NEIGHBOUR: 'it returns false'. Refute it at one input. -/
def fnExactPermTurnedWrong : ChangeSpec := { name := "fnExactPermTurned", fn := fun _ => fun
  | [d] => { results := [.lit (.bool false)], args := [d] }
  | _ => none }
def FnExactPermTurnedWrongFalsely : Prop := fnExactPermTurnedRow.holds Try.pinned (OpenSpec.ofChange fnExactPermTurnedWrong)

/-- 'laws.FnExactPermWord': WHATEVER THE INPUT: true; the input reads as it did. -/
def fnExactPermWordSpec : ChangeSpec := { name := "fnExactPermWord", fn := fun _ => fun
  | [d1, d2] => { results := [.lit (.bool true)], args := [d1, d2] }
  | _ => none }
def fnExactPermWordRow : OpenClaim := { program := "ytdomilpnhkkkiaa", sum := "f2a8f5453d5f5b1d2500f7cb4d1f952eaa4a0a63ab7756bad34b776139cd5527", func := "loop.example/golayoctads/laws.FnExactPermWord", spec := "fnExactPermWord", apart := false }
def FnExactPermWordSaid : Prop := fnExactPermWordRow.holds Try.pinned (OpenSpec.ofChange fnExactPermWordSpec)

/-- ITS FALSE NEIGHBOUR: 'it returns false'. Refute it at one input. -/
def fnExactPermWordWrong : ChangeSpec := { name := "fnExactPermWord", fn := fun _ => fun
  | [d1, d2] => { results := [.lit (.bool false)], args := [d1, d2] }
  | _ => none }
def FnExactPermWordWrongFalsely : Prop := fnExactPermWordRow.holds Try.pinned (OpenSpec.ofChange fnExactPermWordWrong)

/-- 'laws.FnHolds': WHATEVER THE INPUT: true; the input reads as it did. -/
def fnHoldsSpec : ChangeSpec := { name := "fnHolds", fn := fun _ => fun
  | [d] => { results := [.lit (.bool true)], args := [d] }
  | _ => none }
def fnHoldsRow : OpenClaim := { program := "ytdomilpnhkkkiaa", sum := "f2a8f5453d5f5b1d2500f7cb4d1f952eaa4a0a63ab7756bad34b776139cd5527", func := "loop.example/golayoctads/laws.FnHolds", spec := "fnHolds", unfollowed := true, recurses := true, apart := false }
def FnHoldsSaid : Prop := fnHoldsRow.holds Try.pinned (OpenSpec.ofChange fnHoldsSpec)

/-- ITS FALSE NEIGHBOUR: 'it returns false'. Refute it at one input. -/
def fnHoldsWrong : ChangeSpec := { name := "fnHolds", fn := fun _ => fun
  | [d] => { results := [.lit (.bool false)], args := [d] }
  | _ => none }
def FnHoldsWrongFalsely : Prop := fnHoldsRow.holds Try.pinned (OpenSpec.ofChange fnHoldsWrong)

/-- 'laws.FnExactOctadIn': WHATEVER THE INPUT: true; the input reads as it did. -/
def fnExactOctadInSpec : ChangeSpec := { name := "fnExactOctadIn", fn := fun _ => fun
  | [d] => { results := [.lit (.bool true)], args := [d] }
  | _ => none }
def fnExactOctadInRow : OpenClaim := { program := "ytdomilpnhkkkiaa", sum := "f2a8f5453d5f5b1d2500f7cb4d1f952eaa4a0a63ab7756bad34b776139cd5527", func := "loop.example/golayoctads/laws.FnExactOctadIn", spec := "fnExactOctadIn", apart := false }
def FnExactOctadInSaid : Prop := fnExactOctadInRow.holds Try.pinned (OpenSpec.ofChange fnExactOctadInSpec)

/-- ITS FALSE NEIGHBOUR: 'it returns false'. Refute it at one input. -/
def fnExactOctadInWrong : ChangeSpec := { name := "fnExactOctadIn", fn := fun _ => fun
  | [d] => { results := [.lit (.bool false)], args := [d] }
  | _ => none }
def FnExactOctadInWrongFalsely : Prop := fnExactOctadInRow.holds Try.pinned (OpenSpec.ofChange fnExactOctadInWrong)

/-- 'laws.FnExactOctadPair': WHATEVER THE INPUT: true; the input reads as it did. -/
def fnExactOctadPairSpec : ChangeSpec := { name := "fnExactOctadPair", fn := fun _ => fun
  | [d1, d2] => { results := [.lit (.bool true)], args := [d1, d2] }
  | _ => none }
def fnExactOctadPairRow : OpenClaim := { program := "ytdomilpnhkkkiaa", sum := "f2a8f5453d5f5b1d2500f7cb4d1f952eaa4a0a63ab7756bad34b776139cd5527", func := "loop.example/golayoctads/laws.FnExactOctadPair", spec := "fnExactOctadPair", apart := false }
def FnExactOctadPairSaid : Prop := fnExactOctadPairRow.holds Try.pinned (OpenSpec.ofChange fnExactOctadPairSpec)

/-- ITS FALSE NEIGHBOUR: 'it returns false'. Refute it at one input. -/
def fnExactOctadPairWrong : ChangeSpec := { name := "fnExactOctadPair", fn := fun _ => fun
  | [d1, d2] => { results := [.lit (.bool false)], args := [d1, d2] }
  | _ => none }
def FnExactOctadPairWrongFalsely : Prop := fnExactOctadPairRow.holds Try.pinned (OpenSpec.ofChange fnExactOctadPairWrong)

/-- 'laws.FnOctadPair': WHATEVER THE INPUT: true; the input reads as it did. -/
def fnOctadPairSpec : ChangeSpec := { name := "fnOctadPair", fn := fun _ => fun
  | [d] => { results := [.lit (.bool true)], args := [d] }
  | _ => none }
def fnOctadPairRow : OpenClaim := { program := "ytdomilpnhkkkiaa", sum := "f2a8f5453d5f5b1d2500f7cb4d1f952eaa4a0a63ab7756bad34b776139cd5527", func := "loop.example/golayoctads/laws.FnOctadPair", spec := "fnOctadPair", recurses := true, apart := false }
def FnOctadPairSaid : Prop := fnOctadPairRow.holds Try.pinned (OpenSpec.ofChange fnOctadPairSpec)

/-- ITS FALSE NEIGHBOUR: 'it returns false'. Refute it at one input. -/
def fnOctadPairWrong : ChangeSpec := { name := "fnOctadPair", fn := fun _ => fun
  | [d] => { results := [.lit (.bool false)], args := [d] }
  | _ => none }
def FnOctadPairWrongFalsely : Prop := fnOctadPairRow.holds Try.pinned (OpenSpec.ofChange fnOctadPairWrong)

/-- 'laws.FnExactOctadCount': WHATEVER THE INPUT: true; the input reads as it did. -/
def fnExactOctadCountSpec : ChangeSpec := { name := "fnExactOctadCount", fn := fun _ => fun
  | [d1, d2] => { results := [.lit (.bool true)], args := [d1, d2] }
  | _ => none }
def fnExactOctadCountRow : OpenClaim := { program := "ytdomilpnhkkkiaa", sum := "f2a8f5453d5f5b1d2500f7cb4d1f952eaa4a0a63ab7756bad34b776139cd5527", func := "loop.example/golayoctads/laws.FnExactOctadCount", spec := "fnExactOctadCount", unfollowed := true, recurses := true, apart := false }
def FnExactOctadCountSaid : Prop := fnExactOctadCountRow.holds Try.pinned (OpenSpec.ofChange fnExactOctadCountSpec)

/-- ITS FALSE NEIGHBOUR: 'it returns false'. Refute it at one input. -/
def fnExactOctadCountWrong : ChangeSpec := { name := "fnExactOctadCount", fn := fun _ => fun
  | [d1, d2] => { results := [.lit (.bool false)], args := [d1, d2] }
  | _ => none }
def FnExactOctadCountWrongFalsely : Prop := fnExactOctadCountRow.holds Try.pinned (OpenSpec.ofChange fnExactOctadCountWrong)

/-- 'laws.FnExactPlaneOval': WHATEVER THE INPUT: true; the input reads as it did. -/
def fnExactPlaneOvalSpec : ChangeSpec := { name := "fnExactPlaneOval", fn := fun _ => fun
  | [d1, d2] => { results := [.lit (.bool true)], args := [d1, d2] }
  | _ => none }
def fnExactPlaneOvalRow : OpenClaim := { program := "ytdomilpnhkkkiaa", sum := "f2a8f5453d5f5b1d2500f7cb4d1f952eaa4a0a63ab7756bad34b776139cd5527", func := "loop.example/golayoctads/laws.FnExactPlaneOval", spec := "fnExactPlaneOval", unfollowed := true, recurses := true, apart := false }
def FnExactPlaneOvalSaid : Prop := fnExactPlaneOvalRow.holds Try.pinned (OpenSpec.ofChange fnExactPlaneOvalSpec)

/-- ITS FALSE NEIGHBOUR: 'it returns false'. Refute it at one input. -/
def fnExactPlaneOvalWrong : ChangeSpec := { name := "fnExactPlaneOval", fn := fun _ => fun
  | [d1, d2] => { results := [.lit (.bool false)], args := [d1, d2] }
  | _ => none }
def FnExactPlaneOvalWrongFalsely : Prop := fnExactPlaneOvalRow.holds Try.pinned (OpenSpec.ofChange fnExactPlaneOvalWrong)

/- THE SECOND FORM. 'bulk': how many values and letters a reading holds, each counted each time it is reached (what is shared counts as often as it is met; a slice's spare places count too). A statement '..UptoSaid' is the law's where the arguments, and the package variables that the reading takes, are together of bulk at most 1048576: NARROWER than '..Said'. Prove '..Said' where nothing that the law and all that it calls make is longer than what came in: it says more and counts as full. Else prove '..UptoSaid'. A law counts once. -/
mutual
def uptoBulk {H : Type} : DataW H → Nat
  | .lit (.string bytes) => bytes.length + 1
  | .lit _ => 1
  | .nil => 1
  | .ptr d => uptoBulk d + 1
  | .slice elems spare => uptoBulkAll elems + uptoBulkAll spare + 1
  | .agg parts => uptoBulkAll parts + 1
  | .iface _ d => uptoBulk d + 1
  | .map entries => uptoBulkEntries entries + 1
  | .held _ => 1
def uptoBulkAll {H : Type} : List (DataW H) → Nat
  | [] => 0
  | d :: r => uptoBulk d + uptoBulkAll r
def uptoBulkEntries {H : Type} : List (Lit × DataW H) → Nat
  | [] => 0
  | x :: r => uptoBulkEntry x + uptoBulkEntries r
def uptoBulkEntry {H : Type} : Lit × DataW H → Nat
  | (.string bytes, d) => bytes.length + uptoBulk d + 1
  | (_, d) => uptoBulk d + 1
 end
def uptoSmall : (H : Type) → List (DataW H) → Bool := fun _ ds => decide (uptoBulkAll ds ≤ 1048576)
def OpenSpec.upto (s : _root_.Go.ChangeSpec) : _root_.Go.OpenSpec := { _root_.Go.OpenSpec.ofChange s with cond := some uptoSmall }

/-- 'laws.FnExactPermValid', WHERE WHAT IT READS IS OF BULK AT MOST 1048576: true; the input reads as it did. -/
def fnExactPermValidUptoRow : OpenClaim := { program := "ytdomilpnhkkkiaa", sum := "f2a8f5453d5f5b1d2500f7cb4d1f952eaa4a0a63ab7756bad34b776139cd5527", func := "loop.example/golayoctads/laws.FnExactPermValid", spec := "fnExactPermValid", apart := false, narrowed := true }
def FnExactPermValidUptoSaid : Prop := fnExactPermValidUptoRow.holds Try.pinned (OpenSpec.upto fnExactPermValidSpec)

/-- 'laws.FnExactPermScale', WHERE WHAT IT READS IS OF BULK AT MOST 1048576: true; the input reads as it did. -/
def fnExactPermScaleUptoRow : OpenClaim := { program := "ytdomilpnhkkkiaa", sum := "f2a8f5453d5f5b1d2500f7cb4d1f952eaa4a0a63ab7756bad34b776139cd5527", func := "loop.example/golayoctads/laws.FnExactPermScale", spec := "fnExactPermScale", unfollowed := true, recurses := true, apart := false, narrowed := true }
def FnExactPermScaleUptoSaid : Prop := fnExactPermScaleUptoRow.holds Try.pinned (OpenSpec.upto fnExactPermScaleSpec)

/-- 'laws.FnExactPermFixed', WHERE WHAT IT READS IS OF BULK AT MOST 1048576: true; the input reads as it did. -/
def fnExactPermFixedUptoRow : OpenClaim := { program := "ytdomilpnhkkkiaa", sum := "f2a8f5453d5f5b1d2500f7cb4d1f952eaa4a0a63ab7756bad34b776139cd5527", func := "loop.example/golayoctads/laws.FnExactPermFixed", spec := "fnExactPermFixed", apart := false, narrowed := true }
def FnExactPermFixedUptoSaid : Prop := fnExactPermFixedUptoRow.holds Try.pinned (OpenSpec.upto fnExactPermFixedSpec)

/-- 'laws.FnExactPermTimes', WHERE WHAT IT READS IS OF BULK AT MOST 1048576: true; the input reads as it did. -/
def fnExactPermTimesUptoRow : OpenClaim := { program := "ytdomilpnhkkkiaa", sum := "f2a8f5453d5f5b1d2500f7cb4d1f952eaa4a0a63ab7756bad34b776139cd5527", func := "loop.example/golayoctads/laws.FnExactPermTimes", spec := "fnExactPermTimes", apart := false, narrowed := true }
def FnExactPermTimesUptoSaid : Prop := fnExactPermTimesUptoRow.holds Try.pinned (OpenSpec.upto fnExactPermTimesSpec)

/-- 'laws.FnExactPermTurned', WHERE WHAT IT READS IS OF BULK AT MOST 1048576: true; the input reads as it did. -/
def fnExactPermTurnedUptoRow : OpenClaim := { program := "ytdomilpnhkkkiaa", sum := "f2a8f5453d5f5b1d2500f7cb4d1f952eaa4a0a63ab7756bad34b776139cd5527", func := "loop.example/golayoctads/laws.FnExactPermTurned", spec := "fnExactPermTurned", apart := false, narrowed := true }
def FnExactPermTurnedUptoSaid : Prop := fnExactPermTurnedUptoRow.holds Try.pinned (OpenSpec.upto fnExactPermTurnedSpec)

/-- 'laws.FnExactPermWord', WHERE WHAT IT READS IS OF BULK AT MOST 1048576: true; the input reads as it did. -/
def fnExactPermWordUptoRow : OpenClaim := { program := "ytdomilpnhkkkiaa", sum := "f2a8f5453d5f5b1d2500f7cb4d1f952eaa4a0a63ab7756bad34b776139cd5527", func := "loop.example/golayoctads/laws.FnExactPermWord", spec := "fnExactPermWord", apart := false, narrowed := true }
def FnExactPermWordUptoSaid : Prop := fnExactPermWordUptoRow.holds Try.pinned (OpenSpec.upto fnExactPermWordSpec)

/-- 'laws.FnHolds', WHERE WHAT IT READS IS OF BULK AT MOST 1048576: true; the input reads as it did. -/
def fnHoldsUptoRow : OpenClaim := { program := "ytdomilpnhkkkiaa", sum := "f2a8f5453d5f5b1d2500f7cb4d1f952eaa4a0a63ab7756bad34b776139cd5527", func := "loop.example/golayoctads/laws.FnHolds", spec := "fnHolds", unfollowed := true, recurses := true, apart := false, narrowed := true }
def FnHoldsUptoSaid : Prop := fnHoldsUptoRow.holds Try.pinned (OpenSpec.upto fnHoldsSpec)

/-- 'laws.FnExactOctadIn', WHERE WHAT IT READS IS OF BULK AT MOST 1048576: true; the input reads as it did. -/
def fnExactOctadInUptoRow : OpenClaim := { program := "ytdomilpnhkkkiaa", sum := "f2a8f5453d5f5b1d2500f7cb4d1f952eaa4a0a63ab7756bad34b776139cd5527", func := "loop.example/golayoctads/laws.FnExactOctadIn", spec := "fnExactOctadIn", apart := false, narrowed := true }
def FnExactOctadInUptoSaid : Prop := fnExactOctadInUptoRow.holds Try.pinned (OpenSpec.upto fnExactOctadInSpec)

/-- 'laws.FnExactOctadPair', WHERE WHAT IT READS IS OF BULK AT MOST 1048576: true; the input reads as it did. -/
def fnExactOctadPairUptoRow : OpenClaim := { program := "ytdomilpnhkkkiaa", sum := "f2a8f5453d5f5b1d2500f7cb4d1f952eaa4a0a63ab7756bad34b776139cd5527", func := "loop.example/golayoctads/laws.FnExactOctadPair", spec := "fnExactOctadPair", apart := false, narrowed := true }
def FnExactOctadPairUptoSaid : Prop := fnExactOctadPairUptoRow.holds Try.pinned (OpenSpec.upto fnExactOctadPairSpec)

/-- 'laws.FnOctadPair', WHERE WHAT IT READS IS OF BULK AT MOST 1048576: true; the input reads as it did. -/
def fnOctadPairUptoRow : OpenClaim := { program := "ytdomilpnhkkkiaa", sum := "f2a8f5453d5f5b1d2500f7cb4d1f952eaa4a0a63ab7756bad34b776139cd5527", func := "loop.example/golayoctads/laws.FnOctadPair", spec := "fnOctadPair", recurses := true, apart := false, narrowed := true }
def FnOctadPairUptoSaid : Prop := fnOctadPairUptoRow.holds Try.pinned (OpenSpec.upto fnOctadPairSpec)

/-- 'laws.FnExactOctadCount', WHERE WHAT IT READS IS OF BULK AT MOST 1048576: true; the input reads as it did. -/
def fnExactOctadCountUptoRow : OpenClaim := { program := "ytdomilpnhkkkiaa", sum := "f2a8f5453d5f5b1d2500f7cb4d1f952eaa4a0a63ab7756bad34b776139cd5527", func := "loop.example/golayoctads/laws.FnExactOctadCount", spec := "fnExactOctadCount", unfollowed := true, recurses := true, apart := false, narrowed := true }
def FnExactOctadCountUptoSaid : Prop := fnExactOctadCountUptoRow.holds Try.pinned (OpenSpec.upto fnExactOctadCountSpec)

/-- 'laws.FnExactPlaneOval', WHERE WHAT IT READS IS OF BULK AT MOST 1048576: true; the input reads as it did. -/
def fnExactPlaneOvalUptoRow : OpenClaim := { program := "ytdomilpnhkkkiaa", sum := "f2a8f5453d5f5b1d2500f7cb4d1f952eaa4a0a63ab7756bad34b776139cd5527", func := "loop.example/golayoctads/laws.FnExactPlaneOval", spec := "fnExactPlaneOval", unfollowed := true, recurses := true, apart := false, narrowed := true }
def FnExactPlaneOvalUptoSaid : Prop := fnExactPlaneOvalUptoRow.holds Try.pinned (OpenSpec.upto fnExactPlaneOvalSpec)

end Rows
end Go.Proofs.Ytdomilpnhkkkiaa
