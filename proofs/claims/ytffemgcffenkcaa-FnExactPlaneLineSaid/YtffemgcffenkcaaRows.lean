/-
  No cell of these rows narrows 'for every input' (looked for: loops, veiled, ifaces, maps, wideKeys, modest, calm, conditions, laid).
  DERIVED. THE GIVEN ROWS OF THIS SEAT. 12 by the template 'for every input the law returns true; each argument reads behind the call as it read before'; 0 by the template 'total and deterministic' (their statements: YtffemgcffenkcaaTotals.lean).
  GIVEN WITH THE SEED: the statements are not yours to turn. If you find one false, say at which input.
  Laid BY PROGRAM, IN A SANDBOX (cutbox-rows.mjs): the forced cells as the released guide's own fill.sh prints them over the translation 1a2b4fcf7ad21b85… (all of the seat's roots in one cut). By AI agents, Wed Nov 11 2026. No macro, syntax, notation, axiom, sorry.
-/
import Derived.Test.YtffemgcffenkcaaChecked
import GoSem.Claim
import GoSem.ClaimJoined
import GoSem.ClaimMapViews
import Derived.JoinedTies
import Derived.KernelRfl
namespace Go.Proofs.Ytffemgcffenkcaa
/- THE CELL 'sum', in the pinned program and in every row, IS THE sha256 OF THE DUMP (.gsa) THAT YtffemgcffenkcaaProg.lean LOADS. Nothing in Lean hashes anything: it is a label: what it is worth is what the hold of that sum in a sandbox is worth. -/
noncomputable def Try.pinned : Pinned := { name := "ytffemgcffenkcaa", sum := "1a2b4fcf7ad21b85aa37828db162a8fb17a31c02cc8ef7361612ef52e83e1e0b", checked := Try.checked }
namespace Rows
def none {H : Type} : Left H := { results := [], args := [] }

/-- 'laws.FnExactPlaneLine': WHATEVER THE INPUT: true; the input reads as it did. -/
def fnExactPlaneLineSpec : ChangeSpec := { name := "fnExactPlaneLine", fn := fun _ => fun
  | [d1, d2, d3] => { results := [.lit (.bool true)], args := [d1, d2, d3] }
  | _ => none }
def fnExactPlaneLineRow : OpenClaim := { program := "ytffemgcffenkcaa", sum := "1a2b4fcf7ad21b85aa37828db162a8fb17a31c02cc8ef7361612ef52e83e1e0b", func := "loop.example/golayoctads/laws.FnExactPlaneLine", spec := "fnExactPlaneLine", unfollowed := true, recurses := true, apart := false }
def FnExactPlaneLineSaid : Prop := fnExactPlaneLineRow.holds Try.pinned (OpenSpec.ofChange fnExactPlaneLineSpec)

/-- ITS FALSE NEIGHBOUR: 'it returns false'. Refute it at one input. -/
def fnExactPlaneLineWrong : ChangeSpec := { name := "fnExactPlaneLine", fn := fun _ => fun
  | [d1, d2, d3] => { results := [.lit (.bool false)], args := [d1, d2, d3] }
  | _ => none }
def FnExactPlaneLineWrongFalsely : Prop := fnExactPlaneLineRow.holds Try.pinned (OpenSpec.ofChange fnExactPlaneLineWrong)

/-- 'laws.FnDodecad': WHATEVER THE INPUT: true; the input reads as it did. -/
def fnDodecadSpec : ChangeSpec := { name := "fnDodecad", fn := fun _ => fun
  | [d] => { results := [.lit (.bool true)], args := [d] }
  | _ => none }
def fnDodecadRow : OpenClaim := { program := "ytffemgcffenkcaa", sum := "1a2b4fcf7ad21b85aa37828db162a8fb17a31c02cc8ef7361612ef52e83e1e0b", func := "loop.example/golayoctads/laws.FnDodecad", spec := "fnDodecad", unfollowed := true, recurses := true, apart := false }
def FnDodecadSaid : Prop := fnDodecadRow.holds Try.pinned (OpenSpec.ofChange fnDodecadSpec)

/-- ITS FALSE NEIGHBOUR: 'it returns false'. Refute it at one input. -/
def fnDodecadWrong : ChangeSpec := { name := "fnDodecad", fn := fun _ => fun
  | [d] => { results := [.lit (.bool false)], args := [d] }
  | _ => none }
def FnDodecadWrongFalsely : Prop := fnDodecadRow.holds Try.pinned (OpenSpec.ofChange fnDodecadWrong)

/-- 'laws.FnExactPlaneOvals': WHATEVER THE INPUT: true; the input reads as it did. -/
def fnExactPlaneOvalsSpec : ChangeSpec := { name := "fnExactPlaneOvals", fn := fun _ => fun
  | [d1, d2, d3] => { results := [.lit (.bool true)], args := [d1, d2, d3] }
  | _ => none }
def fnExactPlaneOvalsRow : OpenClaim := { program := "ytffemgcffenkcaa", sum := "1a2b4fcf7ad21b85aa37828db162a8fb17a31c02cc8ef7361612ef52e83e1e0b", func := "loop.example/golayoctads/laws.FnExactPlaneOvals", spec := "fnExactPlaneOvals", unfollowed := true, recurses := true, apart := false }
def FnExactPlaneOvalsSaid : Prop := fnExactPlaneOvalsRow.holds Try.pinned (OpenSpec.ofChange fnExactPlaneOvalsSpec)

/-- ITS FALSE NEIGHBOUR: 'it returns false'. Refute it at one input. -/
def fnExactPlaneOvalsWrong : ChangeSpec := { name := "fnExactPlaneOvals", fn := fun _ => fun
  | [d1, d2, d3] => { results := [.lit (.bool false)], args := [d1, d2, d3] }
  | _ => none }
def FnExactPlaneOvalsWrongFalsely : Prop := fnExactPlaneOvalsRow.holds Try.pinned (OpenSpec.ofChange fnExactPlaneOvalsWrong)

/-- 'laws.FnExactSextetOf': WHATEVER THE INPUT: true; the input reads as it did. -/
def fnExactSextetOfSpec : ChangeSpec := { name := "fnExactSextetOf", fn := fun _ => fun
  | [d] => { results := [.lit (.bool true)], args := [d] }
  | _ => none }
def fnExactSextetOfRow : OpenClaim := { program := "ytffemgcffenkcaa", sum := "1a2b4fcf7ad21b85aa37828db162a8fb17a31c02cc8ef7361612ef52e83e1e0b", func := "loop.example/golayoctads/laws.FnExactSextetOf", spec := "fnExactSextetOf", unfollowed := true, recurses := true, apart := false }
def FnExactSextetOfSaid : Prop := fnExactSextetOfRow.holds Try.pinned (OpenSpec.ofChange fnExactSextetOfSpec)

/-- ITS FALSE NEIGHBOUR: 'it returns false'. Refute it at one input. -/
def fnExactSextetOfWrong : ChangeSpec := { name := "fnExactSextetOf", fn := fun _ => fun
  | [d] => { results := [.lit (.bool false)], args := [d] }
  | _ => none }
def FnExactSextetOfWrongFalsely : Prop := fnExactSextetOfRow.holds Try.pinned (OpenSpec.ofChange fnExactSextetOfWrong)

/-- 'laws.FnExactOctadThrough': WHATEVER THE INPUT: true; the input reads as it did. -/
def fnExactOctadThroughSpec : ChangeSpec := { name := "fnExactOctadThrough", fn := fun _ => fun
  | [d] => { results := [.lit (.bool true)], args := [d] }
  | _ => none }
def fnExactOctadThroughRow : OpenClaim := { program := "ytffemgcffenkcaa", sum := "1a2b4fcf7ad21b85aa37828db162a8fb17a31c02cc8ef7361612ef52e83e1e0b", func := "loop.example/golayoctads/laws.FnExactOctadThrough", spec := "fnExactOctadThrough", unfollowed := true, recurses := true, apart := false }
def FnExactOctadThroughSaid : Prop := fnExactOctadThroughRow.holds Try.pinned (OpenSpec.ofChange fnExactOctadThroughSpec)

/-- ITS FALSE NEIGHBOUR: 'it returns false'. Refute it at one input. -/
def fnExactOctadThroughWrong : ChangeSpec := { name := "fnExactOctadThrough", fn := fun _ => fun
  | [d] => { results := [.lit (.bool false)], args := [d] }
  | _ => none }
def FnExactOctadThroughWrongFalsely : Prop := fnExactOctadThroughRow.holds Try.pinned (OpenSpec.ofChange fnExactOctadThroughWrong)

/-- 'laws.FnExactSextetSum': WHATEVER THE INPUT: true; the input reads as it did. -/
def fnExactSextetSumSpec : ChangeSpec := { name := "fnExactSextetSum", fn := fun _ => fun
  | [d1, d2] => { results := [.lit (.bool true)], args := [d1, d2] }
  | _ => none }
def fnExactSextetSumRow : OpenClaim := { program := "ytffemgcffenkcaa", sum := "1a2b4fcf7ad21b85aa37828db162a8fb17a31c02cc8ef7361612ef52e83e1e0b", func := "loop.example/golayoctads/laws.FnExactSextetSum", spec := "fnExactSextetSum", unfollowed := true, recurses := true, apart := false }
def FnExactSextetSumSaid : Prop := fnExactSextetSumRow.holds Try.pinned (OpenSpec.ofChange fnExactSextetSumSpec)

/-- ITS FALSE NEIGHBOUR: 'it returns false'. Refute it at one input. -/
def fnExactSextetSumWrong : ChangeSpec := { name := "fnExactSextetSum", fn := fun _ => fun
  | [d1, d2] => { results := [.lit (.bool false)], args := [d1, d2] }
  | _ => none }
def FnExactSextetSumWrongFalsely : Prop := fnExactSextetSumRow.holds Try.pinned (OpenSpec.ofChange fnExactSextetSumWrong)

/-- 'laws.FnExactPlaneLines': WHATEVER THE INPUT: true; the input reads as it did. -/
def fnExactPlaneLinesSpec : ChangeSpec := { name := "fnExactPlaneLines", fn := fun _ => fun
  | [d] => { results := [.lit (.bool true)], args := [d] }
  | _ => none }
def fnExactPlaneLinesRow : OpenClaim := { program := "ytffemgcffenkcaa", sum := "1a2b4fcf7ad21b85aa37828db162a8fb17a31c02cc8ef7361612ef52e83e1e0b", func := "loop.example/golayoctads/laws.FnExactPlaneLines", spec := "fnExactPlaneLines", unfollowed := true, recurses := true, apart := false }
def FnExactPlaneLinesSaid : Prop := fnExactPlaneLinesRow.holds Try.pinned (OpenSpec.ofChange fnExactPlaneLinesSpec)

/-- ITS FALSE NEIGHBOUR: 'it returns false'. Refute it at one input. -/
def fnExactPlaneLinesWrong : ChangeSpec := { name := "fnExactPlaneLines", fn := fun _ => fun
  | [d] => { results := [.lit (.bool false)], args := [d] }
  | _ => none }
def FnExactPlaneLinesWrongFalsely : Prop := fnExactPlaneLinesRow.holds Try.pinned (OpenSpec.ofChange fnExactPlaneLinesWrong)

/-- 'laws.FnTriangle': WHATEVER THE INPUT: true; the input reads as it did. -/
def fnTriangleSpec : ChangeSpec := { name := "fnTriangle", fn := fun _ => fun
  | [d] => { results := [.lit (.bool true)], args := [d] }
  | _ => none }
def fnTriangleRow : OpenClaim := { program := "ytffemgcffenkcaa", sum := "1a2b4fcf7ad21b85aa37828db162a8fb17a31c02cc8ef7361612ef52e83e1e0b", func := "loop.example/golayoctads/laws.FnTriangle", spec := "fnTriangle", unfollowed := true, recurses := true, apart := false }
def FnTriangleSaid : Prop := fnTriangleRow.holds Try.pinned (OpenSpec.ofChange fnTriangleSpec)

/-- ITS FALSE NEIGHBOUR: 'it returns false'. Refute it at one input. -/
def fnTriangleWrong : ChangeSpec := { name := "fnTriangle", fn := fun _ => fun
  | [d] => { results := [.lit (.bool false)], args := [d] }
  | _ => none }
def FnTriangleWrongFalsely : Prop := fnTriangleRow.holds Try.pinned (OpenSpec.ofChange fnTriangleWrong)

/-- 'laws.FnOctadCount': WHATEVER THE INPUT: true; the input reads as it did. -/
def fnOctadCountSpec : ChangeSpec := { name := "fnOctadCount", fn := fun _ => fun
  | [d] => { results := [.lit (.bool true)], args := [d] }
  | _ => none }
def fnOctadCountRow : OpenClaim := { program := "ytffemgcffenkcaa", sum := "1a2b4fcf7ad21b85aa37828db162a8fb17a31c02cc8ef7361612ef52e83e1e0b", func := "loop.example/golayoctads/laws.FnOctadCount", spec := "fnOctadCount", unfollowed := true, recurses := true, apart := false }
def FnOctadCountSaid : Prop := fnOctadCountRow.holds Try.pinned (OpenSpec.ofChange fnOctadCountSpec)

/-- ITS FALSE NEIGHBOUR: 'it returns false'. Refute it at one input. -/
def fnOctadCountWrong : ChangeSpec := { name := "fnOctadCount", fn := fun _ => fun
  | [d] => { results := [.lit (.bool false)], args := [d] }
  | _ => none }
def FnOctadCountWrongFalsely : Prop := fnOctadCountRow.holds Try.pinned (OpenSpec.ofChange fnOctadCountWrong)

/-- 'laws.FnExactOctadList': WHATEVER THE INPUT: true; the input reads as it did. -/
def fnExactOctadListSpec : ChangeSpec := { name := "fnExactOctadList", fn := fun _ => fun
  | [d] => { results := [.lit (.bool true)], args := [d] }
  | _ => none }
def fnExactOctadListRow : OpenClaim := { program := "ytffemgcffenkcaa", sum := "1a2b4fcf7ad21b85aa37828db162a8fb17a31c02cc8ef7361612ef52e83e1e0b", func := "loop.example/golayoctads/laws.FnExactOctadList", spec := "fnExactOctadList", unfollowed := true, recurses := true, apart := false }
def FnExactOctadListSaid : Prop := fnExactOctadListRow.holds Try.pinned (OpenSpec.ofChange fnExactOctadListSpec)

/-- ITS FALSE NEIGHBOUR: 'it returns false'. Refute it at one input. -/
def fnExactOctadListWrong : ChangeSpec := { name := "fnExactOctadList", fn := fun _ => fun
  | [d] => { results := [.lit (.bool false)], args := [d] }
  | _ => none }
def FnExactOctadListWrongFalsely : Prop := fnExactOctadListRow.holds Try.pinned (OpenSpec.ofChange fnExactOctadListWrong)

/-- 'laws.FnExactSextetValid': WHATEVER THE INPUT: true; the input reads as it did. -/
def fnExactSextetValidSpec : ChangeSpec := { name := "fnExactSextetValid", fn := fun _ => fun
  | [d] => { results := [.lit (.bool true)], args := [d] }
  | _ => none }
def fnExactSextetValidRow : OpenClaim := { program := "ytffemgcffenkcaa", sum := "1a2b4fcf7ad21b85aa37828db162a8fb17a31c02cc8ef7361612ef52e83e1e0b", func := "loop.example/golayoctads/laws.FnExactSextetValid", spec := "fnExactSextetValid", unfollowed := true, recurses := true, apart := false }
def FnExactSextetValidSaid : Prop := fnExactSextetValidRow.holds Try.pinned (OpenSpec.ofChange fnExactSextetValidSpec)

/-- ITS FALSE NEIGHBOUR: 'it returns false'. Refute it at one input. -/
def fnExactSextetValidWrong : ChangeSpec := { name := "fnExactSextetValid", fn := fun _ => fun
  | [d] => { results := [.lit (.bool false)], args := [d] }
  | _ => none }
def FnExactSextetValidWrongFalsely : Prop := fnExactSextetValidRow.holds Try.pinned (OpenSpec.ofChange fnExactSextetValidWrong)

/-- 'laws.FnExactPlaneOn': WHATEVER THE INPUT: true; the input reads as it did. -/
def fnExactPlaneOnSpec : ChangeSpec := { name := "fnExactPlaneOn", fn := fun _ => fun
  | [d1, d2] => { results := [.lit (.bool true)], args := [d1, d2] }
  | _ => none }
def fnExactPlaneOnRow : OpenClaim := { program := "ytffemgcffenkcaa", sum := "1a2b4fcf7ad21b85aa37828db162a8fb17a31c02cc8ef7361612ef52e83e1e0b", func := "loop.example/golayoctads/laws.FnExactPlaneOn", spec := "fnExactPlaneOn", unfollowed := true, recurses := true, apart := false }
def FnExactPlaneOnSaid : Prop := fnExactPlaneOnRow.holds Try.pinned (OpenSpec.ofChange fnExactPlaneOnSpec)

/-- ITS FALSE NEIGHBOUR: 'it returns false'. Refute it at one input. -/
def fnExactPlaneOnWrong : ChangeSpec := { name := "fnExactPlaneOn", fn := fun _ => fun
  | [d1, d2] => { results := [.lit (.bool false)], args := [d1, d2] }
  | _ => none }
def FnExactPlaneOnWrongFalsely : Prop := fnExactPlaneOnRow.holds Try.pinned (OpenSpec.ofChange fnExactPlaneOnWrong)

/- THE SECOND FORM. 'bulk': how many values and letters a reading holds, each counted each time it is reached (what is shared counts as often as it is met; a slice's spare places count too). A statement '..UptoSaid' is the law's where the arguments, and the package variables that the reading takes, are together of bulk at most 1048576: NARROWER than '..Said'. Prove '..Said' where nothing that the law and all that it calls make is longer than what came in: it says more and counts as full. Else prove '..UptoSaid'. A law counts once. -/
mutual
def uptoBulk {H : Type} : DataW H → Nat
  | .lit (.string bytes) => bytes.length + 1
  | .lit _ => 1
  | .nil => 1
  | .ptr d => uptoBulk d + 1
  | .slice elems spare => uptoBulkAll elems + uptoBulkAll spare + 1
  | .agg parts => uptoBulkAll parts + 1
  | .iface _ d => uptoBulk d + 1
  | .map entries => uptoBulkEntries entries + 1
  | .held _ => 1
def uptoBulkAll {H : Type} : List (DataW H) → Nat
  | [] => 0
  | d :: r => uptoBulk d + uptoBulkAll r
def uptoBulkEntries {H : Type} : List (Lit × DataW H) → Nat
  | [] => 0
  | x :: r => uptoBulkEntry x + uptoBulkEntries r
def uptoBulkEntry {H : Type} : Lit × DataW H → Nat
  | (.string bytes, d) => bytes.length + uptoBulk d + 1
  | (_, d) => uptoBulk d + 1
 end
def uptoSmall : (H : Type) → List (DataW H) → Bool := fun _ ds => decide (uptoBulkAll ds ≤ 1048576)
def OpenSpec.upto (s : _root_.Go.ChangeSpec) : _root_.Go.OpenSpec := { _root_.Go.OpenSpec.ofChange s with cond := some uptoSmall }

/-- 'laws.FnExactPlaneLine', WHERE WHAT IT READS IS OF BULK AT MOST 1048576: true; the input reads as it did. -/
def fnExactPlaneLineUptoRow : OpenClaim := { program := "ytffemgcffenkcaa", sum := "1a2b4fcf7ad21b85aa37828db162a8fb17a31c02cc8ef7361612ef52e83e1e0b", func := "loop.example/golayoctads/laws.FnExactPlaneLine", spec := "fnExactPlaneLine", unfollowed := true, recurses := true, apart := false, narrowed := true }
def FnExactPlaneLineUptoSaid : Prop := fnExactPlaneLineUptoRow.holds Try.pinned (OpenSpec.upto fnExactPlaneLineSpec)

/-- 'laws.FnDodecad', WHERE WHAT IT READS IS OF BULK AT MOST 1048576: true; the input reads as it did. -/
def fnDodecadUptoRow : OpenClaim := { program := "ytffemgcffenkcaa", sum := "1a2b4fcf7ad21b85aa37828db162a8fb17a31c02cc8ef7361612ef52e83e1e0b", func := "loop.example/golayoctads/laws.FnDodecad", spec := "fnDodecad", unfollowed := true, recurses := true, apart := false, narrowed := true }
def FnDodecadUptoSaid : Prop := fnDodecadUptoRow.holds Try.pinned (OpenSpec.upto fnDodecadSpec)

/-- 'laws.FnExactPlaneOvals', WHERE WHAT IT READS IS OF BULK AT MOST 1048576: true; the input reads as it did. -/
def fnExactPlaneOvalsUptoRow : OpenClaim := { program := "ytffemgcffenkcaa", sum := "1a2b4fcf7ad21b85aa37828db162a8fb17a31c02cc8ef7361612ef52e83e1e0b", func := "loop.example/golayoctads/laws.FnExactPlaneOvals", spec := "fnExactPlaneOvals", unfollowed := true, recurses := true, apart := false, narrowed := true }
def FnExactPlaneOvalsUptoSaid : Prop := fnExactPlaneOvalsUptoRow.holds Try.pinned (OpenSpec.upto fnExactPlaneOvalsSpec)

/-- 'laws.FnExactSextetOf', WHERE WHAT IT READS IS OF BULK AT MOST 1048576: true; the input reads as it did. -/
def fnExactSextetOfUptoRow : OpenClaim := { program := "ytffemgcffenkcaa", sum := "1a2b4fcf7ad21b85aa37828db162a8fb17a31c02cc8ef7361612ef52e83e1e0b", func := "loop.example/golayoctads/laws.FnExactSextetOf", spec := "fnExactSextetOf", unfollowed := true, recurses := true, apart := false, narrowed := true }
def FnExactSextetOfUptoSaid : Prop := fnExactSextetOfUptoRow.holds Try.pinned (OpenSpec.upto fnExactSextetOfSpec)

/-- 'laws.FnExactOctadThrough', WHERE WHAT IT READS IS OF BULK AT MOST 1048576: true; the input reads as it did. -/
def fnExactOctadThroughUptoRow : OpenClaim := { program := "ytffemgcffenkcaa", sum := "1a2b4fcf7ad21b85aa37828db162a8fb17a31c02cc8ef7361612ef52e83e1e0b", func := "loop.example/golayoctads/laws.FnExactOctadThrough", spec := "fnExactOctadThrough", unfollowed := true, recurses := true, apart := false, narrowed := true }
def FnExactOctadThroughUptoSaid : Prop := fnExactOctadThroughUptoRow.holds Try.pinned (OpenSpec.upto fnExactOctadThroughSpec)

/-- 'laws.FnExactSextetSum', WHERE WHAT IT READS IS OF BULK AT MOST 1048576: true; the input reads as it did. -/
def fnExactSextetSumUptoRow : OpenClaim := { program := "ytffemgcffenkcaa", sum := "1a2b4fcf7ad21b85aa37828db162a8fb17a31c02cc8ef7361612ef52e83e1e0b", func := "loop.example/golayoctads/laws.FnExactSextetSum", spec := "fnExactSextetSum", unfollowed := true, recurses := true, apart := false, narrowed := true }
def FnExactSextetSumUptoSaid : Prop := fnExactSextetSumUptoRow.holds Try.pinned (OpenSpec.upto fnExactSextetSumSpec)

/-- 'laws.FnExactPlaneLines', WHERE WHAT IT READS IS OF BULK AT MOST 1048576: true; the input reads as it did. -/
def fnExactPlaneLinesUptoRow : OpenClaim := { program := "ytffemgcffenkcaa", sum := "1a2b4fcf7ad21b85aa37828db162a8fb17a31c02cc8ef7361612ef52e83e1e0b", func := "loop.example/golayoctads/laws.FnExactPlaneLines", spec := "fnExactPlaneLines", unfollowed := true, recurses := true, apart := false, narrowed := true }
def FnExactPlaneLinesUptoSaid : Prop := fnExactPlaneLinesUptoRow.holds Try.pinned (OpenSpec.upto fnExactPlaneLinesSpec)

/-- 'laws.FnTriangle', WHERE WHAT IT READS IS OF BULK AT MOST 1048576: true; the input reads as it did. -/
def fnTriangleUptoRow : OpenClaim := { program := "ytffemgcffenkcaa", sum := "1a2b4fcf7ad21b85aa37828db162a8fb17a31c02cc8ef7361612ef52e83e1e0b", func := "loop.example/golayoctads/laws.FnTriangle", spec := "fnTriangle", unfollowed := true, recurses := true, apart := false, narrowed := true }
def FnTriangleUptoSaid : Prop := fnTriangleUptoRow.holds Try.pinned (OpenSpec.upto fnTriangleSpec)

/-- 'laws.FnOctadCount', WHERE WHAT IT READS IS OF BULK AT MOST 1048576: true; the input reads as it did. -/
def fnOctadCountUptoRow : OpenClaim := { program := "ytffemgcffenkcaa", sum := "1a2b4fcf7ad21b85aa37828db162a8fb17a31c02cc8ef7361612ef52e83e1e0b", func := "loop.example/golayoctads/laws.FnOctadCount", spec := "fnOctadCount", unfollowed := true, recurses := true, apart := false, narrowed := true }
def FnOctadCountUptoSaid : Prop := fnOctadCountUptoRow.holds Try.pinned (OpenSpec.upto fnOctadCountSpec)

/-- 'laws.FnExactOctadList', WHERE WHAT IT READS IS OF BULK AT MOST 1048576: true; the input reads as it did. -/
def fnExactOctadListUptoRow : OpenClaim := { program := "ytffemgcffenkcaa", sum := "1a2b4fcf7ad21b85aa37828db162a8fb17a31c02cc8ef7361612ef52e83e1e0b", func := "loop.example/golayoctads/laws.FnExactOctadList", spec := "fnExactOctadList", unfollowed := true, recurses := true, apart := false, narrowed := true }
def FnExactOctadListUptoSaid : Prop := fnExactOctadListUptoRow.holds Try.pinned (OpenSpec.upto fnExactOctadListSpec)

/-- 'laws.FnExactSextetValid', WHERE WHAT IT READS IS OF BULK AT MOST 1048576: true; the input reads as it did. -/
def fnExactSextetValidUptoRow : OpenClaim := { program := "ytffemgcffenkcaa", sum := "1a2b4fcf7ad21b85aa37828db162a8fb17a31c02cc8ef7361612ef52e83e1e0b", func := "loop.example/golayoctads/laws.FnExactSextetValid", spec := "fnExactSextetValid", unfollowed := true, recurses := true, apart := false, narrowed := true }
def FnExactSextetValidUptoSaid : Prop := fnExactSextetValidUptoRow.holds Try.pinned (OpenSpec.upto fnExactSextetValidSpec)

/-- 'laws.FnExactPlaneOn', WHERE WHAT IT READS IS OF BULK AT MOST 1048576: true; the input reads as it did. -/
def fnExactPlaneOnUptoRow : OpenClaim := { program := "ytffemgcffenkcaa", sum := "1a2b4fcf7ad21b85aa37828db162a8fb17a31c02cc8ef7361612ef52e83e1e0b", func := "loop.example/golayoctads/laws.FnExactPlaneOn", spec := "fnExactPlaneOn", unfollowed := true, recurses := true, apart := false, narrowed := true }
def FnExactPlaneOnUptoSaid : Prop := fnExactPlaneOnUptoRow.holds Try.pinned (OpenSpec.upto fnExactPlaneOnSpec)

end Rows
end Go.Proofs.Ytffemgcffenkcaa
