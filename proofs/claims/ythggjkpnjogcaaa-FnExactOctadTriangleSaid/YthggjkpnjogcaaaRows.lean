/-
  No cell of these rows narrows 'for every input' (looked for: loops, veiled, ifaces, maps, wideKeys, modest, calm, conditions, laid).
  DERIVED. THE GIVEN ROWS OF THIS SEAT. 12 by the template 'for every input the law returns true; each argument reads behind the call as it read before'; 0 by the template 'total and deterministic' (their statements: YthggjkpnjogcaaaTotals.lean).
  GIVEN WITH THE SEED: the statements are not yours to turn. If you find one false, say at which input.
  Laid BY PROGRAM, IN A SANDBOX (cutbox-rows.mjs): the forced cells as the released guide's own fill.sh prints them over the translation 9e6b2bd9f1c68053… (all of the seat's roots in one cut). By AI agents, Wed Nov 11 2026. No macro, syntax, notation, axiom, sorry.
-/
import Derived.Test.YthggjkpnjogcaaaChecked
import GoSem.Claim
import GoSem.ClaimJoined
import GoSem.ClaimMapViews
import Derived.JoinedTies
import Derived.KernelRfl
namespace Go.Proofs.Ythggjkpnjogcaaa
/- THE CELL 'sum', in the pinned program and in every row, IS THE sha256 OF THE DUMP (.gsa) THAT YthggjkpnjogcaaaProg.lean LOADS. Nothing in Lean hashes anything: it is a label: what it is worth is what the hold of that sum in a sandbox is worth. -/
noncomputable def Try.pinned : Pinned := { name := "ythggjkpnjogcaaa", sum := "9e6b2bd9f1c680531f2009449cf067dd636fb363d54df925f1d549a9bce5827d", checked := Try.checked }
namespace Rows
def none {H : Type} : Left H := { results := [], args := [] }

/-- 'laws.FnDodecad': WHATEVER THE INPUT: true; the input reads as it did. -/
def fnDodecadSpec : ChangeSpec := { name := "fnDodecad", fn := fun _ => fun
  | [d] => { results := [.lit (.bool true)], args := [d] }
  | _ => none }
def fnDodecadRow : OpenClaim := { program := "ythggjkpnjogcaaa", sum := "9e6b2bd9f1c680531f2009449cf067dd636fb363d54df925f1d549a9bce5827d", func := "loop.example/golayoctads/laws.FnDodecad", spec := "fnDodecad", unfollowed := true, recurses := true, apart := false }
def FnDodecadSaid : Prop := fnDodecadRow.holds Try.pinned (OpenSpec.ofChange fnDodecadSpec)

/-- ITS FALSE NEIGHBOUR: 'it returns false'. Refute it at one input. -/
def fnDodecadWrong : ChangeSpec := { name := "fnDodecad", fn := fun _ => fun
  | [d] => { results := [.lit (.bool false)], args := [d] }
  | _ => none }
def FnDodecadWrongFalsely : Prop := fnDodecadRow.holds Try.pinned (OpenSpec.ofChange fnDodecadWrong)

/-- 'laws.FnTriangle': WHATEVER THE INPUT: true; the input reads as it did. -/
def fnTriangleSpec : ChangeSpec := { name := "fnTriangle", fn := fun _ => fun
  | [d] => { results := [.lit (.bool true)], args := [d] }
  | _ => none }
def fnTriangleRow : OpenClaim := { program := "ythggjkpnjogcaaa", sum := "9e6b2bd9f1c680531f2009449cf067dd636fb363d54df925f1d549a9bce5827d", func := "loop.example/golayoctads/laws.FnTriangle", spec := "fnTriangle", unfollowed := true, recurses := true, apart := false }
def FnTriangleSaid : Prop := fnTriangleRow.holds Try.pinned (OpenSpec.ofChange fnTriangleSpec)

/-- ITS FALSE NEIGHBOUR: 'it returns false'. Refute it at one input. -/
def fnTriangleWrong : ChangeSpec := { name := "fnTriangle", fn := fun _ => fun
  | [d] => { results := [.lit (.bool false)], args := [d] }
  | _ => none }
def FnTriangleWrongFalsely : Prop := fnTriangleRow.holds Try.pinned (OpenSpec.ofChange fnTriangleWrong)

/-- 'laws.FnOctadCount': WHATEVER THE INPUT: true; the input reads as it did. -/
def fnOctadCountSpec : ChangeSpec := { name := "fnOctadCount", fn := fun _ => fun
  | [d] => { results := [.lit (.bool true)], args := [d] }
  | _ => none }
def fnOctadCountRow : OpenClaim := { program := "ythggjkpnjogcaaa", sum := "9e6b2bd9f1c680531f2009449cf067dd636fb363d54df925f1d549a9bce5827d", func := "loop.example/golayoctads/laws.FnOctadCount", spec := "fnOctadCount", unfollowed := true, recurses := true, apart := false }
def FnOctadCountSaid : Prop := fnOctadCountRow.holds Try.pinned (OpenSpec.ofChange fnOctadCountSpec)

/-- ITS FALSE NEIGHBOUR: 'it returns false'. Refute it at one input. -/
def fnOctadCountWrong : ChangeSpec := { name := "fnOctadCount", fn := fun _ => fun
  | [d] => { results := [.lit (.bool false)], args := [d] }
  | _ => none }
def FnOctadCountWrongFalsely : Prop := fnOctadCountRow.holds Try.pinned (OpenSpec.ofChange fnOctadCountWrong)

/-- 'laws.FnExactDodecadOf': WHATEVER THE INPUT: true; the input reads as it did. -/
def fnExactDodecadOfSpec : ChangeSpec := { name := "fnExactDodecadOf", fn := fun _ => fun
  | [d] => { results := [.lit (.bool true)], args := [d] }
  | _ => none }
def fnExactDodecadOfRow : OpenClaim := { program := "ythggjkpnjogcaaa", sum := "9e6b2bd9f1c680531f2009449cf067dd636fb363d54df925f1d549a9bce5827d", func := "loop.example/golayoctads/laws.FnExactDodecadOf", spec := "fnExactDodecadOf", unfollowed := true, recurses := true, apart := false }
def FnExactDodecadOfSaid : Prop := fnExactDodecadOfRow.holds Try.pinned (OpenSpec.ofChange fnExactDodecadOfSpec)

/-- ITS FALSE NEIGHBOUR: 'it returns false'. Refute it at one input. -/
def fnExactDodecadOfWrong : ChangeSpec := { name := "fnExactDodecadOf", fn := fun _ => fun
  | [d] => { results := [.lit (.bool false)], args := [d] }
  | _ => none }
def FnExactDodecadOfWrongFalsely : Prop := fnExactDodecadOfRow.holds Try.pinned (OpenSpec.ofChange fnExactDodecadOfWrong)

/-- 'laws.FnThrough': WHATEVER THE INPUT: true; the input reads as it did. -/
def fnThroughSpec : ChangeSpec := { name := "fnThrough", fn := fun _ => fun
  | [d] => { results := [.lit (.bool true)], args := [d] }
  | _ => none }
def fnThroughRow : OpenClaim := { program := "ythggjkpnjogcaaa", sum := "9e6b2bd9f1c680531f2009449cf067dd636fb363d54df925f1d549a9bce5827d", func := "loop.example/golayoctads/laws.FnThrough", spec := "fnThrough", unfollowed := true, recurses := true, apart := false }
def FnThroughSaid : Prop := fnThroughRow.holds Try.pinned (OpenSpec.ofChange fnThroughSpec)

/-- ITS FALSE NEIGHBOUR: 'it returns false'. Refute it at one input. -/
def fnThroughWrong : ChangeSpec := { name := "fnThrough", fn := fun _ => fun
  | [d] => { results := [.lit (.bool false)], args := [d] }
  | _ => none }
def FnThroughWrongFalsely : Prop := fnThroughRow.holds Try.pinned (OpenSpec.ofChange fnThroughWrong)

/-- 'laws.FnOctadList': WHATEVER THE INPUT: true; the input reads as it did. -/
def fnOctadListSpec : ChangeSpec := { name := "fnOctadList", fn := fun _ => fun
  | [d] => { results := [.lit (.bool true)], args := [d] }
  | _ => none }
def fnOctadListRow : OpenClaim := { program := "ythggjkpnjogcaaa", sum := "9e6b2bd9f1c680531f2009449cf067dd636fb363d54df925f1d549a9bce5827d", func := "loop.example/golayoctads/laws.FnOctadList", spec := "fnOctadList", unfollowed := true, recurses := true, apart := false }
def FnOctadListSaid : Prop := fnOctadListRow.holds Try.pinned (OpenSpec.ofChange fnOctadListSpec)

/-- ITS FALSE NEIGHBOUR: 'it returns false'. Refute it at one input. -/
def fnOctadListWrong : ChangeSpec := { name := "fnOctadList", fn := fun _ => fun
  | [d] => { results := [.lit (.bool false)], args := [d] }
  | _ => none }
def FnOctadListWrongFalsely : Prop := fnOctadListRow.holds Try.pinned (OpenSpec.ofChange fnOctadListWrong)

/-- 'laws.FnOctadMeet': WHATEVER THE INPUT: true; the input reads as it did. -/
def fnOctadMeetSpec : ChangeSpec := { name := "fnOctadMeet", fn := fun _ => fun
  | [d] => { results := [.lit (.bool true)], args := [d] }
  | _ => none }
def fnOctadMeetRow : OpenClaim := { program := "ythggjkpnjogcaaa", sum := "9e6b2bd9f1c680531f2009449cf067dd636fb363d54df925f1d549a9bce5827d", func := "loop.example/golayoctads/laws.FnOctadMeet", spec := "fnOctadMeet", unfollowed := true, recurses := true, apart := false }
def FnOctadMeetSaid : Prop := fnOctadMeetRow.holds Try.pinned (OpenSpec.ofChange fnOctadMeetSpec)

/-- ITS FALSE NEIGHBOUR: 'it returns false'. Refute it at one input. -/
def fnOctadMeetWrong : ChangeSpec := { name := "fnOctadMeet", fn := fun _ => fun
  | [d] => { results := [.lit (.bool false)], args := [d] }
  | _ => none }
def FnOctadMeetWrongFalsely : Prop := fnOctadMeetRow.holds Try.pinned (OpenSpec.ofChange fnOctadMeetWrong)

/-- 'laws.FnOctad': WHATEVER THE INPUT: true; the input reads as it did. -/
def fnOctadSpec : ChangeSpec := { name := "fnOctad", fn := fun _ => fun
  | [d] => { results := [.lit (.bool true)], args := [d] }
  | _ => none }
def fnOctadRow : OpenClaim := { program := "ythggjkpnjogcaaa", sum := "9e6b2bd9f1c680531f2009449cf067dd636fb363d54df925f1d549a9bce5827d", func := "loop.example/golayoctads/laws.FnOctad", spec := "fnOctad", unfollowed := true, recurses := true, apart := false }
def FnOctadSaid : Prop := fnOctadRow.holds Try.pinned (OpenSpec.ofChange fnOctadSpec)

/-- ITS FALSE NEIGHBOUR: 'it returns false'. Refute it at one input. -/
def fnOctadWrong : ChangeSpec := { name := "fnOctad", fn := fun _ => fun
  | [d] => { results := [.lit (.bool false)], args := [d] }
  | _ => none }
def FnOctadWrongFalsely : Prop := fnOctadRow.holds Try.pinned (OpenSpec.ofChange fnOctadWrong)

/-- 'laws.FnExactOctadMeet': WHATEVER THE INPUT: true; the input reads as it did. -/
def fnExactOctadMeetSpec : ChangeSpec := { name := "fnExactOctadMeet", fn := fun _ => fun
  | [d] => { results := [.lit (.bool true)], args := [d] }
  | _ => none }
def fnExactOctadMeetRow : OpenClaim := { program := "ythggjkpnjogcaaa", sum := "9e6b2bd9f1c680531f2009449cf067dd636fb363d54df925f1d549a9bce5827d", func := "loop.example/golayoctads/laws.FnExactOctadMeet", spec := "fnExactOctadMeet", unfollowed := true, recurses := true, apart := false }
def FnExactOctadMeetSaid : Prop := fnExactOctadMeetRow.holds Try.pinned (OpenSpec.ofChange fnExactOctadMeetSpec)

/-- ITS FALSE NEIGHBOUR: 'it returns false'. Refute it at one input. -/
def fnExactOctadMeetWrong : ChangeSpec := { name := "fnExactOctadMeet", fn := fun _ => fun
  | [d] => { results := [.lit (.bool false)], args := [d] }
  | _ => none }
def FnExactOctadMeetWrongFalsely : Prop := fnExactOctadMeetRow.holds Try.pinned (OpenSpec.ofChange fnExactOctadMeetWrong)

/-- 'laws.FnExactOctadTriangle': WHATEVER THE INPUT: true; the input reads as it did. -/
def fnExactOctadTriangleSpec : ChangeSpec := { name := "fnExactOctadTriangle", fn := fun _ => fun
  | [d] => { results := [.lit (.bool true)], args := [d] }
  | _ => none }
def fnExactOctadTriangleRow : OpenClaim := { program := "ythggjkpnjogcaaa", sum := "9e6b2bd9f1c680531f2009449cf067dd636fb363d54df925f1d549a9bce5827d", func := "loop.example/golayoctads/laws.FnExactOctadTriangle", spec := "fnExactOctadTriangle", unfollowed := true, recurses := true, apart := false }
def FnExactOctadTriangleSaid : Prop := fnExactOctadTriangleRow.holds Try.pinned (OpenSpec.ofChange fnExactOctadTriangleSpec)

/-- ITS FALSE NEIGHBOUR: 'it returns false'. Refute it at one input. -/
def fnExactOctadTriangleWrong : ChangeSpec := { name := "fnExactOctadTriangle", fn := fun _ => fun
  | [d] => { results := [.lit (.bool false)], args := [d] }
  | _ => none }
def FnExactOctadTriangleWrongFalsely : Prop := fnExactOctadTriangleRow.holds Try.pinned (OpenSpec.ofChange fnExactOctadTriangleWrong)

/-- 'laws.FnMend': WHATEVER THE INPUT: true; the input reads as it did. -/
def fnMendSpec : ChangeSpec := { name := "fnMend", fn := fun _ => fun
  | [d] => { results := [.lit (.bool true)], args := [d] }
  | _ => none }
def fnMendRow : OpenClaim := { program := "ythggjkpnjogcaaa", sum := "9e6b2bd9f1c680531f2009449cf067dd636fb363d54df925f1d549a9bce5827d", func := "loop.example/golayoctads/laws.FnMend", spec := "fnMend", recurses := true, apart := false }
def FnMendSaid : Prop := fnMendRow.holds Try.pinned (OpenSpec.ofChange fnMendSpec)

/-- ITS FALSE NEIGHBOUR: 'it returns false'. Refute it at one input. -/
def fnMendWrong : ChangeSpec := { name := "fnMend", fn := fun _ => fun
  | [d] => { results := [.lit (.bool false)], args := [d] }
  | _ => none }
def FnMendWrongFalsely : Prop := fnMendRow.holds Try.pinned (OpenSpec.ofChange fnMendWrong)

/-- 'laws.FnNear': WHATEVER THE INPUT: true; the input reads as it did. -/
def fnNearSpec : ChangeSpec := { name := "fnNear", fn := fun _ => fun
  | [d] => { results := [.lit (.bool true)], args := [d] }
  | _ => none }
def fnNearRow : OpenClaim := { program := "ythggjkpnjogcaaa", sum := "9e6b2bd9f1c680531f2009449cf067dd636fb363d54df925f1d549a9bce5827d", func := "loop.example/golayoctads/laws.FnNear", spec := "fnNear", recurses := true, apart := false }
def FnNearSaid : Prop := fnNearRow.holds Try.pinned (OpenSpec.ofChange fnNearSpec)

/-- ITS FALSE NEIGHBOUR: 'it returns false'. Refute it at one input. -/
def fnNearWrong : ChangeSpec := { name := "fnNear", fn := fun _ => fun
  | [d] => { results := [.lit (.bool false)], args := [d] }
  | _ => none }
def FnNearWrongFalsely : Prop := fnNearRow.holds Try.pinned (OpenSpec.ofChange fnNearWrong)

/- THE SECOND FORM. 'bulk': how many values and letters a reading holds, each counted each time it is reached (what is shared counts as often as it is met; a slice's spare places count too). A statement '..UptoSaid' is the law's where the arguments, and the package variables that the reading takes, are together of bulk at most 1048576: NARROWER than '..Said'. Prove '..Said' where nothing that the law and all that it calls make is longer than what came in: it says more and counts as full. Else prove '..UptoSaid'. A law counts once. -/
mutual
def uptoBulk {H : Type} : DataW H → Nat
  | .lit (.string bytes) => bytes.length + 1
  | .lit _ => 1
  | .nil => 1
  | .ptr d => uptoBulk d + 1
  | .slice elems spare => uptoBulkAll elems + uptoBulkAll spare + 1
  | .agg parts => uptoBulkAll parts + 1
  | .iface _ d => uptoBulk d + 1
  | .map entries => uptoBulkEntries entries + 1
  | .held _ => 1
def uptoBulkAll {H : Type} : List (DataW H) → Nat
  | [] => 0
  | d :: r => uptoBulk d + uptoBulkAll r
def uptoBulkEntries {H : Type} : List (Lit × DataW H) → Nat
  | [] => 0
  | x :: r => uptoBulkEntry x + uptoBulkEntries r
def uptoBulkEntry {H : Type} : Lit × DataW H → Nat
  | (.string bytes, d) => bytes.length + uptoBulk d + 1
  | (_, d) => uptoBulk d + 1
 end
def uptoSmall : (H : Type) → List (DataW H) → Bool := fun _ ds => decide (uptoBulkAll ds ≤ 1048576)
def OpenSpec.upto (s : _root_.Go.ChangeSpec) : _root_.Go.OpenSpec := { _root_.Go.OpenSpec.ofChange s with cond := some uptoSmall }

/-- 'laws.FnDodecad', WHERE WHAT IT READS IS OF BULK AT MOST 1048576: true; the input reads as it did. -/
def fnDodecadUptoRow : OpenClaim := { program := "ythggjkpnjogcaaa", sum := "9e6b2bd9f1c680531f2009449cf067dd636fb363d54df925f1d549a9bce5827d", func := "loop.example/golayoctads/laws.FnDodecad", spec := "fnDodecad", unfollowed := true, recurses := true, apart := false, narrowed := true }
def FnDodecadUptoSaid : Prop := fnDodecadUptoRow.holds Try.pinned (OpenSpec.upto fnDodecadSpec)

/-- 'laws.FnTriangle', WHERE WHAT IT READS IS OF BULK AT MOST 1048576: true; the input reads as it did. -/
def fnTriangleUptoRow : OpenClaim := { program := "ythggjkpnjogcaaa", sum := "9e6b2bd9f1c680531f2009449cf067dd636fb363d54df925f1d549a9bce5827d", func := "loop.example/golayoctads/laws.FnTriangle", spec := "fnTriangle", unfollowed := true, recurses := true, apart := false, narrowed := true }
def FnTriangleUptoSaid : Prop := fnTriangleUptoRow.holds Try.pinned (OpenSpec.upto fnTriangleSpec)

/-- 'laws.FnOctadCount', WHERE WHAT IT READS IS OF BULK AT MOST 1048576: true; the input reads as it did. -/
def fnOctadCountUptoRow : OpenClaim := { program := "ythggjkpnjogcaaa", sum := "9e6b2bd9f1c680531f2009449cf067dd636fb363d54df925f1d549a9bce5827d", func := "loop.example/golayoctads/laws.FnOctadCount", spec := "fnOctadCount", unfollowed := true, recurses := true, apart := false, narrowed := true }
def FnOctadCountUptoSaid : Prop := fnOctadCountUptoRow.holds Try.pinned (OpenSpec.upto fnOctadCountSpec)

/-- 'laws.FnExactDodecadOf', WHERE WHAT IT READS IS OF BULK AT MOST 1048576: true; the input reads as it did. -/
def fnExactDodecadOfUptoRow : OpenClaim := { program := "ythggjkpnjogcaaa", sum := "9e6b2bd9f1c680531f2009449cf067dd636fb363d54df925f1d549a9bce5827d", func := "loop.example/golayoctads/laws.FnExactDodecadOf", spec := "fnExactDodecadOf", unfollowed := true, recurses := true, apart := false, narrowed := true }
def FnExactDodecadOfUptoSaid : Prop := fnExactDodecadOfUptoRow.holds Try.pinned (OpenSpec.upto fnExactDodecadOfSpec)

/-- 'laws.FnThrough', WHERE WHAT IT READS IS OF BULK AT MOST 1048576: true; the input reads as it did. -/
def fnThroughUptoRow : OpenClaim := { program := "ythggjkpnjogcaaa", sum := "9e6b2bd9f1c680531f2009449cf067dd636fb363d54df925f1d549a9bce5827d", func := "loop.example/golayoctads/laws.FnThrough", spec := "fnThrough", unfollowed := true, recurses := true, apart := false, narrowed := true }
def FnThroughUptoSaid : Prop := fnThroughUptoRow.holds Try.pinned (OpenSpec.upto fnThroughSpec)

/-- 'laws.FnOctadList', WHERE WHAT IT READS IS OF BULK AT MOST 1048576: true; the input reads as it did. -/
def fnOctadListUptoRow : OpenClaim := { program := "ythggjkpnjogcaaa", sum := "9e6b2bd9f1c680531f2009449cf067dd636fb363d54df925f1d549a9bce5827d", func := "loop.example/golayoctads/laws.FnOctadList", spec := "fnOctadList", unfollowed := true, recurses := true, apart := false, narrowed := true }
def FnOctadListUptoSaid : Prop := fnOctadListUptoRow.holds Try.pinned (OpenSpec.upto fnOctadListSpec)

/-- 'laws.FnOctadMeet', WHERE WHAT IT READS IS OF BULK AT MOST 1048576: true; the input reads as it did. -/
def fnOctadMeetUptoRow : OpenClaim := { program := "ythggjkpnjogcaaa", sum := "9e6b2bd9f1c680531f2009449cf067dd636fb363d54df925f1d549a9bce5827d", func := "loop.example/golayoctads/laws.FnOctadMeet", spec := "fnOctadMeet", unfollowed := true, recurses := true, apart := false, narrowed := true }
def FnOctadMeetUptoSaid : Prop := fnOctadMeetUptoRow.holds Try.pinned (OpenSpec.upto fnOctadMeetSpec)

/-- 'laws.FnOctad', WHERE WHAT IT READS IS OF BULK AT MOST 1048576: true; the input reads as it did. -/
def fnOctadUptoRow : OpenClaim := { program := "ythggjkpnjogcaaa", sum := "9e6b2bd9f1c680531f2009449cf067dd636fb363d54df925f1d549a9bce5827d", func := "loop.example/golayoctads/laws.FnOctad", spec := "fnOctad", unfollowed := true, recurses := true, apart := false, narrowed := true }
def FnOctadUptoSaid : Prop := fnOctadUptoRow.holds Try.pinned (OpenSpec.upto fnOctadSpec)

/-- 'laws.FnExactOctadMeet', WHERE WHAT IT READS IS OF BULK AT MOST 1048576: true; the input reads as it did. -/
def fnExactOctadMeetUptoRow : OpenClaim := { program := "ythggjkpnjogcaaa", sum := "9e6b2bd9f1c680531f2009449cf067dd636fb363d54df925f1d549a9bce5827d", func := "loop.example/golayoctads/laws.FnExactOctadMeet", spec := "fnExactOctadMeet", unfollowed := true, recurses := true, apart := false, narrowed := true }
def FnExactOctadMeetUptoSaid : Prop := fnExactOctadMeetUptoRow.holds Try.pinned (OpenSpec.upto fnExactOctadMeetSpec)

/-- 'laws.FnExactOctadTriangle', WHERE WHAT IT READS IS OF BULK AT MOST 1048576: true; the input reads as it did. -/
def fnExactOctadTriangleUptoRow : OpenClaim := { program := "ythggjkpnjogcaaa", sum := "9e6b2bd9f1c680531f2009449cf067dd636fb363d54df925f1d549a9bce5827d", func := "loop.example/golayoctads/laws.FnExactOctadTriangle", spec := "fnExactOctadTriangle", unfollowed := true, recurses := true, apart := false, narrowed := true }
def FnExactOctadTriangleUptoSaid : Prop := fnExactOctadTriangleUptoRow.holds Try.pinned (OpenSpec.upto fnExactOctadTriangleSpec)

/-- 'laws.FnMend', WHERE WHAT IT READS IS OF BULK AT MOST 1048576: true; the input reads as it did. -/
def fnMendUptoRow : OpenClaim := { program := "ythggjkpnjogcaaa", sum := "9e6b2bd9f1c680531f2009449cf067dd636fb363d54df925f1d549a9bce5827d", func := "loop.example/golayoctads/laws.FnMend", spec := "fnMend", recurses := true, apart := false, narrowed := true }
def FnMendUptoSaid : Prop := fnMendUptoRow.holds Try.pinned (OpenSpec.upto fnMendSpec)

/-- 'laws.FnNear', WHERE WHAT IT READS IS OF BULK AT MOST 1048576: true; the input reads as it did. -/
def fnNearUptoRow : OpenClaim := { program := "ythggjkpnjogcaaa", sum := "9e6b2bd9f1c680531f2009449cf067dd636fb363d54df925f1d549a9bce5827d", func := "loop.example/golayoctads/laws.FnNear", spec := "fnNear", recurses := true, apart := false, narrowed := true }
def FnNearUptoSaid : Prop := fnNearUptoRow.holds Try.pinned (OpenSpec.upto fnNearSpec)

end Rows
end Go.Proofs.Ythggjkpnjogcaaa
