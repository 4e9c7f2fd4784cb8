/-
  No cell of these rows narrows 'for every input' (looked for: loops, veiled, ifaces, maps, wideKeys, modest, calm, conditions, laid).
  DERIVED. THE GIVEN ROWS OF THIS SEAT. 11 by the template 'for every input the law returns true; each argument reads behind the call as it read before'; 0 by the template 'total and deterministic' (their statements: YtbpgaphcpgfafaaTotals.lean).
  GIVEN WITH THE SEED: the statements are not yours to turn. If you find one false, say at which input.
  Laid BY PROGRAM, IN A SANDBOX (cutbox-rows.mjs): the forced cells as the released guide's own fill.sh prints them over the translation 0ecd568a6e438539… (all of the seat's roots in one cut). By AI agents, Wed Nov 11 2026. No macro, syntax, notation, axiom, sorry.
-/
import Derived.Test.YtbpgaphcpgfafaaChecked
import GoSem.Claim
import GoSem.ClaimJoined
import GoSem.ClaimMapViews
import Derived.JoinedTies
import Derived.KernelRfl
namespace Go.Proofs.Ytbpgaphcpgfafaa
/- THE CELL 'sum', in the pinned program and in every row, IS THE sha256 OF THE DUMP (.gsa) THAT YtbpgaphcpgfafaaProg.lean LOADS. Nothing in Lean hashes anything: it is a label: what it is worth is what the hold of that sum in a sandbox is worth. -/
noncomputable def Try.pinned : Pinned := { name := "ytbpgaphcpgfafaa", sum := "0ecd568a6e438539649a54e574634109e5c8863d8712429c691631a8fdbfaa88", checked := Try.checked }
namespace Rows
def none {H : Type} : Left H := { results := [], args := [] }

/-- 'laws.FnHolds': WHATEVER THE INPUT: true; the input reads as it did. -/
def fnHoldsSpec : ChangeSpec := { name := "fnHolds", fn := fun _ => fun
  | [d] => { results := [.lit (.bool true)], args := [d] }
  | _ => none }
def fnHoldsRow : OpenClaim := { program := "ytbpgaphcpgfafaa", sum := "0ecd568a6e438539649a54e574634109e5c8863d8712429c691631a8fdbfaa88", func := "loop.example/golayoctads/laws.FnHolds", spec := "fnHolds", unfollowed := true, recurses := true, apart := false }
def FnHoldsSaid : Prop := fnHoldsRow.holds Try.pinned (OpenSpec.ofChange fnHoldsSpec)

/-- ITS FALSE NEIGHBOUR: 'it returns false'. Refute it at one input. -/
def fnHoldsWrong : ChangeSpec := { name := "fnHolds", fn := fun _ => fun
  | [d] => { results := [.lit (.bool false)], args := [d] }
  | _ => none }
def FnHoldsWrongFalsely : Prop := fnHoldsRow.holds Try.pinned (OpenSpec.ofChange fnHoldsWrong)

/-- 'laws.FnExactSextetOctads': WHATEVER THE INPUT: true; the input reads as it did. -/
def fnExactSextetOctadsSpec : ChangeSpec := { name := "fnExactSextetOctads", fn := fun _ => fun
  | [d] => { results := [.lit (.bool true)], args := [d] }
  | _ => none }
def fnExactSextetOctadsRow : OpenClaim := { program := "ytbpgaphcpgfafaa", sum := "0ecd568a6e438539649a54e574634109e5c8863d8712429c691631a8fdbfaa88", func := "loop.example/golayoctads/laws.FnExactSextetOctads", spec := "fnExactSextetOctads", unfollowed := true, recurses := true, apart := false }
def FnExactSextetOctadsSaid : Prop := fnExactSextetOctadsRow.holds Try.pinned (OpenSpec.ofChange fnExactSextetOctadsSpec)

/-- ITS FALSE NEIGHBOUR: 'it returns false'. Refute it at one input. -/
def fnExactSextetOctadsWrong : ChangeSpec := { name := "fnExactSextetOctads", fn := fun _ => fun
  | [d] => { results := [.lit (.bool false)], args := [d] }
  | _ => none }
def FnExactSextetOctadsWrongFalsely : Prop := fnExactSextetOctadsRow.holds Try.pinned (OpenSpec.ofChange fnExactSextetOctadsWrong)

/-- 'laws.FnExactSextetHolds': WHATEVER THE INPUT: true; the input reads as it did. -/
def fnExactSextetHoldsSpec : ChangeSpec := { name := "fnExactSextetHolds", fn := fun _ => fun
  | [d1, d2] => { results := [.lit (.bool true)], args := [d1, d2] }
  | _ => none }
def fnExactSextetHoldsRow : OpenClaim := { program := "ytbpgaphcpgfafaa", sum := "0ecd568a6e438539649a54e574634109e5c8863d8712429c691631a8fdbfaa88", func := "loop.example/golayoctads/laws.FnExactSextetHolds", spec := "fnExactSextetHolds", unfollowed := true, recurses := true, apart := false }
def FnExactSextetHoldsSaid : Prop := fnExactSextetHoldsRow.holds Try.pinned (OpenSpec.ofChange fnExactSextetHoldsSpec)

/-- ITS FALSE NEIGHBOUR: 'it returns false'. Refute it at one input. -/
def fnExactSextetHoldsWrong : ChangeSpec := { name := "fnExactSextetHolds", fn := fun _ => fun
  | [d1, d2] => { results := [.lit (.bool false)], args := [d1, d2] }
  | _ => none }
def FnExactSextetHoldsWrongFalsely : Prop := fnExactSextetHoldsRow.holds Try.pinned (OpenSpec.ofChange fnExactSextetHoldsWrong)

/-- 'laws.FnExactSextetTable': WHATEVER THE INPUT: true; the input reads as it did. -/
def fnExactSextetTableSpec : ChangeSpec := { name := "fnExactSextetTable", fn := fun _ => fun
  | [d1, d2] => { results := [.lit (.bool true)], args := [d1, d2] }
  | _ => none }
def fnExactSextetTableRow : OpenClaim := { program := "ytbpgaphcpgfafaa", sum := "0ecd568a6e438539649a54e574634109e5c8863d8712429c691631a8fdbfaa88", func := "loop.example/golayoctads/laws.FnExactSextetTable", spec := "fnExactSextetTable", unfollowed := true, recurses := true, apart := false }
def FnExactSextetTableSaid : Prop := fnExactSextetTableRow.holds Try.pinned (OpenSpec.ofChange fnExactSextetTableSpec)

/-- ITS FALSE NEIGHBOUR: 'it returns false'. Refute it at one input. -/
def fnExactSextetTableWrong : ChangeSpec := { name := "fnExactSextetTable", fn := fun _ => fun
  | [d1, d2] => { results := [.lit (.bool false)], args := [d1, d2] }
  | _ => none }
def FnExactSextetTableWrongFalsely : Prop := fnExactSextetTableRow.holds Try.pinned (OpenSpec.ofChange fnExactSextetTableWrong)

/-- 'laws.FnExactSextetKind': WHATEVER THE INPUT: true; the input reads as it did. -/
def fnExactSextetKindSpec : ChangeSpec := { name := "fnExactSextetKind", fn := fun _ => fun
  | [d1, d2] => { results := [.lit (.bool true)], args := [d1, d2] }
  | _ => none }
def fnExactSextetKindRow : OpenClaim := { program := "ytbpgaphcpgfafaa", sum := "0ecd568a6e438539649a54e574634109e5c8863d8712429c691631a8fdbfaa88", func := "loop.example/golayoctads/laws.FnExactSextetKind", spec := "fnExactSextetKind", unfollowed := true, recurses := true, apart := false }
def FnExactSextetKindSaid : Prop := fnExactSextetKindRow.holds Try.pinned (OpenSpec.ofChange fnExactSextetKindSpec)

/-- ITS FALSE NEIGHBOUR: 'it returns false'. Refute it at one input. -/
def fnExactSextetKindWrong : ChangeSpec := { name := "fnExactSextetKind", fn := fun _ => fun
  | [d1, d2] => { results := [.lit (.bool false)], args := [d1, d2] }
  | _ => none }
def FnExactSextetKindWrongFalsely : Prop := fnExactSextetKindRow.holds Try.pinned (OpenSpec.ofChange fnExactSextetKindWrong)

/-- 'laws.FnSextetValid': WHATEVER THE INPUT: true; the input reads as it did. -/
def fnSextetValidSpec : ChangeSpec := { name := "fnSextetValid", fn := fun _ => fun
  | [d] => { results := [.lit (.bool true)], args := [d] }
  | _ => none }
def fnSextetValidRow : OpenClaim := { program := "ytbpgaphcpgfafaa", sum := "0ecd568a6e438539649a54e574634109e5c8863d8712429c691631a8fdbfaa88", func := "loop.example/golayoctads/laws.FnSextetValid", spec := "fnSextetValid", unfollowed := true, recurses := true, apart := false }
def FnSextetValidSaid : Prop := fnSextetValidRow.holds Try.pinned (OpenSpec.ofChange fnSextetValidSpec)

/-- ITS FALSE NEIGHBOUR: 'it returns false'. Refute it at one input. -/
def fnSextetValidWrong : ChangeSpec := { name := "fnSextetValid", fn := fun _ => fun
  | [d] => { results := [.lit (.bool false)], args := [d] }
  | _ => none }
def FnSextetValidWrongFalsely : Prop := fnSextetValidRow.holds Try.pinned (OpenSpec.ofChange fnSextetValidWrong)

/-- 'laws.FnSextetSum': WHATEVER THE INPUT: true; the input reads as it did. -/
def fnSextetSumSpec : ChangeSpec := { name := "fnSextetSum", fn := fun _ => fun
  | [d] => { results := [.lit (.bool true)], args := [d] }
  | _ => none }
def fnSextetSumRow : OpenClaim := { program := "ytbpgaphcpgfafaa", sum := "0ecd568a6e438539649a54e574634109e5c8863d8712429c691631a8fdbfaa88", func := "loop.example/golayoctads/laws.FnSextetSum", spec := "fnSextetSum", unfollowed := true, recurses := true, apart := false }
def FnSextetSumSaid : Prop := fnSextetSumRow.holds Try.pinned (OpenSpec.ofChange fnSextetSumSpec)

/-- ITS FALSE NEIGHBOUR: 'it returns false'. Refute it at one input. -/
def fnSextetSumWrong : ChangeSpec := { name := "fnSextetSum", fn := fun _ => fun
  | [d] => { results := [.lit (.bool false)], args := [d] }
  | _ => none }
def FnSextetSumWrongFalsely : Prop := fnSextetSumRow.holds Try.pinned (OpenSpec.ofChange fnSextetSumWrong)

/-- 'laws.FnSextet': WHATEVER THE INPUT: true; the input reads as it did. -/
def fnSextetSpec : ChangeSpec := { name := "fnSextet", fn := fun _ => fun
  | [d] => { results := [.lit (.bool true)], args := [d] }
  | _ => none }
def fnSextetRow : OpenClaim := { program := "ytbpgaphcpgfafaa", sum := "0ecd568a6e438539649a54e574634109e5c8863d8712429c691631a8fdbfaa88", func := "loop.example/golayoctads/laws.FnSextet", spec := "fnSextet", unfollowed := true, recurses := true, apart := false }
def FnSextetSaid : Prop := fnSextetRow.holds Try.pinned (OpenSpec.ofChange fnSextetSpec)

/-- ITS FALSE NEIGHBOUR: 'it returns false'. Refute it at one input. -/
def fnSextetWrong : ChangeSpec := { name := "fnSextet", fn := fun _ => fun
  | [d] => { results := [.lit (.bool false)], args := [d] }
  | _ => none }
def FnSextetWrongFalsely : Prop := fnSextetRow.holds Try.pinned (OpenSpec.ofChange fnSextetWrong)

/-- 'laws.FnTable': WHATEVER THE INPUT: true; the input reads as it did. -/
def fnTableSpec : ChangeSpec := { name := "fnTable", fn := fun _ => fun
  | [d] => { results := [.lit (.bool true)], args := [d] }
  | _ => none }
def fnTableRow : OpenClaim := { program := "ytbpgaphcpgfafaa", sum := "0ecd568a6e438539649a54e574634109e5c8863d8712429c691631a8fdbfaa88", func := "loop.example/golayoctads/laws.FnTable", spec := "fnTable", unfollowed := true, recurses := true, apart := false }
def FnTableSaid : Prop := fnTableRow.holds Try.pinned (OpenSpec.ofChange fnTableSpec)

/-- ITS FALSE NEIGHBOUR: 'it returns false'. Refute it at one input. -/
def fnTableWrong : ChangeSpec := { name := "fnTable", fn := fun _ => fun
  | [d] => { results := [.lit (.bool false)], args := [d] }
  | _ => none }
def FnTableWrongFalsely : Prop := fnTableRow.holds Try.pinned (OpenSpec.ofChange fnTableWrong)

/-- 'laws.FnSextetOctads': WHATEVER THE INPUT: true; the input reads as it did. -/
def fnSextetOctadsSpec : ChangeSpec := { name := "fnSextetOctads", fn := fun _ => fun
  | [d] => { results := [.lit (.bool true)], args := [d] }
  | _ => none }
def fnSextetOctadsRow : OpenClaim := { program := "ytbpgaphcpgfafaa", sum := "0ecd568a6e438539649a54e574634109e5c8863d8712429c691631a8fdbfaa88", func := "loop.example/golayoctads/laws.FnSextetOctads", spec := "fnSextetOctads", unfollowed := true, recurses := true, apart := false }
def FnSextetOctadsSaid : Prop := fnSextetOctadsRow.holds Try.pinned (OpenSpec.ofChange fnSextetOctadsSpec)

/-- ITS FALSE NEIGHBOUR: 'it returns false'. Refute it at one input. -/
def fnSextetOctadsWrong : ChangeSpec := { name := "fnSextetOctads", fn := fun _ => fun
  | [d] => { results := [.lit (.bool false)], args := [d] }
  | _ => none }
def FnSextetOctadsWrongFalsely : Prop := fnSextetOctadsRow.holds Try.pinned (OpenSpec.ofChange fnSextetOctadsWrong)

/-- 'laws.FnKind': WHATEVER THE INPUT: true; the input reads as it did. -/
def fnKindSpec : ChangeSpec := { name := "fnKind", fn := fun _ => fun
  | [d] => { results := [.lit (.bool true)], args := [d] }
  | _ => none }
def fnKindRow : OpenClaim := { program := "ytbpgaphcpgfafaa", sum := "0ecd568a6e438539649a54e574634109e5c8863d8712429c691631a8fdbfaa88", func := "loop.example/golayoctads/laws.FnKind", spec := "fnKind", unfollowed := true, recurses := true, apart := false }
def FnKindSaid : Prop := fnKindRow.holds Try.pinned (OpenSpec.ofChange fnKindSpec)

/-- ITS FALSE NEIGHBOUR: 'it returns false'. Refute it at one input. -/
def fnKindWrong : ChangeSpec := { name := "fnKind", fn := fun _ => fun
  | [d] => { results := [.lit (.bool false)], args := [d] }
  | _ => none }
def FnKindWrongFalsely : Prop := fnKindRow.holds Try.pinned (OpenSpec.ofChange fnKindWrong)

/- THE SECOND FORM. 'bulk': how many values and letters a reading holds, each counted each time it is reached (what is shared counts as often as it is met; a slice's spare places count too). A statement '..UptoSaid' is the law's where the arguments, and the package variables that the reading takes, are together of bulk at most 1048576: NARROWER than '..Said'. Prove '..Said' where nothing that the law and all that it calls make is longer than what came in: it says more and counts as full. Else prove '..UptoSaid'. A law counts once. -/
mutual
def uptoBulk {H : Type} : DataW H → Nat
  | .lit (.string bytes) => bytes.length + 1
  | .lit _ => 1
  | .nil => 1
  | .ptr d => uptoBulk d + 1
  | .slice elems spare => uptoBulkAll elems + uptoBulkAll spare + 1
  | .agg parts => uptoBulkAll parts + 1
  | .iface _ d => uptoBulk d + 1
  | .map entries => uptoBulkEntries entries + 1
  | .held _ => 1
def uptoBulkAll {H : Type} : List (DataW H) → Nat
  | [] => 0
  | d :: r => uptoBulk d + uptoBulkAll r
def uptoBulkEntries {H : Type} : List (Lit × DataW H) → Nat
  | [] => 0
  | x :: r => uptoBulkEntry x + uptoBulkEntries r
def uptoBulkEntry {H : Type} : Lit × DataW H → Nat
  | (.string bytes, d) => bytes.length + uptoBulk d + 1
  | (_, d) => uptoBulk d + 1
 end
def uptoSmall : (H : Type) → List (DataW H) → Bool := fun _ ds => decide (uptoBulkAll ds ≤ 1048576)
def OpenSpec.upto (s : _root_.Go.ChangeSpec) : _root_.Go.OpenSpec := { _root_.Go.OpenSpec.ofChange s with cond := some uptoSmall }

/-- 'laws.FnHolds', WHERE WHAT IT READS IS OF BULK AT MOST 1048576: true; the input reads as it did. -/
def fnHoldsUptoRow : OpenClaim := { program := "ytbpgaphcpgfafaa", sum := "0ecd568a6e438539649a54e574634109e5c8863d8712429c691631a8fdbfaa88", func := "loop.example/golayoctads/laws.FnHolds", spec := "fnHolds", unfollowed := true, recurses := true, apart := false, narrowed := true }
def FnHoldsUptoSaid : Prop := fnHoldsUptoRow.holds Try.pinned (OpenSpec.upto fnHoldsSpec)

/-- 'laws.FnExactSextetOctads', WHERE WHAT IT READS IS OF BULK AT MOST 1048576: true; the input reads as it did. -/
def fnExactSextetOctadsUptoRow : OpenClaim := { program := "ytbpgaphcpgfafaa", sum := "0ecd568a6e438539649a54e574634109e5c8863d8712429c691631a8fdbfaa88", func := "loop.example/golayoctads/laws.FnExactSextetOctads", spec := "fnExactSextetOctads", unfollowed := true, recurses := true, apart := false, narrowed := true }
def FnExactSextetOctadsUptoSaid : Prop := fnExactSextetOctadsUptoRow.holds Try.pinned (OpenSpec.upto fnExactSextetOctadsSpec)

/-- 'laws.FnExactSextetHolds', WHERE WHAT IT READS IS OF BULK AT MOST 1048576: true; the input reads as it did. -/
def fnExactSextetHoldsUptoRow : OpenClaim := { program := "ytbpgaphcpgfafaa", sum := "0ecd568a6e438539649a54e574634109e5c8863d8712429c691631a8fdbfaa88", func := "loop.example/golayoctads/laws.FnExactSextetHolds", spec := "fnExactSextetHolds", unfollowed := true, recurses := true, apart := false, narrowed := true }
def FnExactSextetHoldsUptoSaid : Prop := fnExactSextetHoldsUptoRow.holds Try.pinned (OpenSpec.upto fnExactSextetHoldsSpec)

/-- 'laws.FnExactSextetTable', WHERE WHAT IT READS IS OF BULK AT MOST 1048576: true; the input reads as it did. -/
def fnExactSextetTableUptoRow : OpenClaim := { program := "ytbpgaphcpgfafaa", sum := "0ecd568a6e438539649a54e574634109e5c8863d8712429c691631a8fdbfaa88", func := "loop.example/golayoctads/laws.FnExactSextetTable", spec := "fnExactSextetTable", unfollowed := true, recurses := true, apart := false, narrowed := true }
def FnExactSextetTableUptoSaid : Prop := fnExactSextetTableUptoRow.holds Try.pinned (OpenSpec.upto fnExactSextetTableSpec)

/-- 'laws.FnExactSextetKind', WHERE WHAT IT READS IS OF BULK AT MOST 1048576: true; the input reads as it did. -/
def fnExactSextetKindUptoRow : OpenClaim := { program := "ytbpgaphcpgfafaa", sum := "0ecd568a6e438539649a54e574634109e5c8863d8712429c691631a8fdbfaa88", func := "loop.example/golayoctads/laws.FnExactSextetKind", spec := "fnExactSextetKind", unfollowed := true, recurses := true, apart := false, narrowed := true }
def FnExactSextetKindUptoSaid : Prop := fnExactSextetKindUptoRow.holds Try.pinned (OpenSpec.upto fnExactSextetKindSpec)

/-- 'laws.FnSextetValid', WHERE WHAT IT READS IS OF BULK AT MOST 1048576: true; the input reads as it did. -/
def fnSextetValidUptoRow : OpenClaim := { program := "ytbpgaphcpgfafaa", sum := "0ecd568a6e438539649a54e574634109e5c8863d8712429c691631a8fdbfaa88", func := "loop.example/golayoctads/laws.FnSextetValid", spec := "fnSextetValid", unfollowed := true, recurses := true, apart := false, narrowed := true }
def FnSextetValidUptoSaid : Prop := fnSextetValidUptoRow.holds Try.pinned (OpenSpec.upto fnSextetValidSpec)

/-- 'laws.FnSextetSum', WHERE WHAT IT READS IS OF BULK AT MOST 1048576: true; the input reads as it did. -/
def fnSextetSumUptoRow : OpenClaim := { program := "ytbpgaphcpgfafaa", sum := "0ecd568a6e438539649a54e574634109e5c8863d8712429c691631a8fdbfaa88", func := "loop.example/golayoctads/laws.FnSextetSum", spec := "fnSextetSum", unfollowed := true, recurses := true, apart := false, narrowed := true }
def FnSextetSumUptoSaid : Prop := fnSextetSumUptoRow.holds Try.pinned (OpenSpec.upto fnSextetSumSpec)

/-- 'laws.FnSextet', WHERE WHAT IT READS IS OF BULK AT MOST 1048576: true; the input reads as it did. -/
def fnSextetUptoRow : OpenClaim := { program := "ytbpgaphcpgfafaa", sum := "0ecd568a6e438539649a54e574634109e5c8863d8712429c691631a8fdbfaa88", func := "loop.example/golayoctads/laws.FnSextet", spec := "fnSextet", unfollowed := true, recurses := true, apart := false, narrowed := true }
def FnSextetUptoSaid : Prop := fnSextetUptoRow.holds Try.pinned (OpenSpec.upto fnSextetSpec)

/-- 'laws.FnTable', WHERE WHAT IT READS IS OF BULK AT MOST 1048576: true; the input reads as it did. -/
def fnTableUptoRow : OpenClaim := { program := "ytbpgaphcpgfafaa", sum := "0ecd568a6e438539649a54e574634109e5c8863d8712429c691631a8fdbfaa88", func := "loop.example/golayoctads/laws.FnTable", spec := "fnTable", unfollowed := true, recurses := true, apart := false, narrowed := true }
def FnTableUptoSaid : Prop := fnTableUptoRow.holds Try.pinned (OpenSpec.upto fnTableSpec)

/-- 'laws.FnSextetOctads', WHERE WHAT IT READS IS OF BULK AT MOST 1048576: true; the input reads as it did. -/
def fnSextetOctadsUptoRow : OpenClaim := { program := "ytbpgaphcpgfafaa", sum := "0ecd568a6e438539649a54e574634109e5c8863d8712429c691631a8fdbfaa88", func := "loop.example/golayoctads/laws.FnSextetOctads", spec := "fnSextetOctads", unfollowed := true, recurses := true, apart := false, narrowed := true }
def FnSextetOctadsUptoSaid : Prop := fnSextetOctadsUptoRow.holds Try.pinned (OpenSpec.upto fnSextetOctadsSpec)

/-- 'laws.FnKind', WHERE WHAT IT READS IS OF BULK AT MOST 1048576: true; the input reads as it did. -/
def fnKindUptoRow : OpenClaim := { program := "ytbpgaphcpgfafaa", sum := "0ecd568a6e438539649a54e574634109e5c8863d8712429c691631a8fdbfaa88", func := "loop.example/golayoctads/laws.FnKind", spec := "fnKind", unfollowed := true, recurses := true, apart := false, narrowed := true }
def FnKindUptoSaid : Prop := fnKindUptoRow.holds Try.pinned (OpenSpec.upto fnKindSpec)

end Rows
end Go.Proofs.Ytbpgaphcpgfafaa
