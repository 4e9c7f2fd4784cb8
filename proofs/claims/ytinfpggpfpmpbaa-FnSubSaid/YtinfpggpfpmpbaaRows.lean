/-
  No cell of these rows narrows 'for every input' (looked for: loops, veiled, ifaces, maps, wideKeys, modest, calm, conditions, laid).
  DERIVED. THE GIVEN ROWS OF THIS SEAT. 12 by the template 'for every input the law returns true; each argument reads behind the call as it read before'; 0 by the template 'total and deterministic' (their statements: YtinfpggpfpmpbaaTotals.lean).
  GIVEN WITH THE SEED: the statements are not yours to turn. If you find one false, say at which input.
  Laid BY PROGRAM, IN A SANDBOX (cutbox-rows.mjs): the forced cells as the released guide's own fill.sh prints them over the translation efceee2d48999e71… (all of the seat's roots in one cut). By AI agents, Wed Nov 11 2026. No macro, syntax, notation, axiom, sorry.
-/
import Derived.Test.YtinfpggpfpmpbaaChecked
import GoSem.Claim
import GoSem.ClaimJoined
import GoSem.ClaimMapViews
import Derived.JoinedTies
import Derived.KernelRfl
namespace Go.Proofs.Ytinfpggpfpmpbaa
/- THE CELL 'sum', in the pinned program and in every row, IS THE sha256 OF THE DUMP (.gsa) THAT YtinfpggpfpmpbaaProg.lean LOADS. Nothing in Lean hashes anything: it is a label: what it is worth is what the hold of that sum in a sandbox is worth. -/
noncomputable def Try.pinned : Pinned := { name := "ytinfpggpfpmpbaa", sum := "efceee2d48999e711b5fd45c6a258176dadd3f3e0a263b2f804ffde71435929f", checked := Try.checked }
namespace Rows
def none {H : Type} : Left H := { results := [], args := [] }

/-- 'laws.FnExactPlaneOvals': WHATEVER THE INPUT: true; the input reads as it did. -/
def fnExactPlaneOvalsSpec : ChangeSpec := { name := "fnExactPlaneOvals", fn := fun _ => fun
  | [d1, d2, d3] => { results := [.lit (.bool true)], args := [d1, d2, d3] }
  | _ => none }
def fnExactPlaneOvalsRow : OpenClaim := { program := "ytinfpggpfpmpbaa", sum := "efceee2d48999e711b5fd45c6a258176dadd3f3e0a263b2f804ffde71435929f", func := "loop.example/golayoctads/laws.FnExactPlaneOvals", spec := "fnExactPlaneOvals", unfollowed := true, recurses := true, apart := false }
def FnExactPlaneOvalsSaid : Prop := fnExactPlaneOvalsRow.holds Try.pinned (OpenSpec.ofChange fnExactPlaneOvalsSpec)

/-- ITS FALSE NEIGHBOUR: 'it returns false'. Refute it at one input. -/
def fnExactPlaneOvalsWrong : ChangeSpec := { name := "fnExactPlaneOvals", fn := fun _ => fun
  | [d1, d2, d3] => { results := [.lit (.bool false)], args := [d1, d2, d3] }
  | _ => none }
def FnExactPlaneOvalsWrongFalsely : Prop := fnExactPlaneOvalsRow.holds Try.pinned (OpenSpec.ofChange fnExactPlaneOvalsWrong)

/-- 'laws.FnExactPlanePoint': WHATEVER THE INPUT: true; the input reads as it did. -/
def fnExactPlanePointSpec : ChangeSpec := { name := "fnExactPlanePoint", fn := fun _ => fun
  | [d1, d2, d3] => { results := [.lit (.bool true)], args := [d1, d2, d3] }
  | _ => none }
def fnExactPlanePointRow : OpenClaim := { program := "ytinfpggpfpmpbaa", sum := "efceee2d48999e711b5fd45c6a258176dadd3f3e0a263b2f804ffde71435929f", func := "loop.example/golayoctads/laws.FnExactPlanePoint", spec := "fnExactPlanePoint", unfollowed := true, recurses := true, apart := false }
def FnExactPlanePointSaid : Prop := fnExactPlanePointRow.holds Try.pinned (OpenSpec.ofChange fnExactPlanePointSpec)

/-- ITS FALSE NEIGHBOUR: 'it returns false'. Refute it at one input. -/
def fnExactPlanePointWrong : ChangeSpec := { name := "fnExactPlanePoint", fn := fun _ => fun
  | [d1, d2, d3] => { results := [.lit (.bool false)], args := [d1, d2, d3] }
  | _ => none }
def FnExactPlanePointWrongFalsely : Prop := fnExactPlanePointRow.holds Try.pinned (OpenSpec.ofChange fnExactPlanePointWrong)

/-- 'laws.FnExactPlaneFour': WHATEVER THE INPUT: true; the input reads as it did. -/
def fnExactPlaneFourSpec : ChangeSpec := { name := "fnExactPlaneFour", fn := fun _ => fun
  | [d1, d2] => { results := [.lit (.bool true)], args := [d1, d2] }
  | _ => none }
def fnExactPlaneFourRow : OpenClaim := { program := "ytinfpggpfpmpbaa", sum := "efceee2d48999e711b5fd45c6a258176dadd3f3e0a263b2f804ffde71435929f", func := "loop.example/golayoctads/laws.FnExactPlaneFour", spec := "fnExactPlaneFour", unfollowed := true, recurses := true, apart := false }
def FnExactPlaneFourSaid : Prop := fnExactPlaneFourRow.holds Try.pinned (OpenSpec.ofChange fnExactPlaneFourSpec)

/-- ITS FALSE NEIGHBOUR: 'it returns false'. Refute it at one input. -/
def fnExactPlaneFourWrong : ChangeSpec := { name := "fnExactPlaneFour", fn := fun _ => fun
  | [d1, d2] => { results := [.lit (.bool false)], args := [d1, d2] }
  | _ => none }
def FnExactPlaneFourWrongFalsely : Prop := fnExactPlaneFourRow.holds Try.pinned (OpenSpec.ofChange fnExactPlaneFourWrong)

/-- 'laws.FnExactPlaneSub': WHATEVER THE INPUT: true; the input reads as it did. -/
def fnExactPlaneSubSpec : ChangeSpec := { name := "fnExactPlaneSub", fn := fun _ => fun
  | [d1, d2] => { results := [.lit (.bool true)], args := [d1, d2] }
  | _ => none }
def fnExactPlaneSubRow : OpenClaim := { program := "ytinfpggpfpmpbaa", sum := "efceee2d48999e711b5fd45c6a258176dadd3f3e0a263b2f804ffde71435929f", func := "loop.example/golayoctads/laws.FnExactPlaneSub", spec := "fnExactPlaneSub", unfollowed := true, recurses := true, apart := false }
def FnExactPlaneSubSaid : Prop := fnExactPlaneSubRow.holds Try.pinned (OpenSpec.ofChange fnExactPlaneSubSpec)

/-- ITS FALSE NEIGHBOUR: 'it returns false'. Refute it at one input. -/
def fnExactPlaneSubWrong : ChangeSpec := { name := "fnExactPlaneSub", fn := fun _ => fun
  | [d1, d2] => { results := [.lit (.bool false)], args := [d1, d2] }
  | _ => none }
def FnExactPlaneSubWrongFalsely : Prop := fnExactPlaneSubRow.holds Try.pinned (OpenSpec.ofChange fnExactPlaneSubWrong)

/-- 'laws.FnLines': WHATEVER THE INPUT: true; the input reads as it did. -/
def fnLinesSpec : ChangeSpec := { name := "fnLines", fn := fun _ => fun
  | [d] => { results := [.lit (.bool true)], args := [d] }
  | _ => none }
def fnLinesRow : OpenClaim := { program := "ytinfpggpfpmpbaa", sum := "efceee2d48999e711b5fd45c6a258176dadd3f3e0a263b2f804ffde71435929f", func := "loop.example/golayoctads/laws.FnLines", spec := "fnLines", unfollowed := true, recurses := true, apart := false }
def FnLinesSaid : Prop := fnLinesRow.holds Try.pinned (OpenSpec.ofChange fnLinesSpec)

/-- ITS FALSE NEIGHBOUR: 'it returns false'. Refute it at one input. -/
def fnLinesWrong : ChangeSpec := { name := "fnLines", fn := fun _ => fun
  | [d] => { results := [.lit (.bool false)], args := [d] }
  | _ => none }
def FnLinesWrongFalsely : Prop := fnLinesRow.holds Try.pinned (OpenSpec.ofChange fnLinesWrong)

/-- 'laws.FnLine': WHATEVER THE INPUT: true; the input reads as it did. -/
def fnLineSpec : ChangeSpec := { name := "fnLine", fn := fun _ => fun
  | [d] => { results := [.lit (.bool true)], args := [d] }
  | _ => none }
def fnLineRow : OpenClaim := { program := "ytinfpggpfpmpbaa", sum := "efceee2d48999e711b5fd45c6a258176dadd3f3e0a263b2f804ffde71435929f", func := "loop.example/golayoctads/laws.FnLine", spec := "fnLine", unfollowed := true, recurses := true, apart := false }
def FnLineSaid : Prop := fnLineRow.holds Try.pinned (OpenSpec.ofChange fnLineSpec)

/-- ITS FALSE NEIGHBOUR: 'it returns false'. Refute it at one input. -/
def fnLineWrong : ChangeSpec := { name := "fnLine", fn := fun _ => fun
  | [d] => { results := [.lit (.bool false)], args := [d] }
  | _ => none }
def FnLineWrongFalsely : Prop := fnLineRow.holds Try.pinned (OpenSpec.ofChange fnLineWrong)

/-- 'laws.FnOn': WHATEVER THE INPUT: true; the input reads as it did. -/
def fnOnSpec : ChangeSpec := { name := "fnOn", fn := fun _ => fun
  | [d] => { results := [.lit (.bool true)], args := [d] }
  | _ => none }
def fnOnRow : OpenClaim := { program := "ytinfpggpfpmpbaa", sum := "efceee2d48999e711b5fd45c6a258176dadd3f3e0a263b2f804ffde71435929f", func := "loop.example/golayoctads/laws.FnOn", spec := "fnOn", unfollowed := true, recurses := true, apart := false }
def FnOnSaid : Prop := fnOnRow.holds Try.pinned (OpenSpec.ofChange fnOnSpec)

/-- ITS FALSE NEIGHBOUR: 'it returns false'. Refute it at one input. -/
def fnOnWrong : ChangeSpec := { name := "fnOn", fn := fun _ => fun
  | [d] => { results := [.lit (.bool false)], args := [d] }
  | _ => none }
def FnOnWrongFalsely : Prop := fnOnRow.holds Try.pinned (OpenSpec.ofChange fnOnWrong)

/-- 'laws.FnOval': WHATEVER THE INPUT: true; the input reads as it did. -/
def fnOvalSpec : ChangeSpec := { name := "fnOval", fn := fun _ => fun
  | [d] => { results := [.lit (.bool true)], args := [d] }
  | _ => none }
def fnOvalRow : OpenClaim := { program := "ytinfpggpfpmpbaa", sum := "efceee2d48999e711b5fd45c6a258176dadd3f3e0a263b2f804ffde71435929f", func := "loop.example/golayoctads/laws.FnOval", spec := "fnOval", unfollowed := true, recurses := true, apart := false }
def FnOvalSaid : Prop := fnOvalRow.holds Try.pinned (OpenSpec.ofChange fnOvalSpec)

/-- ITS FALSE NEIGHBOUR: 'it returns false'. Refute it at one input. -/
def fnOvalWrong : ChangeSpec := { name := "fnOval", fn := fun _ => fun
  | [d] => { results := [.lit (.bool false)], args := [d] }
  | _ => none }
def FnOvalWrongFalsely : Prop := fnOvalRow.holds Try.pinned (OpenSpec.ofChange fnOvalWrong)

/-- 'laws.FnPoint': WHATEVER THE INPUT: true; the input reads as it did. -/
def fnPointSpec : ChangeSpec := { name := "fnPoint", fn := fun _ => fun
  | [d] => { results := [.lit (.bool true)], args := [d] }
  | _ => none }
def fnPointRow : OpenClaim := { program := "ytinfpggpfpmpbaa", sum := "efceee2d48999e711b5fd45c6a258176dadd3f3e0a263b2f804ffde71435929f", func := "loop.example/golayoctads/laws.FnPoint", spec := "fnPoint", unfollowed := true, recurses := true, apart := false }
def FnPointSaid : Prop := fnPointRow.holds Try.pinned (OpenSpec.ofChange fnPointSpec)

/-- ITS FALSE NEIGHBOUR: 'it returns false'. Refute it at one input. -/
def fnPointWrong : ChangeSpec := { name := "fnPoint", fn := fun _ => fun
  | [d] => { results := [.lit (.bool false)], args := [d] }
  | _ => none }
def FnPointWrongFalsely : Prop := fnPointRow.holds Try.pinned (OpenSpec.ofChange fnPointWrong)

/-- 'laws.FnOvals': WHATEVER THE INPUT: true; the input reads as it did. -/
def fnOvalsSpec : ChangeSpec := { name := "fnOvals", fn := fun _ => fun
  | [d] => { results := [.lit (.bool true)], args := [d] }
  | _ => none }
def fnOvalsRow : OpenClaim := { program := "ytinfpggpfpmpbaa", sum := "efceee2d48999e711b5fd45c6a258176dadd3f3e0a263b2f804ffde71435929f", func := "loop.example/golayoctads/laws.FnOvals", spec := "fnOvals", unfollowed := true, recurses := true, apart := false }
def FnOvalsSaid : Prop := fnOvalsRow.holds Try.pinned (OpenSpec.ofChange fnOvalsSpec)

/-- ITS FALSE NEIGHBOUR: 'it returns false'. Refute it at one input. -/
def fnOvalsWrong : ChangeSpec := { name := "fnOvals", fn := fun _ => fun
  | [d] => { results := [.lit (.bool false)], args := [d] }
  | _ => none }
def FnOvalsWrongFalsely : Prop := fnOvalsRow.holds Try.pinned (OpenSpec.ofChange fnOvalsWrong)

/-- 'laws.FnFour': WHATEVER THE INPUT: true; the input reads as it did. -/
def fnFourSpec : ChangeSpec := { name := "fnFour", fn := fun _ => fun
  | [d] => { results := [.lit (.bool true)], args := [d] }
  | _ => none }
def fnFourRow : OpenClaim := { program := "ytinfpggpfpmpbaa", sum := "efceee2d48999e711b5fd45c6a258176dadd3f3e0a263b2f804ffde71435929f", func := "loop.example/golayoctads/laws.FnFour", spec := "fnFour", unfollowed := true, recurses := true, apart := false }
def FnFourSaid : Prop := fnFourRow.holds Try.pinned (OpenSpec.ofChange fnFourSpec)

/-- ITS FALSE NEIGHBOUR: 'it returns false'. Refute it at one input. -/
def fnFourWrong : ChangeSpec := { name := "fnFour", fn := fun _ => fun
  | [d] => { results := [.lit (.bool false)], args := [d] }
  | _ => none }
def FnFourWrongFalsely : Prop := fnFourRow.holds Try.pinned (OpenSpec.ofChange fnFourWrong)

/-- 'laws.FnSub': WHATEVER THE INPUT: true; the input reads as it did. -/
def fnSubSpec : ChangeSpec := { name := "fnSub", fn := fun _ => fun
  | [d] => { results := [.lit (.bool true)], args := [d] }
  | _ => none }
def fnSubRow : OpenClaim := { program := "ytinfpggpfpmpbaa", sum := "efceee2d48999e711b5fd45c6a258176dadd3f3e0a263b2f804ffde71435929f", func := "loop.example/golayoctads/laws.FnSub", spec := "fnSub", unfollowed := true, recurses := true, apart := false }
def FnSubSaid : Prop := fnSubRow.holds Try.pinned (OpenSpec.ofChange fnSubSpec)

/-- ITS FALSE NEIGHBOUR: 'it returns false'. Refute it at one input. -/
def fnSubWrong : ChangeSpec := { name := "fnSub", fn := fun _ => fun
  | [d] => { results := [.lit (.bool false)], args := [d] }
  | _ => none }
def FnSubWrongFalsely : Prop := fnSubRow.holds Try.pinned (OpenSpec.ofChange fnSubWrong)

/- THE SECOND FORM. 'bulk': how many values and letters a reading holds, each counted each time it is reached (what is shared counts as often as it is met; a slice's spare places count too). A statement '..UptoSaid' is the law's where the arguments, and the package variables that the reading takes, are together of bulk at most 1048576: NARROWER than '..Said'. Prove '..Said' where nothing that the law and all that it calls make is longer than what came in: it says more and counts as full. Else prove '..UptoSaid'. A law counts once. -/
mutual
def uptoBulk {H : Type} : DataW H → Nat
  | .lit (.string bytes) => bytes.length + 1
  | .lit _ => 1
  | .nil => 1
  | .ptr d => uptoBulk d + 1
  | .slice elems spare => uptoBulkAll elems + uptoBulkAll spare + 1
  | .agg parts => uptoBulkAll parts + 1
  | .iface _ d => uptoBulk d + 1
  | .map entries => uptoBulkEntries entries + 1
  | .held _ => 1
def uptoBulkAll {H : Type} : List (DataW H) → Nat
  | [] => 0
  | d :: r => uptoBulk d + uptoBulkAll r
def uptoBulkEntries {H : Type} : List (Lit × DataW H) → Nat
  | [] => 0
  | x :: r => uptoBulkEntry x + uptoBulkEntries r
def uptoBulkEntry {H : Type} : Lit × DataW H → Nat
  | (.string bytes, d) => bytes.length + uptoBulk d + 1
  | (_, d) => uptoBulk d + 1
 end
def uptoSmall : (H : Type) → List (DataW H) → Bool := fun _ ds => decide (uptoBulkAll ds ≤ 1048576)
def OpenSpec.upto (s : _root_.Go.ChangeSpec) : _root_.Go.OpenSpec := { _root_.Go.OpenSpec.ofChange s with cond := some uptoSmall }

/-- 'laws.FnExactPlaneOvals', WHERE WHAT IT READS IS OF BULK AT MOST 1048576: true; the input reads as it did. -/
def fnExactPlaneOvalsUptoRow : OpenClaim := { program := "ytinfpggpfpmpbaa", sum := "efceee2d48999e711b5fd45c6a258176dadd3f3e0a263b2f804ffde71435929f", func := "loop.example/golayoctads/laws.FnExactPlaneOvals", spec := "fnExactPlaneOvals", unfollowed := true, recurses := true, apart := false, narrowed := true }
def FnExactPlaneOvalsUptoSaid : Prop := fnExactPlaneOvalsUptoRow.holds Try.pinned (OpenSpec.upto fnExactPlaneOvalsSpec)

/-- 'laws.FnExactPlanePoint', WHERE WHAT IT READS IS OF BULK AT MOST 1048576: true; the input reads as it did. -/
def fnExactPlanePointUptoRow : OpenClaim := { program := "ytinfpggpfpmpbaa", sum := "efceee2d48999e711b5fd45c6a258176dadd3f3e0a263b2f804ffde71435929f", func := "loop.example/golayoctads/laws.FnExactPlanePoint", spec := "fnExactPlanePoint", unfollowed := true, recurses := true, apart := false, narrowed := true }
def FnExactPlanePointUptoSaid : Prop := fnExactPlanePointUptoRow.holds Try.pinned (OpenSpec.upto fnExactPlanePointSpec)

/-- 'laws.FnExactPlaneFour', WHERE WHAT IT READS IS OF BULK AT MOST 1048576: true; the input reads as it did. -/
def fnExactPlaneFourUptoRow : OpenClaim := { program := "ytinfpggpfpmpbaa", sum := "efceee2d48999e711b5fd45c6a258176dadd3f3e0a263b2f804ffde71435929f", func := "loop.example/golayoctads/laws.FnExactPlaneFour", spec := "fnExactPlaneFour", unfollowed := true, recurses := true, apart := false, narrowed := true }
def FnExactPlaneFourUptoSaid : Prop := fnExactPlaneFourUptoRow.holds Try.pinned (OpenSpec.upto fnExactPlaneFourSpec)

/-- 'laws.FnExactPlaneSub', WHERE WHAT IT READS IS OF BULK AT MOST 1048576: true; the input reads as it did. -/
def fnExactPlaneSubUptoRow : OpenClaim := { program := "ytinfpggpfpmpbaa", sum := "efceee2d48999e711b5fd45c6a258176dadd3f3e0a263b2f804ffde71435929f", func := "loop.example/golayoctads/laws.FnExactPlaneSub", spec := "fnExactPlaneSub", unfollowed := true, recurses := true, apart := false, narrowed := true }
def FnExactPlaneSubUptoSaid : Prop := fnExactPlaneSubUptoRow.holds Try.pinned (OpenSpec.upto fnExactPlaneSubSpec)

/-- 'laws.FnLines', WHERE WHAT IT READS IS OF BULK AT MOST 1048576: true; the input reads as it did. -/
def fnLinesUptoRow : OpenClaim := { program := "ytinfpggpfpmpbaa", sum := "efceee2d48999e711b5fd45c6a258176dadd3f3e0a263b2f804ffde71435929f", func := "loop.example/golayoctads/laws.FnLines", spec := "fnLines", unfollowed := true, recurses := true, apart := false, narrowed := true }
def FnLinesUptoSaid : Prop := fnLinesUptoRow.holds Try.pinned (OpenSpec.upto fnLinesSpec)

/-- 'laws.FnLine', WHERE WHAT IT READS IS OF BULK AT MOST 1048576: true; the input reads as it did. -/
def fnLineUptoRow : OpenClaim := { program := "ytinfpggpfpmpbaa", sum := "efceee2d48999e711b5fd45c6a258176dadd3f3e0a263b2f804ffde71435929f", func := "loop.example/golayoctads/laws.FnLine", spec := "fnLine", unfollowed := true, recurses := true, apart := false, narrowed := true }
def FnLineUptoSaid : Prop := fnLineUptoRow.holds Try.pinned (OpenSpec.upto fnLineSpec)

/-- 'laws.FnOn', WHERE WHAT IT READS IS OF BULK AT MOST 1048576: true; the input reads as it did. -/
def fnOnUptoRow : OpenClaim := { program := "ytinfpggpfpmpbaa", sum := "efceee2d48999e711b5fd45c6a258176dadd3f3e0a263b2f804ffde71435929f", func := "loop.example/golayoctads/laws.FnOn", spec := "fnOn", unfollowed := true, recurses := true, apart := false, narrowed := true }
def FnOnUptoSaid : Prop := fnOnUptoRow.holds Try.pinned (OpenSpec.upto fnOnSpec)

/-- 'laws.FnOval', WHERE WHAT IT READS IS OF BULK AT MOST 1048576: true; the input reads as it did. -/
def fnOvalUptoRow : OpenClaim := { program := "ytinfpggpfpmpbaa", sum := "efceee2d48999e711b5fd45c6a258176dadd3f3e0a263b2f804ffde71435929f", func := "loop.example/golayoctads/laws.FnOval", spec := "fnOval", unfollowed := true, recurses := true, apart := false, narrowed := true }
def FnOvalUptoSaid : Prop := fnOvalUptoRow.holds Try.pinned (OpenSpec.upto fnOvalSpec)

/-- 'laws.FnPoint', WHERE WHAT IT READS IS OF BULK AT MOST 1048576: true; the input reads as it did. -/
def fnPointUptoRow : OpenClaim := { program := "ytinfpggpfpmpbaa", sum := "efceee2d48999e711b5fd45c6a258176dadd3f3e0a263b2f804ffde71435929f", func := "loop.example/golayoctads/laws.FnPoint", spec := "fnPoint", unfollowed := true, recurses := true, apart := false, narrowed := true }
def FnPointUptoSaid : Prop := fnPointUptoRow.holds Try.pinned (OpenSpec.upto fnPointSpec)

/-- 'laws.FnOvals', WHERE WHAT IT READS IS OF BULK AT MOST 1048576: true; the input reads as it did. -/
def fnOvalsUptoRow : OpenClaim := { program := "ytinfpggpfpmpbaa", sum := "efceee2d48999e711b5fd45c6a258176dadd3f3e0a263b2f804ffde71435929f", func := "loop.example/golayoctads/laws.FnOvals", spec := "fnOvals", unfollowed := true, recurses := true, apart := false, narrowed := true }
def FnOvalsUptoSaid : Prop := fnOvalsUptoRow.holds Try.pinned (OpenSpec.upto fnOvalsSpec)

/-- 'laws.FnFour', WHERE WHAT IT READS IS OF BULK AT MOST 1048576: true; the input reads as it did. -/
def fnFourUptoRow : OpenClaim := { program := "ytinfpggpfpmpbaa", sum := "efceee2d48999e711b5fd45c6a258176dadd3f3e0a263b2f804ffde71435929f", func := "loop.example/golayoctads/laws.FnFour", spec := "fnFour", unfollowed := true, recurses := true, apart := false, narrowed := true }
def FnFourUptoSaid : Prop := fnFourUptoRow.holds Try.pinned (OpenSpec.upto fnFourSpec)

/-- 'laws.FnSub', WHERE WHAT IT READS IS OF BULK AT MOST 1048576: true; the input reads as it did. -/
def fnSubUptoRow : OpenClaim := { program := "ytinfpggpfpmpbaa", sum := "efceee2d48999e711b5fd45c6a258176dadd3f3e0a263b2f804ffde71435929f", func := "loop.example/golayoctads/laws.FnSub", spec := "fnSub", unfollowed := true, recurses := true, apart := false, narrowed := true }
def FnSubUptoSaid : Prop := fnSubUptoRow.holds Try.pinned (OpenSpec.upto fnSubSpec)

end Rows
end Go.Proofs.Ytinfpggpfpmpbaa
