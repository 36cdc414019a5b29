/-
  No cell of these rows narrows 'for every input' (looked for: loops, veiled, ifaces, maps, wideKeys, modest, calm, conditions, laid).
  DERIVED. THE GIVEN ROWS OF THIS SEAT. 13 by the template 'for every input the law returns true; each argument reads behind the call as it read before'; 0 by the template 'total and deterministic' (their statements: YtafaecpmffmfgaaTotals.lean).
  GIVEN WITH THE SEED: the statements are not yours to turn. If you find one false, say at which input.
  Laid BY PROGRAM, IN A SANDBOX (cutbox-rows.mjs): the forced cells as the released guide's own fill.sh prints them over the translation 2dac6b73e415fb6c… (all of the seat's roots in one cut). By AI agents, Wed Nov 11 2026. No macro, syntax, notation, axiom, sorry.
-/
import Derived.Test.YtafaecpmffmfgaaChecked
import GoSem.Claim
import GoSem.ClaimJoined
import GoSem.ClaimMapViews
import Derived.JoinedTies
import Derived.KernelRfl
namespace Go.Proofs.Ytafaecpmffmfgaa
/- THE CELL 'sum', in the pinned program and in every row, IS THE sha256 OF THE DUMP (.gsa) THAT YtafaecpmffmfgaaProg.lean LOADS. Nothing in Lean hashes anything: it is a label: what it is worth is what the hold of that sum in a sandbox is worth. -/
noncomputable def Try.pinned : Pinned := { name := "ytafaecpmffmfgaa", sum := "2dac6b73e415fb6cf05ad7304330004cd3d6895ee6e0965f49c91fed0561245b", checked := Try.checked }
namespace Rows
def none {H : Type} : Left H := { results := [], args := [] }

/-- 'laws.FnExactValidField': WHATEVER THE INPUT: true; the input reads as it did. -/
def fnExactValidFieldSpec : ChangeSpec := { name := "fnExactValidField", fn := fun _ => fun
  | [d] => { results := [.lit (.bool true)], args := [d] }
  | _ => none }
def fnExactValidFieldRow : OpenClaim := { program := "ytafaecpmffmfgaa", sum := "2dac6b73e415fb6cf05ad7304330004cd3d6895ee6e0965f49c91fed0561245b", func := "loop.example/g00920/laws.FnExactValidField", spec := "fnExactValidField", unfollowed := true, recurses := true, apart := false }
def FnExactValidFieldSaid : Prop := fnExactValidFieldRow.holds Try.pinned (OpenSpec.ofChange fnExactValidFieldSpec)

/-- ITS FALSE NEIGHBOUR: 'it returns false'. Refute it at one input. -/
def fnExactValidFieldWrong : ChangeSpec := { name := "fnExactValidField", fn := fun _ => fun
  | [d] => { results := [.lit (.bool false)], args := [d] }
  | _ => none }
def FnExactValidFieldWrongFalsely : Prop := fnExactValidFieldRow.holds Try.pinned (OpenSpec.ofChange fnExactValidFieldWrong)

/-- 'laws.FnExactMakeField': WHATEVER THE INPUT: true; the input reads as it did. -/
def fnExactMakeFieldSpec : ChangeSpec := { name := "fnExactMakeField", fn := fun _ => fun
  | [d] => { results := [.lit (.bool true)], args := [d] }
  | _ => none }
def fnExactMakeFieldRow : OpenClaim := { program := "ytafaecpmffmfgaa", sum := "2dac6b73e415fb6cf05ad7304330004cd3d6895ee6e0965f49c91fed0561245b", func := "loop.example/g00920/laws.FnExactMakeField", spec := "fnExactMakeField", unfollowed := true, recurses := true, apart := false }
def FnExactMakeFieldSaid : Prop := fnExactMakeFieldRow.holds Try.pinned (OpenSpec.ofChange fnExactMakeFieldSpec)

/-- ITS FALSE NEIGHBOUR: 'it returns false'. Refute it at one input. -/
def fnExactMakeFieldWrong : ChangeSpec := { name := "fnExactMakeField", fn := fun _ => fun
  | [d] => { results := [.lit (.bool false)], args := [d] }
  | _ => none }
def FnExactMakeFieldWrongFalsely : Prop := fnExactMakeFieldRow.holds Try.pinned (OpenSpec.ofChange fnExactMakeFieldWrong)

/-- 'laws.FnExactFieldSize': WHATEVER THE INPUT: true; the input reads as it did. -/
def fnExactFieldSizeSpec : ChangeSpec := { name := "fnExactFieldSize", fn := fun _ => fun
  | [d] => { results := [.lit (.bool true)], args := [d] }
  | _ => none }
def fnExactFieldSizeRow : OpenClaim := { program := "ytafaecpmffmfgaa", sum := "2dac6b73e415fb6cf05ad7304330004cd3d6895ee6e0965f49c91fed0561245b", func := "loop.example/g00920/laws.FnExactFieldSize", spec := "fnExactFieldSize", unfollowed := true, recurses := true, apart := false }
def FnExactFieldSizeSaid : Prop := fnExactFieldSizeRow.holds Try.pinned (OpenSpec.ofChange fnExactFieldSizeSpec)

/-- ITS FALSE NEIGHBOUR: 'it returns false'. Refute it at one input. -/
def fnExactFieldSizeWrong : ChangeSpec := { name := "fnExactFieldSize", fn := fun _ => fun
  | [d] => { results := [.lit (.bool false)], args := [d] }
  | _ => none }
def FnExactFieldSizeWrongFalsely : Prop := fnExactFieldSizeRow.holds Try.pinned (OpenSpec.ofChange fnExactFieldSizeWrong)

/-- 'laws.FnExactFieldAdd': WHATEVER THE INPUT: true; the input reads as it did. -/
def fnExactFieldAddSpec : ChangeSpec := { name := "fnExactFieldAdd", fn := fun _ => fun
  | [d1, d2, d3] => { results := [.lit (.bool true)], args := [d1, d2, d3] }
  | _ => none }
def fnExactFieldAddRow : OpenClaim := { program := "ytafaecpmffmfgaa", sum := "2dac6b73e415fb6cf05ad7304330004cd3d6895ee6e0965f49c91fed0561245b", func := "loop.example/g00920/laws.FnExactFieldAdd", spec := "fnExactFieldAdd", unfollowed := true, recurses := true, apart := false }
def FnExactFieldAddSaid : Prop := fnExactFieldAddRow.holds Try.pinned (OpenSpec.ofChange fnExactFieldAddSpec)

/-- ITS FALSE NEIGHBOUR: 'it returns false'. Refute it at one input. -/
def fnExactFieldAddWrong : ChangeSpec := { name := "fnExactFieldAdd", fn := fun _ => fun
  | [d1, d2, d3] => { results := [.lit (.bool false)], args := [d1, d2, d3] }
  | _ => none }
def FnExactFieldAddWrongFalsely : Prop := fnExactFieldAddRow.holds Try.pinned (OpenSpec.ofChange fnExactFieldAddWrong)

/-- 'laws.FnExactFieldSub': WHATEVER THE INPUT: true; the input reads as it did. -/
def fnExactFieldSubSpec : ChangeSpec := { name := "fnExactFieldSub", fn := fun _ => fun
  | [d1, d2, d3] => { results := [.lit (.bool true)], args := [d1, d2, d3] }
  | _ => none }
def fnExactFieldSubRow : OpenClaim := { program := "ytafaecpmffmfgaa", sum := "2dac6b73e415fb6cf05ad7304330004cd3d6895ee6e0965f49c91fed0561245b", func := "loop.example/g00920/laws.FnExactFieldSub", spec := "fnExactFieldSub", unfollowed := true, recurses := true, apart := false }
def FnExactFieldSubSaid : Prop := fnExactFieldSubRow.holds Try.pinned (OpenSpec.ofChange fnExactFieldSubSpec)

/-- ITS FALSE NEIGHBOUR: 'it returns false'. Refute it at one input. -/
def fnExactFieldSubWrong : ChangeSpec := { name := "fnExactFieldSub", fn := fun _ => fun
  | [d1, d2, d3] => { results := [.lit (.bool false)], args := [d1, d2, d3] }
  | _ => none }
def FnExactFieldSubWrongFalsely : Prop := fnExactFieldSubRow.holds Try.pinned (OpenSpec.ofChange fnExactFieldSubWrong)

/-- 'laws.FnExactFieldMul': WHATEVER THE INPUT: true; the input reads as it did. -/
def fnExactFieldMulSpec : ChangeSpec := { name := "fnExactFieldMul", fn := fun _ => fun
  | [d1, d2, d3] => { results := [.lit (.bool true)], args := [d1, d2, d3] }
  | _ => none }
def fnExactFieldMulRow : OpenClaim := { program := "ytafaecpmffmfgaa", sum := "2dac6b73e415fb6cf05ad7304330004cd3d6895ee6e0965f49c91fed0561245b", func := "loop.example/g00920/laws.FnExactFieldMul", spec := "fnExactFieldMul", unfollowed := true, recurses := true, apart := false }
def FnExactFieldMulSaid : Prop := fnExactFieldMulRow.holds Try.pinned (OpenSpec.ofChange fnExactFieldMulSpec)

/-- ITS FALSE NEIGHBOUR: 'it returns false'. Refute it at one input. -/
def fnExactFieldMulWrong : ChangeSpec := { name := "fnExactFieldMul", fn := fun _ => fun
  | [d1, d2, d3] => { results := [.lit (.bool false)], args := [d1, d2, d3] }
  | _ => none }
def FnExactFieldMulWrongFalsely : Prop := fnExactFieldMulRow.holds Try.pinned (OpenSpec.ofChange fnExactFieldMulWrong)

/-- 'laws.FnExactFieldOrder': WHATEVER THE INPUT: true; the input reads as it did. -/
def fnExactFieldOrderSpec : ChangeSpec := { name := "fnExactFieldOrder", fn := fun _ => fun
  | [d1, d2] => { results := [.lit (.bool true)], args := [d1, d2] }
  | _ => none }
def fnExactFieldOrderRow : OpenClaim := { program := "ytafaecpmffmfgaa", sum := "2dac6b73e415fb6cf05ad7304330004cd3d6895ee6e0965f49c91fed0561245b", func := "loop.example/g00920/laws.FnExactFieldOrder", spec := "fnExactFieldOrder", unfollowed := true, recurses := true, apart := false }
def FnExactFieldOrderSaid : Prop := fnExactFieldOrderRow.holds Try.pinned (OpenSpec.ofChange fnExactFieldOrderSpec)

/-- ITS FALSE NEIGHBOUR: 'it returns false'. Refute it at one input. -/
def fnExactFieldOrderWrong : ChangeSpec := { name := "fnExactFieldOrder", fn := fun _ => fun
  | [d1, d2] => { results := [.lit (.bool false)], args := [d1, d2] }
  | _ => none }
def FnExactFieldOrderWrongFalsely : Prop := fnExactFieldOrderRow.holds Try.pinned (OpenSpec.ofChange fnExactFieldOrderWrong)

/-- 'laws.FnExactFieldInverse': WHATEVER THE INPUT: true; the input reads as it did. -/
def fnExactFieldInverseSpec : ChangeSpec := { name := "fnExactFieldInverse", fn := fun _ => fun
  | [d1, d2] => { results := [.lit (.bool true)], args := [d1, d2] }
  | _ => none }
def fnExactFieldInverseRow : OpenClaim := { program := "ytafaecpmffmfgaa", sum := "2dac6b73e415fb6cf05ad7304330004cd3d6895ee6e0965f49c91fed0561245b", func := "loop.example/g00920/laws.FnExactFieldInverse", spec := "fnExactFieldInverse", unfollowed := true, recurses := true, apart := false }
def FnExactFieldInverseSaid : Prop := fnExactFieldInverseRow.holds Try.pinned (OpenSpec.ofChange fnExactFieldInverseSpec)

/-- ITS FALSE NEIGHBOUR: 'it returns false'. Refute it at one input. -/
def fnExactFieldInverseWrong : ChangeSpec := { name := "fnExactFieldInverse", fn := fun _ => fun
  | [d1, d2] => { results := [.lit (.bool false)], args := [d1, d2] }
  | _ => none }
def FnExactFieldInverseWrongFalsely : Prop := fnExactFieldInverseRow.holds Try.pinned (OpenSpec.ofChange fnExactFieldInverseWrong)

/-- 'laws.FnExactPrimitiveElement': WHATEVER THE INPUT: true; the input reads as it did. -/
def fnExactPrimitiveElementSpec : ChangeSpec := { name := "fnExactPrimitiveElement", fn := fun _ => fun
  | [d] => { results := [.lit (.bool true)], args := [d] }
  | _ => none }
def fnExactPrimitiveElementRow : OpenClaim := { program := "ytafaecpmffmfgaa", sum := "2dac6b73e415fb6cf05ad7304330004cd3d6895ee6e0965f49c91fed0561245b", func := "loop.example/g00920/laws.FnExactPrimitiveElement", spec := "fnExactPrimitiveElement", unfollowed := true, recurses := true, apart := false }
def FnExactPrimitiveElementSaid : Prop := fnExactPrimitiveElementRow.holds Try.pinned (OpenSpec.ofChange fnExactPrimitiveElementSpec)

/-- ITS FALSE NEIGHBOUR: 'it returns false'. Refute it at one input. -/
def fnExactPrimitiveElementWrong : ChangeSpec := { name := "fnExactPrimitiveElement", fn := fun _ => fun
  | [d] => { results := [.lit (.bool false)], args := [d] }
  | _ => none }
def FnExactPrimitiveElementWrongFalsely : Prop := fnExactPrimitiveElementRow.holds Try.pinned (OpenSpec.ofChange fnExactPrimitiveElementWrong)

/-- 'laws.FnExactFieldPower': WHATEVER THE INPUT: true; the input reads as it did. -/
def fnExactFieldPowerSpec : ChangeSpec := { name := "fnExactFieldPower", fn := fun _ => fun
  | [d1, d2, d3] => { results := [.lit (.bool true)], args := [d1, d2, d3] }
  | _ => none }
def fnExactFieldPowerRow : OpenClaim := { program := "ytafaecpmffmfgaa", sum := "2dac6b73e415fb6cf05ad7304330004cd3d6895ee6e0965f49c91fed0561245b", func := "loop.example/g00920/laws.FnExactFieldPower", spec := "fnExactFieldPower", unfollowed := true, recurses := true, apart := false }
def FnExactFieldPowerSaid : Prop := fnExactFieldPowerRow.holds Try.pinned (OpenSpec.ofChange fnExactFieldPowerSpec)

/-- ITS FALSE NEIGHBOUR: 'it returns false'. Refute it at one input. -/
def fnExactFieldPowerWrong : ChangeSpec := { name := "fnExactFieldPower", fn := fun _ => fun
  | [d1, d2, d3] => { results := [.lit (.bool false)], args := [d1, d2, d3] }
  | _ => none }
def FnExactFieldPowerWrongFalsely : Prop := fnExactFieldPowerRow.holds Try.pinned (OpenSpec.ofChange fnExactFieldPowerWrong)

/-- 'laws.FnExactFieldTrace': WHATEVER THE INPUT: true; the input reads as it did. -/
def fnExactFieldTraceSpec : ChangeSpec := { name := "fnExactFieldTrace", fn := fun _ => fun
  | [d1, d2] => { results := [.lit (.bool true)], args := [d1, d2] }
  | _ => none }
def fnExactFieldTraceRow : OpenClaim := { program := "ytafaecpmffmfgaa", sum := "2dac6b73e415fb6cf05ad7304330004cd3d6895ee6e0965f49c91fed0561245b", func := "loop.example/g00920/laws.FnExactFieldTrace", spec := "fnExactFieldTrace", unfollowed := true, recurses := true, apart := false }
def FnExactFieldTraceSaid : Prop := fnExactFieldTraceRow.holds Try.pinned (OpenSpec.ofChange fnExactFieldTraceSpec)

/-- ITS FALSE NEIGHBOUR: 'it returns false'. Refute it at one input. -/
def fnExactFieldTraceWrong : ChangeSpec := { name := "fnExactFieldTrace", fn := fun _ => fun
  | [d1, d2] => { results := [.lit (.bool false)], args := [d1, d2] }
  | _ => none }
def FnExactFieldTraceWrongFalsely : Prop := fnExactFieldTraceRow.holds Try.pinned (OpenSpec.ofChange fnExactFieldTraceWrong)

/-- 'laws.FnExactLogTable': WHATEVER THE INPUT: true; the input reads as it did. -/
def fnExactLogTableSpec : ChangeSpec := { name := "fnExactLogTable", fn := fun _ => fun
  | [d] => { results := [.lit (.bool true)], args := [d] }
  | _ => none }
def fnExactLogTableRow : OpenClaim := { program := "ytafaecpmffmfgaa", sum := "2dac6b73e415fb6cf05ad7304330004cd3d6895ee6e0965f49c91fed0561245b", func := "loop.example/g00920/laws.FnExactLogTable", spec := "fnExactLogTable", unfollowed := true, recurses := true, apart := false }
def FnExactLogTableSaid : Prop := fnExactLogTableRow.holds Try.pinned (OpenSpec.ofChange fnExactLogTableSpec)

/-- ITS FALSE NEIGHBOUR: 'it returns false'. Refute it at one input. -/
def fnExactLogTableWrong : ChangeSpec := { name := "fnExactLogTable", fn := fun _ => fun
  | [d] => { results := [.lit (.bool false)], args := [d] }
  | _ => none }
def FnExactLogTableWrongFalsely : Prop := fnExactLogTableRow.holds Try.pinned (OpenSpec.ofChange fnExactLogTableWrong)

/-- 'laws.FnExactFieldSquares': WHATEVER THE INPUT: true; the input reads as it did. -/
def fnExactFieldSquaresSpec : ChangeSpec := { name := "fnExactFieldSquares", fn := fun _ => fun
  | [d] => { results := [.lit (.bool true)], args := [d] }
  | _ => none }
def fnExactFieldSquaresRow : OpenClaim := { program := "ytafaecpmffmfgaa", sum := "2dac6b73e415fb6cf05ad7304330004cd3d6895ee6e0965f49c91fed0561245b", func := "loop.example/g00920/laws.FnExactFieldSquares", spec := "fnExactFieldSquares", unfollowed := true, recurses := true, apart := false }
def FnExactFieldSquaresSaid : Prop := fnExactFieldSquaresRow.holds Try.pinned (OpenSpec.ofChange fnExactFieldSquaresSpec)

/-- ITS FALSE NEIGHBOUR: 'it returns false'. Refute it at one input. -/
def fnExactFieldSquaresWrong : ChangeSpec := { name := "fnExactFieldSquares", fn := fun _ => fun
  | [d] => { results := [.lit (.bool false)], args := [d] }
  | _ => none }
def FnExactFieldSquaresWrongFalsely : Prop := fnExactFieldSquaresRow.holds Try.pinned (OpenSpec.ofChange fnExactFieldSquaresWrong)

/- THE SECOND FORM. 'bulk': how many values and letters a reading holds, each counted each time it is reached (what is shared counts as often as it is met; a slice's spare places count too). A statement '..UptoSaid' is the law's where the arguments, and the package variables that the reading takes, are together of bulk at most 1048576: NARROWER than '..Said'. Prove '..Said' where nothing that the law and all that it calls make is longer than what came in: it says more and counts as full. Else prove '..UptoSaid'. A law counts once. -/
mutual
def uptoBulk {H : Type} : DataW H → Nat
  | .lit (.string bytes) => bytes.length + 1
  | .lit _ => 1
  | .nil => 1
  | .ptr d => uptoBulk d + 1
  | .slice elems spare => uptoBulkAll elems + uptoBulkAll spare + 1
  | .agg parts => uptoBulkAll parts + 1
  | .iface _ d => uptoBulk d + 1
  | .map entries => uptoBulkEntries entries + 1
  | .held _ => 1
def uptoBulkAll {H : Type} : List (DataW H) → Nat
  | [] => 0
  | d :: r => uptoBulk d + uptoBulkAll r
def uptoBulkEntries {H : Type} : List (Lit × DataW H) → Nat
  | [] => 0
  | x :: r => uptoBulkEntry x + uptoBulkEntries r
def uptoBulkEntry {H : Type} : Lit × DataW H → Nat
  | (.string bytes, d) => bytes.length + uptoBulk d + 1
  | (_, d) => uptoBulk d + 1
 end
def uptoSmall : (H : Type) → List (DataW H) → Bool := fun _ ds => decide (uptoBulkAll ds ≤ 1048576)
def OpenSpec.upto (s : _root_.Go.ChangeSpec) : _root_.Go.OpenSpec := { _root_.Go.OpenSpec.ofChange s with cond := some uptoSmall }

/-- 'laws.FnExactValidField', WHERE WHAT IT READS IS OF BULK AT MOST 1048576: true; the input reads as it did. -/
def fnExactValidFieldUptoRow : OpenClaim := { program := "ytafaecpmffmfgaa", sum := "2dac6b73e415fb6cf05ad7304330004cd3d6895ee6e0965f49c91fed0561245b", func := "loop.example/g00920/laws.FnExactValidField", spec := "fnExactValidField", unfollowed := true, recurses := true, apart := false, narrowed := true }
def FnExactValidFieldUptoSaid : Prop := fnExactValidFieldUptoRow.holds Try.pinned (OpenSpec.upto fnExactValidFieldSpec)

/-- 'laws.FnExactMakeField', WHERE WHAT IT READS IS OF BULK AT MOST 1048576: true; the input reads as it did. -/
def fnExactMakeFieldUptoRow : OpenClaim := { program := "ytafaecpmffmfgaa", sum := "2dac6b73e415fb6cf05ad7304330004cd3d6895ee6e0965f49c91fed0561245b", func := "loop.example/g00920/laws.FnExactMakeField", spec := "fnExactMakeField", unfollowed := true, recurses := true, apart := false, narrowed := true }
def FnExactMakeFieldUptoSaid : Prop := fnExactMakeFieldUptoRow.holds Try.pinned (OpenSpec.upto fnExactMakeFieldSpec)

/-- 'laws.FnExactFieldSize', WHERE WHAT IT READS IS OF BULK AT MOST 1048576: true; the input reads as it did. -/
def fnExactFieldSizeUptoRow : OpenClaim := { program := "ytafaecpmffmfgaa", sum := "2dac6b73e415fb6cf05ad7304330004cd3d6895ee6e0965f49c91fed0561245b", func := "loop.example/g00920/laws.FnExactFieldSize", spec := "fnExactFieldSize", unfollowed := true, recurses := true, apart := false, narrowed := true }
def FnExactFieldSizeUptoSaid : Prop := fnExactFieldSizeUptoRow.holds Try.pinned (OpenSpec.upto fnExactFieldSizeSpec)

/-- 'laws.FnExactFieldAdd', WHERE WHAT IT READS IS OF BULK AT MOST 1048576: true; the input reads as it did. -/
def fnExactFieldAddUptoRow : OpenClaim := { program := "ytafaecpmffmfgaa", sum := "2dac6b73e415fb6cf05ad7304330004cd3d6895ee6e0965f49c91fed0561245b", func := "loop.example/g00920/laws.FnExactFieldAdd", spec := "fnExactFieldAdd", unfollowed := true, recurses := true, apart := false, narrowed := true }
def FnExactFieldAddUptoSaid : Prop := fnExactFieldAddUptoRow.holds Try.pinned (OpenSpec.upto fnExactFieldAddSpec)

/-- 'laws.FnExactFieldSub', WHERE WHAT IT READS IS OF BULK AT MOST 1048576: true; the input reads as it did. -/
def fnExactFieldSubUptoRow : OpenClaim := { program := "ytafaecpmffmfgaa", sum := "2dac6b73e415fb6cf05ad7304330004cd3d6895ee6e0965f49c91fed0561245b", func := "loop.example/g00920/laws.FnExactFieldSub", spec := "fnExactFieldSub", unfollowed := true, recurses := true, apart := false, narrowed := true }
def FnExactFieldSubUptoSaid : Prop := fnExactFieldSubUptoRow.holds Try.pinned (OpenSpec.upto fnExactFieldSubSpec)

/-- 'laws.FnExactFieldMul', WHERE WHAT IT READS IS OF BULK AT MOST 1048576: true; the input reads as it did. -/
def fnExactFieldMulUptoRow : OpenClaim := { program := "ytafaecpmffmfgaa", sum := "2dac6b73e415fb6cf05ad7304330004cd3d6895ee6e0965f49c91fed0561245b", func := "loop.example/g00920/laws.FnExactFieldMul", spec := "fnExactFieldMul", unfollowed := true, recurses := true, apart := false, narrowed := true }
def FnExactFieldMulUptoSaid : Prop := fnExactFieldMulUptoRow.holds Try.pinned (OpenSpec.upto fnExactFieldMulSpec)

/-- 'laws.FnExactFieldOrder', WHERE WHAT IT READS IS OF BULK AT MOST 1048576: true; the input reads as it did. -/
def fnExactFieldOrderUptoRow : OpenClaim := { program := "ytafaecpmffmfgaa", sum := "2dac6b73e415fb6cf05ad7304330004cd3d6895ee6e0965f49c91fed0561245b", func := "loop.example/g00920/laws.FnExactFieldOrder", spec := "fnExactFieldOrder", unfollowed := true, recurses := true, apart := false, narrowed := true }
def FnExactFieldOrderUptoSaid : Prop := fnExactFieldOrderUptoRow.holds Try.pinned (OpenSpec.upto fnExactFieldOrderSpec)

/-- 'laws.FnExactFieldInverse', WHERE WHAT IT READS IS OF BULK AT MOST 1048576: true; the input reads as it did. -/
def fnExactFieldInverseUptoRow : OpenClaim := { program := "ytafaecpmffmfgaa", sum := "2dac6b73e415fb6cf05ad7304330004cd3d6895ee6e0965f49c91fed0561245b", func := "loop.example/g00920/laws.FnExactFieldInverse", spec := "fnExactFieldInverse", unfollowed := true, recurses := true, apart := false, narrowed := true }
def FnExactFieldInverseUptoSaid : Prop := fnExactFieldInverseUptoRow.holds Try.pinned (OpenSpec.upto fnExactFieldInverseSpec)

/-- 'laws.FnExactPrimitiveElement', WHERE WHAT IT READS IS OF BULK AT MOST 1048576: true; the input reads as it did. -/
def fnExactPrimitiveElementUptoRow : OpenClaim := { program := "ytafaecpmffmfgaa", sum := "2dac6b73e415fb6cf05ad7304330004cd3d6895ee6e0965f49c91fed0561245b", func := "loop.example/g00920/laws.FnExactPrimitiveElement", spec := "fnExactPrimitiveElement", unfollowed := true, recurses := true, apart := false, narrowed := true }
def FnExactPrimitiveElementUptoSaid : Prop := fnExactPrimitiveElementUptoRow.holds Try.pinned (OpenSpec.upto fnExactPrimitiveElementSpec)

/-- 'laws.FnExactFieldPower', WHERE WHAT IT READS IS OF BULK AT MOST 1048576: true; the input reads as it did. -/
def fnExactFieldPowerUptoRow : OpenClaim := { program := "ytafaecpmffmfgaa", sum := "2dac6b73e415fb6cf05ad7304330004cd3d6895ee6e0965f49c91fed0561245b", func := "loop.example/g00920/laws.FnExactFieldPower", spec := "fnExactFieldPower", unfollowed := true, recurses := true, apart := false, narrowed := true }
def FnExactFieldPowerUptoSaid : Prop := fnExactFieldPowerUptoRow.holds Try.pinned (OpenSpec.upto fnExactFieldPowerSpec)

/-- 'laws.FnExactFieldTrace', WHERE WHAT IT READS IS OF BULK AT MOST 1048576: true; the input reads as it did. -/
def fnExactFieldTraceUptoRow : OpenClaim := { program := "ytafaecpmffmfgaa", sum := "2dac6b73e415fb6cf05ad7304330004cd3d6895ee6e0965f49c91fed0561245b", func := "loop.example/g00920/laws.FnExactFieldTrace", spec := "fnExactFieldTrace", unfollowed := true, recurses := true, apart := false, narrowed := true }
def FnExactFieldTraceUptoSaid : Prop := fnExactFieldTraceUptoRow.holds Try.pinned (OpenSpec.upto fnExactFieldTraceSpec)

/-- 'laws.FnExactLogTable', WHERE WHAT IT READS IS OF BULK AT MOST 1048576: true; the input reads as it did. -/
def fnExactLogTableUptoRow : OpenClaim := { program := "ytafaecpmffmfgaa", sum := "2dac6b73e415fb6cf05ad7304330004cd3d6895ee6e0965f49c91fed0561245b", func := "loop.example/g00920/laws.FnExactLogTable", spec := "fnExactLogTable", unfollowed := true, recurses := true, apart := false, narrowed := true }
def FnExactLogTableUptoSaid : Prop := fnExactLogTableUptoRow.holds Try.pinned (OpenSpec.upto fnExactLogTableSpec)

/-- 'laws.FnExactFieldSquares', WHERE WHAT IT READS IS OF BULK AT MOST 1048576: true; the input reads as it did. -/
def fnExactFieldSquaresUptoRow : OpenClaim := { program := "ytafaecpmffmfgaa", sum := "2dac6b73e415fb6cf05ad7304330004cd3d6895ee6e0965f49c91fed0561245b", func := "loop.example/g00920/laws.FnExactFieldSquares", spec := "fnExactFieldSquares", unfollowed := true, recurses := true, apart := false, narrowed := true }
def FnExactFieldSquaresUptoSaid : Prop := fnExactFieldSquaresUptoRow.holds Try.pinned (OpenSpec.upto fnExactFieldSquaresSpec)

end Rows
end Go.Proofs.Ytafaecpmffmfgaa
