/-
  No cell of these rows narrows 'for every input' (looked for: loops, veiled, ifaces, maps, wideKeys, modest, calm, conditions, laid).
  DERIVED. THE GIVEN ROWS OF THIS SEAT. 5 by the template 'for every input the law returns true; each argument reads behind the call as it read before'; 0 by the template 'total and deterministic' (their statements: YtlfeoglhhfppmaaTotals.lean).
  GIVEN WITH THE SEED: the statements are not yours to turn. If you find one false, say at which input.
  Laid BY PROGRAM, IN A SANDBOX (cutbox-rows.mjs): the forced cells as the released guide's own fill.sh prints them over the translation c6112a8c92b7f26b… (all of the seat's roots in one cut). By AI agents, Wed Nov 11 2026. No macro, syntax, notation, axiom, sorry.
-/
import Derived.Test.YtlfeoglhhfppmaaChecked
import GoSem.Claim
import GoSem.ClaimJoined
import GoSem.ClaimMapViews
import Derived.JoinedTies
import Derived.KernelRfl
namespace Go.Proofs.Ytlfeoglhhfppmaa
/- THE CELL 'sum', in the pinned program and in every row, IS THE sha256 OF THE DUMP (.gsa) THAT YtlfeoglhhfppmaaProg.lean LOADS. Nothing in Lean hashes anything: it is a label: what it is worth is what the hold of that sum in a sandbox is worth. -/
noncomputable def Try.pinned : Pinned := { name := "ytlfeoglhhfppmaa", sum := "c6112a8c92b7f26b21092ab3bb91b328a0febd3b9738fa7d4901665d4686870e", checked := Try.checked }
namespace Rows
def none {H : Type} : Left H := { results := [], args := [] }

/-- 'laws.FnExactMeetSets': WHATEVER THE INPUT: true; the input reads as it did. -/
def fnExactMeetSetsSpec : ChangeSpec := { name := "fnExactMeetSets", fn := fun _ => fun
  | [d1, d2] => { results := [.lit (.bool true)], args := [d1, d2] }
  | _ => none }
def fnExactMeetSetsRow : OpenClaim := { program := "ytlfeoglhhfppmaa", sum := "c6112a8c92b7f26b21092ab3bb91b328a0febd3b9738fa7d4901665d4686870e", func := "loop.example/g00920/laws.FnExactMeetSets", spec := "fnExactMeetSets", unfollowed := true, recurses := true, apart := false }
def FnExactMeetSetsSaid : Prop := fnExactMeetSetsRow.holds Try.pinned (OpenSpec.ofChange fnExactMeetSetsSpec)

/-- ITS FALSE NEIGHBOUR: 'it returns false'. Refute it at one input. -/
def fnExactMeetSetsWrong : ChangeSpec := { name := "fnExactMeetSets", fn := fun _ => fun
  | [d1, d2] => { results := [.lit (.bool false)], args := [d1, d2] }
  | _ => none }
def FnExactMeetSetsWrongFalsely : Prop := fnExactMeetSetsRow.holds Try.pinned (OpenSpec.ofChange fnExactMeetSetsWrong)

/-- 'laws.FnExactMinusSets': WHATEVER THE INPUT: true; the input reads as it did. -/
def fnExactMinusSetsSpec : ChangeSpec := { name := "fnExactMinusSets", fn := fun _ => fun
  | [d1, d2] => { results := [.lit (.bool true)], args := [d1, d2] }
  | _ => none }
def fnExactMinusSetsRow : OpenClaim := { program := "ytlfeoglhhfppmaa", sum := "c6112a8c92b7f26b21092ab3bb91b328a0febd3b9738fa7d4901665d4686870e", func := "loop.example/g00920/laws.FnExactMinusSets", spec := "fnExactMinusSets", unfollowed := true, recurses := true, apart := false }
def FnExactMinusSetsSaid : Prop := fnExactMinusSetsRow.holds Try.pinned (OpenSpec.ofChange fnExactMinusSetsSpec)

/-- ITS FALSE NEIGHBOUR: 'it returns false'. Refute it at one input. -/
def fnExactMinusSetsWrong : ChangeSpec := { name := "fnExactMinusSets", fn := fun _ => fun
  | [d1, d2] => { results := [.lit (.bool false)], args := [d1, d2] }
  | _ => none }
def FnExactMinusSetsWrongFalsely : Prop := fnExactMinusSetsRow.holds Try.pinned (OpenSpec.ofChange fnExactMinusSetsWrong)

/-- 'laws.FnExactUnionSets': WHATEVER THE INPUT: true; the input reads as it did. -/
def fnExactUnionSetsSpec : ChangeSpec := { name := "fnExactUnionSets", fn := fun _ => fun
  | [d1, d2] => { results := [.lit (.bool true)], args := [d1, d2] }
  | _ => none }
def fnExactUnionSetsRow : OpenClaim := { program := "ytlfeoglhhfppmaa", sum := "c6112a8c92b7f26b21092ab3bb91b328a0febd3b9738fa7d4901665d4686870e", func := "loop.example/g00920/laws.FnExactUnionSets", spec := "fnExactUnionSets", unfollowed := true, recurses := true, apart := false }
def FnExactUnionSetsSaid : Prop := fnExactUnionSetsRow.holds Try.pinned (OpenSpec.ofChange fnExactUnionSetsSpec)

/-- ITS FALSE NEIGHBOUR: 'it returns false'. Refute it at one input. -/
def fnExactUnionSetsWrong : ChangeSpec := { name := "fnExactUnionSets", fn := fun _ => fun
  | [d1, d2] => { results := [.lit (.bool false)], args := [d1, d2] }
  | _ => none }
def FnExactUnionSetsWrongFalsely : Prop := fnExactUnionSetsRow.holds Try.pinned (OpenSpec.ofChange fnExactUnionSetsWrong)

/-- 'laws.FnExactUnrankPermutation': WHATEVER THE INPUT: true; the input reads as it did. -/
def fnExactUnrankPermutationSpec : ChangeSpec := { name := "fnExactUnrankPermutation", fn := fun _ => fun
  | [d1, d2] => { results := [.lit (.bool true)], args := [d1, d2] }
  | _ => none }
def fnExactUnrankPermutationRow : OpenClaim := { program := "ytlfeoglhhfppmaa", sum := "c6112a8c92b7f26b21092ab3bb91b328a0febd3b9738fa7d4901665d4686870e", func := "loop.example/g00920/laws.FnExactUnrankPermutation", spec := "fnExactUnrankPermutation", apart := false }
def FnExactUnrankPermutationSaid : Prop := fnExactUnrankPermutationRow.holds Try.pinned (OpenSpec.ofChange fnExactUnrankPermutationSpec)

/-- ITS FALSE NEIGHBOUR: 'it returns false'. Refute it at one input. -/
def fnExactUnrankPermutationWrong : ChangeSpec := { name := "fnExactUnrankPermutation", fn := fun _ => fun
  | [d1, d2] => { results := [.lit (.bool false)], args := [d1, d2] }
  | _ => none }
def FnExactUnrankPermutationWrongFalsely : Prop := fnExactUnrankPermutationRow.holds Try.pinned (OpenSpec.ofChange fnExactUnrankPermutationWrong)

/-- 'laws.FnExactPermutationOfCycles': WHATEVER THE INPUT: true; the input reads as it did. -/
def fnExactPermutationOfCyclesSpec : ChangeSpec := { name := "fnExactPermutationOfCycles", fn := fun _ => fun
  | [d1, d2] => { results := [.lit (.bool true)], args := [d1, d2] }
  | _ => none }
def fnExactPermutationOfCyclesRow : OpenClaim := { program := "ytlfeoglhhfppmaa", sum := "c6112a8c92b7f26b21092ab3bb91b328a0febd3b9738fa7d4901665d4686870e", func := "loop.example/g00920/laws.FnExactPermutationOfCycles", spec := "fnExactPermutationOfCycles", apart := false }
def FnExactPermutationOfCyclesSaid : Prop := fnExactPermutationOfCyclesRow.holds Try.pinned (OpenSpec.ofChange fnExactPermutationOfCyclesSpec)

/-- ITS FALSE NEIGHBOUR: 'it returns false'. Refute it at one input. -/
def fnExactPermutationOfCyclesWrong : ChangeSpec := { name := "fnExactPermutationOfCycles", fn := fun _ => fun
  | [d1, d2] => { results := [.lit (.bool false)], args := [d1, d2] }
  | _ => none }
def FnExactPermutationOfCyclesWrongFalsely : Prop := fnExactPermutationOfCyclesRow.holds Try.pinned (OpenSpec.ofChange fnExactPermutationOfCyclesWrong)

/- THE SECOND FORM. 'bulk': how many values and letters a reading holds, each counted each time it is reached (what is shared counts as often as it is met; a slice's spare places count too). A statement '..UptoSaid' is the law's where the arguments, and the package variables that the reading takes, are together of bulk at most 1048576: NARROWER than '..Said'. Prove '..Said' where nothing that the law and all that it calls make is longer than what came in: it says more and counts as full. Else prove '..UptoSaid'. A law counts once. -/
mutual
def uptoBulk {H : Type} : DataW H → Nat
  | .lit (.string bytes) => bytes.length + 1
  | .lit _ => 1
  | .nil => 1
  | .ptr d => uptoBulk d + 1
  | .slice elems spare => uptoBulkAll elems + uptoBulkAll spare + 1
  | .agg parts => uptoBulkAll parts + 1
  | .iface _ d => uptoBulk d + 1
  | .map entries => uptoBulkEntries entries + 1
  | .held _ => 1
def uptoBulkAll {H : Type} : List (DataW H) → Nat
  | [] => 0
  | d :: r => uptoBulk d + uptoBulkAll r
def uptoBulkEntries {H : Type} : List (Lit × DataW H) → Nat
  | [] => 0
  | x :: r => uptoBulkEntry x + uptoBulkEntries r
def uptoBulkEntry {H : Type} : Lit × DataW H → Nat
  | (.string bytes, d) => bytes.length + uptoBulk d + 1
  | (_, d) => uptoBulk d + 1
 end
def uptoSmall : (H : Type) → List (DataW H) → Bool := fun _ ds => decide (uptoBulkAll ds ≤ 1048576)
def OpenSpec.upto (s : _root_.Go.ChangeSpec) : _root_.Go.OpenSpec := { _root_.Go.OpenSpec.ofChange s with cond := some uptoSmall }

/-- 'laws.FnExactMeetSets', WHERE WHAT IT READS IS OF BULK AT MOST 1048576: true; the input reads as it did. -/
def fnExactMeetSetsUptoRow : OpenClaim := { program := "ytlfeoglhhfppmaa", sum := "c6112a8c92b7f26b21092ab3bb91b328a0febd3b9738fa7d4901665d4686870e", func := "loop.example/g00920/laws.FnExactMeetSets", spec := "fnExactMeetSets", unfollowed := true, recurses := true, apart := false, narrowed := true }
def FnExactMeetSetsUptoSaid : Prop := fnExactMeetSetsUptoRow.holds Try.pinned (OpenSpec.upto fnExactMeetSetsSpec)

/-- 'laws.FnExactMinusSets', WHERE WHAT IT READS IS OF BULK AT MOST 1048576: true; the input reads as it did. -/
def fnExactMinusSetsUptoRow : OpenClaim := { program := "ytlfeoglhhfppmaa", sum := "c6112a8c92b7f26b21092ab3bb91b328a0febd3b9738fa7d4901665d4686870e", func := "loop.example/g00920/laws.FnExactMinusSets", spec := "fnExactMinusSets", unfollowed := true, recurses := true, apart := false, narrowed := true }
def FnExactMinusSetsUptoSaid : Prop := fnExactMinusSetsUptoRow.holds Try.pinned (OpenSpec.upto fnExactMinusSetsSpec)

/-- 'laws.FnExactUnionSets', WHERE WHAT IT READS IS OF BULK AT MOST 1048576: true; the input reads as it did. -/
def fnExactUnionSetsUptoRow : OpenClaim := { program := "ytlfeoglhhfppmaa", sum := "c6112a8c92b7f26b21092ab3bb91b328a0febd3b9738fa7d4901665d4686870e", func := "loop.example/g00920/laws.FnExactUnionSets", spec := "fnExactUnionSets", unfollowed := true, recurses := true, apart := false, narrowed := true }
def FnExactUnionSetsUptoSaid : Prop := fnExactUnionSetsUptoRow.holds Try.pinned (OpenSpec.upto fnExactUnionSetsSpec)

/-- 'laws.FnExactUnrankPermutation', WHERE WHAT IT READS IS OF BULK AT MOST 1048576: true; the input reads as it did. -/
def fnExactUnrankPermutationUptoRow : OpenClaim := { program := "ytlfeoglhhfppmaa", sum := "c6112a8c92b7f26b21092ab3bb91b328a0febd3b9738fa7d4901665d4686870e", func := "loop.example/g00920/laws.FnExactUnrankPermutation", spec := "fnExactUnrankPermutation", apart := false, narrowed := true }
def FnExactUnrankPermutationUptoSaid : Prop := fnExactUnrankPermutationUptoRow.holds Try.pinned (OpenSpec.upto fnExactUnrankPermutationSpec)

/-- 'laws.FnExactPermutationOfCycles', WHERE WHAT IT READS IS OF BULK AT MOST 1048576: true; the input reads as it did. -/
def fnExactPermutationOfCyclesUptoRow : OpenClaim := { program := "ytlfeoglhhfppmaa", sum := "c6112a8c92b7f26b21092ab3bb91b328a0febd3b9738fa7d4901665d4686870e", func := "loop.example/g00920/laws.FnExactPermutationOfCycles", spec := "fnExactPermutationOfCycles", apart := false, narrowed := true }
def FnExactPermutationOfCyclesUptoSaid : Prop := fnExactPermutationOfCyclesUptoRow.holds Try.pinned (OpenSpec.upto fnExactPermutationOfCyclesSpec)

end Rows
end Go.Proofs.Ytlfeoglhhfppmaa
