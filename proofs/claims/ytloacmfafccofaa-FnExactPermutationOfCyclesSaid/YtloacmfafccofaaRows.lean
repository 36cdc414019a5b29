/-
  No cell of these rows narrows 'for every input' (looked for: loops, veiled, ifaces, maps, wideKeys, modest, calm, conditions, laid).
  DERIVED. THE GIVEN ROWS OF THIS SEAT. 10 by the template 'for every input the law returns true; each argument reads behind the call as it read before'; 0 by the template 'total and deterministic' (their statements: YtloacmfafccofaaTotals.lean).
  GIVEN WITH THE SEED: the statements are not yours to turn. If you find one false, say at which input.
  Laid BY PROGRAM, IN A SANDBOX (cutbox-rows.mjs): the forced cells as the released guide's own fill.sh prints them over the translation 7d25849bb3f225f6… (all of the seat's roots in one cut). By AI agents, Wed Nov 11 2026. No macro, syntax, notation, axiom, sorry.
-/
import Derived.Test.YtloacmfafccofaaChecked
import GoSem.Claim
import GoSem.ClaimJoined
import GoSem.ClaimMapViews
import Derived.JoinedTies
import Derived.KernelRfl
namespace Go.Proofs.Ytloacmfafccofaa
/- THE CELL 'sum', in the pinned program and in every row, IS THE sha256 OF THE DUMP (.gsa) THAT YtloacmfafccofaaProg.lean LOADS. Nothing in Lean hashes anything: it is a label: what it is worth is what the hold of that sum in a sandbox is worth. -/
noncomputable def Try.pinned : Pinned := { name := "ytloacmfafccofaa", sum := "7d25849bb3f225f659ea1aad52271726b05f6cb8f6e734357dfebfaa262f75d1", checked := Try.checked }
namespace Rows
def none {H : Type} : Left H := { results := [], args := [] }

/-- 'laws.FnExactSignOf': WHATEVER THE INPUT: true; the input reads as it did. -/
def fnExactSignOfSpec : ChangeSpec := { name := "fnExactSignOf", fn := fun _ => fun
  | [d] => { results := [.lit (.bool true)], args := [d] }
  | _ => none }
def fnExactSignOfRow : OpenClaim := { program := "ytloacmfafccofaa", sum := "7d25849bb3f225f659ea1aad52271726b05f6cb8f6e734357dfebfaa262f75d1", func := "loop.example/g00920/laws.FnExactSignOf", spec := "fnExactSignOf", recurses := true, apart := false }
def FnExactSignOfSaid : Prop := fnExactSignOfRow.holds Try.pinned (OpenSpec.ofChange fnExactSignOfSpec)

/-- ITS FALSE NEIGHBOUR: 'it returns false'. Refute it at one input. -/
def fnExactSignOfWrong : ChangeSpec := { name := "fnExactSignOf", fn := fun _ => fun
  | [d] => { results := [.lit (.bool false)], args := [d] }
  | _ => none }
def FnExactSignOfWrongFalsely : Prop := fnExactSignOfRow.holds Try.pinned (OpenSpec.ofChange fnExactSignOfWrong)

/-- 'laws.FnExactRankPermutation': WHATEVER THE INPUT: true; the input reads as it did. -/
def fnExactRankPermutationSpec : ChangeSpec := { name := "fnExactRankPermutation", fn := fun _ => fun
  | [d] => { results := [.lit (.bool true)], args := [d] }
  | _ => none }
def fnExactRankPermutationRow : OpenClaim := { program := "ytloacmfafccofaa", sum := "7d25849bb3f225f659ea1aad52271726b05f6cb8f6e734357dfebfaa262f75d1", func := "loop.example/g00920/laws.FnExactRankPermutation", spec := "fnExactRankPermutation", recurses := true, apart := false }
def FnExactRankPermutationSaid : Prop := fnExactRankPermutationRow.holds Try.pinned (OpenSpec.ofChange fnExactRankPermutationSpec)

/-- ITS FALSE NEIGHBOUR: 'it returns false'. Refute it at one input. -/
def fnExactRankPermutationWrong : ChangeSpec := { name := "fnExactRankPermutation", fn := fun _ => fun
  | [d] => { results := [.lit (.bool false)], args := [d] }
  | _ => none }
def FnExactRankPermutationWrongFalsely : Prop := fnExactRankPermutationRow.holds Try.pinned (OpenSpec.ofChange fnExactRankPermutationWrong)

/-- 'laws.FnExactOrderOfPermutation': WHATEVER THE INPUT: true; the input reads as it did. -/
def fnExactOrderOfPermutationSpec : ChangeSpec := { name := "fnExactOrderOfPermutation", fn := fun _ => fun
  | [d] => { results := [.lit (.bool true)], args := [d] }
  | _ => none }
def fnExactOrderOfPermutationRow : OpenClaim := { program := "ytloacmfafccofaa", sum := "7d25849bb3f225f659ea1aad52271726b05f6cb8f6e734357dfebfaa262f75d1", func := "loop.example/g00920/laws.FnExactOrderOfPermutation", spec := "fnExactOrderOfPermutation", recurses := true, apart := false }
def FnExactOrderOfPermutationSaid : Prop := fnExactOrderOfPermutationRow.holds Try.pinned (OpenSpec.ofChange fnExactOrderOfPermutationSpec)

/-- ITS FALSE NEIGHBOUR: 'it returns false'. Refute it at one input. -/
def fnExactOrderOfPermutationWrong : ChangeSpec := { name := "fnExactOrderOfPermutation", fn := fun _ => fun
  | [d] => { results := [.lit (.bool false)], args := [d] }
  | _ => none }
def FnExactOrderOfPermutationWrongFalsely : Prop := fnExactOrderOfPermutationRow.holds Try.pinned (OpenSpec.ofChange fnExactOrderOfPermutationWrong)

/-- 'laws.FnExactCyclesOf': WHATEVER THE INPUT: true; the input reads as it did. -/
def fnExactCyclesOfSpec : ChangeSpec := { name := "fnExactCyclesOf", fn := fun _ => fun
  | [d] => { results := [.lit (.bool true)], args := [d] }
  | _ => none }
def fnExactCyclesOfRow : OpenClaim := { program := "ytloacmfafccofaa", sum := "7d25849bb3f225f659ea1aad52271726b05f6cb8f6e734357dfebfaa262f75d1", func := "loop.example/g00920/laws.FnExactCyclesOf", spec := "fnExactCyclesOf", recurses := true, apart := false }
def FnExactCyclesOfSaid : Prop := fnExactCyclesOfRow.holds Try.pinned (OpenSpec.ofChange fnExactCyclesOfSpec)

/-- ITS FALSE NEIGHBOUR: 'it returns false'. Refute it at one input. -/
def fnExactCyclesOfWrong : ChangeSpec := { name := "fnExactCyclesOf", fn := fun _ => fun
  | [d] => { results := [.lit (.bool false)], args := [d] }
  | _ => none }
def FnExactCyclesOfWrongFalsely : Prop := fnExactCyclesOfRow.holds Try.pinned (OpenSpec.ofChange fnExactCyclesOfWrong)

/-- 'laws.FnExactApplySet': WHATEVER THE INPUT: true; the input reads as it did. -/
def fnExactApplySetSpec : ChangeSpec := { name := "fnExactApplySet", fn := fun _ => fun
  | [d1, d2] => { results := [.lit (.bool true)], args := [d1, d2] }
  | _ => none }
def fnExactApplySetRow : OpenClaim := { program := "ytloacmfafccofaa", sum := "7d25849bb3f225f659ea1aad52271726b05f6cb8f6e734357dfebfaa262f75d1", func := "loop.example/g00920/laws.FnExactApplySet", spec := "fnExactApplySet", recurses := true, apart := false }
def FnExactApplySetSaid : Prop := fnExactApplySetRow.holds Try.pinned (OpenSpec.ofChange fnExactApplySetSpec)

/-- ITS FALSE NEIGHBOUR: 'it returns false'. Refute it at one input. -/
def fnExactApplySetWrong : ChangeSpec := { name := "fnExactApplySet", fn := fun _ => fun
  | [d1, d2] => { results := [.lit (.bool false)], args := [d1, d2] }
  | _ => none }
def FnExactApplySetWrongFalsely : Prop := fnExactApplySetRow.holds Try.pinned (OpenSpec.ofChange fnExactApplySetWrong)

/-- 'laws.FnExactPowerPermutation': WHATEVER THE INPUT: true; the input reads as it did. -/
def fnExactPowerPermutationSpec : ChangeSpec := { name := "fnExactPowerPermutation", fn := fun _ => fun
  | [d1, d2] => { results := [.lit (.bool true)], args := [d1, d2] }
  | _ => none }
def fnExactPowerPermutationRow : OpenClaim := { program := "ytloacmfafccofaa", sum := "7d25849bb3f225f659ea1aad52271726b05f6cb8f6e734357dfebfaa262f75d1", func := "loop.example/g00920/laws.FnExactPowerPermutation", spec := "fnExactPowerPermutation", recurses := true, apart := false }
def FnExactPowerPermutationSaid : Prop := fnExactPowerPermutationRow.holds Try.pinned (OpenSpec.ofChange fnExactPowerPermutationSpec)

/-- ITS FALSE NEIGHBOUR: 'it returns false'. Refute it at one input. -/
def fnExactPowerPermutationWrong : ChangeSpec := { name := "fnExactPowerPermutation", fn := fun _ => fun
  | [d1, d2] => { results := [.lit (.bool false)], args := [d1, d2] }
  | _ => none }
def FnExactPowerPermutationWrongFalsely : Prop := fnExactPowerPermutationRow.holds Try.pinned (OpenSpec.ofChange fnExactPowerPermutationWrong)

/-- 'laws.FnExactCycleType': WHATEVER THE INPUT: true; the input reads as it did. -/
def fnExactCycleTypeSpec : ChangeSpec := { name := "fnExactCycleType", fn := fun _ => fun
  | [d] => { results := [.lit (.bool true)], args := [d] }
  | _ => none }
def fnExactCycleTypeRow : OpenClaim := { program := "ytloacmfafccofaa", sum := "7d25849bb3f225f659ea1aad52271726b05f6cb8f6e734357dfebfaa262f75d1", func := "loop.example/g00920/laws.FnExactCycleType", spec := "fnExactCycleType", unfollowed := true, recurses := true, apart := false }
def FnExactCycleTypeSaid : Prop := fnExactCycleTypeRow.holds Try.pinned (OpenSpec.ofChange fnExactCycleTypeSpec)

/-- ITS FALSE NEIGHBOUR: 'it returns false'. Refute it at one input. -/
def fnExactCycleTypeWrong : ChangeSpec := { name := "fnExactCycleType", fn := fun _ => fun
  | [d] => { results := [.lit (.bool false)], args := [d] }
  | _ => none }
def FnExactCycleTypeWrongFalsely : Prop := fnExactCycleTypeRow.holds Try.pinned (OpenSpec.ofChange fnExactCycleTypeWrong)

/-- 'laws.FnExactUnrankPermutation': WHATEVER THE INPUT: true; the input reads as it did. -/
def fnExactUnrankPermutationSpec : ChangeSpec := { name := "fnExactUnrankPermutation", fn := fun _ => fun
  | [d1, d2] => { results := [.lit (.bool true)], args := [d1, d2] }
  | _ => none }
def fnExactUnrankPermutationRow : OpenClaim := { program := "ytloacmfafccofaa", sum := "7d25849bb3f225f659ea1aad52271726b05f6cb8f6e734357dfebfaa262f75d1", func := "loop.example/g00920/laws.FnExactUnrankPermutation", spec := "fnExactUnrankPermutation", apart := false }
def FnExactUnrankPermutationSaid : Prop := fnExactUnrankPermutationRow.holds Try.pinned (OpenSpec.ofChange fnExactUnrankPermutationSpec)

/-- ITS FALSE NEIGHBOUR: 'it returns false'. Refute it at one input. -/
def fnExactUnrankPermutationWrong : ChangeSpec := { name := "fnExactUnrankPermutation", fn := fun _ => fun
  | [d1, d2] => { results := [.lit (.bool false)], args := [d1, d2] }
  | _ => none }
def FnExactUnrankPermutationWrongFalsely : Prop := fnExactUnrankPermutationRow.holds Try.pinned (OpenSpec.ofChange fnExactUnrankPermutationWrong)

/-- 'laws.FnExactPermutationOfCycles': WHATEVER THE INPUT: true; the input reads as it did. -/
def fnExactPermutationOfCyclesSpec : ChangeSpec := { name := "fnExactPermutationOfCycles", fn := fun _ => fun
  | [d1, d2] => { results := [.lit (.bool true)], args := [d1, d2] }
  | _ => none }
def fnExactPermutationOfCyclesRow : OpenClaim := { program := "ytloacmfafccofaa", sum := "7d25849bb3f225f659ea1aad52271726b05f6cb8f6e734357dfebfaa262f75d1", func := "loop.example/g00920/laws.FnExactPermutationOfCycles", spec := "fnExactPermutationOfCycles", apart := false }
def FnExactPermutationOfCyclesSaid : Prop := fnExactPermutationOfCyclesRow.holds Try.pinned (OpenSpec.ofChange fnExactPermutationOfCyclesSpec)

/-- ITS FALSE NEIGHBOUR: 'it returns false'. Refute it at one input. -/
def fnExactPermutationOfCyclesWrong : ChangeSpec := { name := "fnExactPermutationOfCycles", fn := fun _ => fun
  | [d1, d2] => { results := [.lit (.bool false)], args := [d1, d2] }
  | _ => none }
def FnExactPermutationOfCyclesWrongFalsely : Prop := fnExactPermutationOfCyclesRow.holds Try.pinned (OpenSpec.ofChange fnExactPermutationOfCyclesWrong)

/-- 'laws.FnExactSameField': WHATEVER THE INPUT: true; the input reads as it did. -/
def fnExactSameFieldSpec : ChangeSpec := { name := "fnExactSameField", fn := fun _ => fun
  | [d1, d2] => { results := [.lit (.bool true)], args := [d1, d2] }
  | _ => none }
def fnExactSameFieldRow : OpenClaim := { program := "ytloacmfafccofaa", sum := "7d25849bb3f225f659ea1aad52271726b05f6cb8f6e734357dfebfaa262f75d1", func := "loop.example/g00920/laws.FnExactSameField", spec := "fnExactSameField", apart := false }
def FnExactSameFieldSaid : Prop := fnExactSameFieldRow.holds Try.pinned (OpenSpec.ofChange fnExactSameFieldSpec)

/-- ITS FALSE NEIGHBOUR: 'it returns false'. Refute it at one input. -/
def fnExactSameFieldWrong : ChangeSpec := { name := "fnExactSameField", fn := fun _ => fun
  | [d1, d2] => { results := [.lit (.bool false)], args := [d1, d2] }
  | _ => none }
def FnExactSameFieldWrongFalsely : Prop := fnExactSameFieldRow.holds Try.pinned (OpenSpec.ofChange fnExactSameFieldWrong)

/- THE SECOND FORM. 'bulk': how many values and letters a reading holds, each counted each time it is reached (what is shared counts as often as it is met; a slice's spare places count too). A statement '..UptoSaid' is the law's where the arguments, and the package variables that the reading takes, are together of bulk at most 1048576: NARROWER than '..Said'. Prove '..Said' where nothing that the law and all that it calls make is longer than what came in: it says more and counts as full. Else prove '..UptoSaid'. A law counts once. -/
mutual
def uptoBulk {H : Type} : DataW H → Nat
  | .lit (.string bytes) => bytes.length + 1
  | .lit _ => 1
  | .nil => 1
  | .ptr d => uptoBulk d + 1
  | .slice elems spare => uptoBulkAll elems + uptoBulkAll spare + 1
  | .agg parts => uptoBulkAll parts + 1
  | .iface _ d => uptoBulk d + 1
  | .map entries => uptoBulkEntries entries + 1
  | .held _ => 1
def uptoBulkAll {H : Type} : List (DataW H) → Nat
  | [] => 0
  | d :: r => uptoBulk d + uptoBulkAll r
def uptoBulkEntries {H : Type} : List (Lit × DataW H) → Nat
  | [] => 0
  | x :: r => uptoBulkEntry x + uptoBulkEntries r
def uptoBulkEntry {H : Type} : Lit × DataW H → Nat
  | (.string bytes, d) => bytes.length + uptoBulk d + 1
  | (_, d) => uptoBulk d + 1
 end
def uptoSmall : (H : Type) → List (DataW H) → Bool := fun _ ds => decide (uptoBulkAll ds ≤ 1048576)
def OpenSpec.upto (s : _root_.Go.ChangeSpec) : _root_.Go.OpenSpec := { _root_.Go.OpenSpec.ofChange s with cond := some uptoSmall }

/-- 'laws.FnExactSignOf', WHERE WHAT IT READS IS OF BULK AT MOST 1048576: true; the input reads as it did. -/
def fnExactSignOfUptoRow : OpenClaim := { program := "ytloacmfafccofaa", sum := "7d25849bb3f225f659ea1aad52271726b05f6cb8f6e734357dfebfaa262f75d1", func := "loop.example/g00920/laws.FnExactSignOf", spec := "fnExactSignOf", recurses := true, apart := false, narrowed := true }
def FnExactSignOfUptoSaid : Prop := fnExactSignOfUptoRow.holds Try.pinned (OpenSpec.upto fnExactSignOfSpec)

/-- 'laws.FnExactRankPermutation', WHERE WHAT IT READS IS OF BULK AT MOST 1048576: true; the input reads as it did. -/
def fnExactRankPermutationUptoRow : OpenClaim := { program := "ytloacmfafccofaa", sum := "7d25849bb3f225f659ea1aad52271726b05f6cb8f6e734357dfebfaa262f75d1", func := "loop.example/g00920/laws.FnExactRankPermutation", spec := "fnExactRankPermutation", recurses := true, apart := false, narrowed := true }
def FnExactRankPermutationUptoSaid : Prop := fnExactRankPermutationUptoRow.holds Try.pinned (OpenSpec.upto fnExactRankPermutationSpec)

/-- 'laws.FnExactOrderOfPermutation', WHERE WHAT IT READS IS OF BULK AT MOST 1048576: true; the input reads as it did. -/
def fnExactOrderOfPermutationUptoRow : OpenClaim := { program := "ytloacmfafccofaa", sum := "7d25849bb3f225f659ea1aad52271726b05f6cb8f6e734357dfebfaa262f75d1", func := "loop.example/g00920/laws.FnExactOrderOfPermutation", spec := "fnExactOrderOfPermutation", recurses := true, apart := false, narrowed := true }
def FnExactOrderOfPermutationUptoSaid : Prop := fnExactOrderOfPermutationUptoRow.holds Try.pinned (OpenSpec.upto fnExactOrderOfPermutationSpec)

/-- 'laws.FnExactCyclesOf', WHERE WHAT IT READS IS OF BULK AT MOST 1048576: true; the input reads as it did. -/
def fnExactCyclesOfUptoRow : OpenClaim := { program := "ytloacmfafccofaa", sum := "7d25849bb3f225f659ea1aad52271726b05f6cb8f6e734357dfebfaa262f75d1", func := "loop.example/g00920/laws.FnExactCyclesOf", spec := "fnExactCyclesOf", recurses := true, apart := false, narrowed := true }
def FnExactCyclesOfUptoSaid : Prop := fnExactCyclesOfUptoRow.holds Try.pinned (OpenSpec.upto fnExactCyclesOfSpec)

/-- 'laws.FnExactApplySet', WHERE WHAT IT READS IS OF BULK AT MOST 1048576: true; the input reads as it did. -/
def fnExactApplySetUptoRow : OpenClaim := { program := "ytloacmfafccofaa", sum := "7d25849bb3f225f659ea1aad52271726b05f6cb8f6e734357dfebfaa262f75d1", func := "loop.example/g00920/laws.FnExactApplySet", spec := "fnExactApplySet", recurses := true, apart := false, narrowed := true }
def FnExactApplySetUptoSaid : Prop := fnExactApplySetUptoRow.holds Try.pinned (OpenSpec.upto fnExactApplySetSpec)

/-- 'laws.FnExactPowerPermutation', WHERE WHAT IT READS IS OF BULK AT MOST 1048576: true; the input reads as it did. -/
def fnExactPowerPermutationUptoRow : OpenClaim := { program := "ytloacmfafccofaa", sum := "7d25849bb3f225f659ea1aad52271726b05f6cb8f6e734357dfebfaa262f75d1", func := "loop.example/g00920/laws.FnExactPowerPermutation", spec := "fnExactPowerPermutation", recurses := true, apart := false, narrowed := true }
def FnExactPowerPermutationUptoSaid : Prop := fnExactPowerPermutationUptoRow.holds Try.pinned (OpenSpec.upto fnExactPowerPermutationSpec)

/-- 'laws.FnExactCycleType', WHERE WHAT IT READS IS OF BULK AT MOST 1048576: true; the input reads as it did. -/
def fnExactCycleTypeUptoRow : OpenClaim := { program := "ytloacmfafccofaa", sum := "7d25849bb3f225f659ea1aad52271726b05f6cb8f6e734357dfebfaa262f75d1", func := "loop.example/g00920/laws.FnExactCycleType", spec := "fnExactCycleType", unfollowed := true, recurses := true, apart := false, narrowed := true }
def FnExactCycleTypeUptoSaid : Prop := fnExactCycleTypeUptoRow.holds Try.pinned (OpenSpec.upto fnExactCycleTypeSpec)

/-- 'laws.FnExactUnrankPermutation', WHERE WHAT IT READS IS OF BULK AT MOST 1048576: true; the input reads as it did. -/
def fnExactUnrankPermutationUptoRow : OpenClaim := { program := "ytloacmfafccofaa", sum := "7d25849bb3f225f659ea1aad52271726b05f6cb8f6e734357dfebfaa262f75d1", func := "loop.example/g00920/laws.FnExactUnrankPermutation", spec := "fnExactUnrankPermutation", apart := false, narrowed := true }
def FnExactUnrankPermutationUptoSaid : Prop := fnExactUnrankPermutationUptoRow.holds Try.pinned (OpenSpec.upto fnExactUnrankPermutationSpec)

/-- 'laws.FnExactPermutationOfCycles', WHERE WHAT IT READS IS OF BULK AT MOST 1048576: true; the input reads as it did. -/
def fnExactPermutationOfCyclesUptoRow : OpenClaim := { program := "ytloacmfafccofaa", sum := "7d25849bb3f225f659ea1aad52271726b05f6cb8f6e734357dfebfaa262f75d1", func := "loop.example/g00920/laws.FnExactPermutationOfCycles", spec := "fnExactPermutationOfCycles", apart := false, narrowed := true }
def FnExactPermutationOfCyclesUptoSaid : Prop := fnExactPermutationOfCyclesUptoRow.holds Try.pinned (OpenSpec.upto fnExactPermutationOfCyclesSpec)

/-- 'laws.FnExactSameField', WHERE WHAT IT READS IS OF BULK AT MOST 1048576: true; the input reads as it did. -/
def fnExactSameFieldUptoRow : OpenClaim := { program := "ytloacmfafccofaa", sum := "7d25849bb3f225f659ea1aad52271726b05f6cb8f6e734357dfebfaa262f75d1", func := "loop.example/g00920/laws.FnExactSameField", spec := "fnExactSameField", apart := false, narrowed := true }
def FnExactSameFieldUptoSaid : Prop := fnExactSameFieldUptoRow.holds Try.pinned (OpenSpec.upto fnExactSameFieldSpec)

end Rows
end Go.Proofs.Ytloacmfafccofaa
