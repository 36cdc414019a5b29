/-
  No cell of these rows narrows 'for every input' (looked for: loops, veiled, ifaces, maps, wideKeys, modest, calm, conditions, laid).
  DERIVED. THE GIVEN ROWS OF THIS SEAT. 12 by the template 'for every input the law returns true; each argument reads behind the call as it read before'; 0 by the template 'total and deterministic' (their statements: YtnibjljamogbeaaTotals.lean).
  GIVEN WITH THE SEED: the statements are not yours to turn. If you find one false, say at which input.
  Laid BY PROGRAM, IN A SANDBOX (cutbox-rows.mjs): the forced cells as the released guide's own fill.sh prints them over the translation ab234589f23eca8b… (all of the seat's roots in one cut). By AI agents, Wed Nov 11 2026. No macro, syntax, notation, axiom, sorry.
-/
import Derived.Test.YtnibjljamogbeaaChecked
import GoSem.Claim
import GoSem.ClaimJoined
import GoSem.ClaimMapViews
import Derived.JoinedTies
import Derived.KernelRfl
namespace Go.Proofs.Ytnibjljamogbeaa
/- THE CELL 'sum', in the pinned program and in every row, IS THE sha256 OF THE DUMP (.gsa) THAT YtnibjljamogbeaaProg.lean LOADS. Nothing in Lean hashes anything: it is a label: what it is worth is what the hold of that sum in a sandbox is worth. -/
noncomputable def Try.pinned : Pinned := { name := "ytnibjljamogbeaa", sum := "ab234589f23eca8b5dcc108d87f70a83da971c52a6ead06afde2340e26ec1182", checked := Try.checked }
namespace Rows
def none {H : Type} : Left H := { results := [], args := [] }

/-- 'laws.FnExactOrderMod': WHATEVER THE INPUT: true; the input reads as it did. -/
def fnExactOrderModSpec : ChangeSpec := { name := "fnExactOrderMod", fn := fun _ => fun
  | [d1, d2] => { results := [.lit (.bool true)], args := [d1, d2] }
  | _ => none }
def fnExactOrderModRow : OpenClaim := { program := "ytnibjljamogbeaa", sum := "ab234589f23eca8b5dcc108d87f70a83da971c52a6ead06afde2340e26ec1182", func := "loop.example/g00920/laws.FnExactOrderMod", spec := "fnExactOrderMod", apart := false }
def FnExactOrderModSaid : Prop := fnExactOrderModRow.holds Try.pinned (OpenSpec.ofChange fnExactOrderModSpec)

/-- ITS FALSE NEIGHBOUR: 'it returns false'. Refute it at one input. -/
def fnExactOrderModWrong : ChangeSpec := { name := "fnExactOrderMod", fn := fun _ => fun
  | [d1, d2] => { results := [.lit (.bool false)], args := [d1, d2] }
  | _ => none }
def FnExactOrderModWrongFalsely : Prop := fnExactOrderModRow.holds Try.pinned (OpenSpec.ofChange fnExactOrderModWrong)

/-- 'laws.FnExactPrimePower': WHATEVER THE INPUT: true; the input reads as it did. -/
def fnExactPrimePowerSpec : ChangeSpec := { name := "fnExactPrimePower", fn := fun _ => fun
  | [d] => { results := [.lit (.bool true)], args := [d] }
  | _ => none }
def fnExactPrimePowerRow : OpenClaim := { program := "ytnibjljamogbeaa", sum := "ab234589f23eca8b5dcc108d87f70a83da971c52a6ead06afde2340e26ec1182", func := "loop.example/g00920/laws.FnExactPrimePower", spec := "fnExactPrimePower", apart := false }
def FnExactPrimePowerSaid : Prop := fnExactPrimePowerRow.holds Try.pinned (OpenSpec.ofChange fnExactPrimePowerSpec)

/-- ITS FALSE NEIGHBOUR: 'it returns false'. Refute it at one input. -/
def fnExactPrimePowerWrong : ChangeSpec := { name := "fnExactPrimePower", fn := fun _ => fun
  | [d] => { results := [.lit (.bool false)], args := [d] }
  | _ => none }
def FnExactPrimePowerWrongFalsely : Prop := fnExactPrimePowerRow.holds Try.pinned (OpenSpec.ofChange fnExactPrimePowerWrong)

/-- 'laws.FnExactIdentityPermutation': WHATEVER THE INPUT: true; the input reads as it did. -/
def fnExactIdentityPermutationSpec : ChangeSpec := { name := "fnExactIdentityPermutation", fn := fun _ => fun
  | [d] => { results := [.lit (.bool true)], args := [d] }
  | _ => none }
def fnExactIdentityPermutationRow : OpenClaim := { program := "ytnibjljamogbeaa", sum := "ab234589f23eca8b5dcc108d87f70a83da971c52a6ead06afde2340e26ec1182", func := "loop.example/g00920/laws.FnExactIdentityPermutation", spec := "fnExactIdentityPermutation", apart := false }
def FnExactIdentityPermutationSaid : Prop := fnExactIdentityPermutationRow.holds Try.pinned (OpenSpec.ofChange fnExactIdentityPermutationSpec)

/-- ITS FALSE NEIGHBOUR: 'it returns false'. Refute it at one input. -/
def fnExactIdentityPermutationWrong : ChangeSpec := { name := "fnExactIdentityPermutation", fn := fun _ => fun
  | [d] => { results := [.lit (.bool false)], args := [d] }
  | _ => none }
def FnExactIdentityPermutationWrongFalsely : Prop := fnExactIdentityPermutationRow.holds Try.pinned (OpenSpec.ofChange fnExactIdentityPermutationWrong)

/-- 'laws.FnExactFactorsOf': WHATEVER THE INPUT: true; the input reads as it did. -/
def fnExactFactorsOfSpec : ChangeSpec := { name := "fnExactFactorsOf", fn := fun _ => fun
  | [d] => { results := [.lit (.bool true)], args := [d] }
  | _ => none }
def fnExactFactorsOfRow : OpenClaim := { program := "ytnibjljamogbeaa", sum := "ab234589f23eca8b5dcc108d87f70a83da971c52a6ead06afde2340e26ec1182", func := "loop.example/g00920/laws.FnExactFactorsOf", spec := "fnExactFactorsOf", apart := false }
def FnExactFactorsOfSaid : Prop := fnExactFactorsOfRow.holds Try.pinned (OpenSpec.ofChange fnExactFactorsOfSpec)

/-- ITS FALSE NEIGHBOUR: 'it returns false'. Refute it at one input. -/
def fnExactFactorsOfWrong : ChangeSpec := { name := "fnExactFactorsOf", fn := fun _ => fun
  | [d] => { results := [.lit (.bool false)], args := [d] }
  | _ => none }
def FnExactFactorsOfWrongFalsely : Prop := fnExactFactorsOfRow.holds Try.pinned (OpenSpec.ofChange fnExactFactorsOfWrong)

/-- 'laws.FnExactSquaresMod': WHATEVER THE INPUT: true; the input reads as it did. -/
def fnExactSquaresModSpec : ChangeSpec := { name := "fnExactSquaresMod", fn := fun _ => fun
  | [d] => { results := [.lit (.bool true)], args := [d] }
  | _ => none }
def fnExactSquaresModRow : OpenClaim := { program := "ytnibjljamogbeaa", sum := "ab234589f23eca8b5dcc108d87f70a83da971c52a6ead06afde2340e26ec1182", func := "loop.example/g00920/laws.FnExactSquaresMod", spec := "fnExactSquaresMod", apart := false }
def FnExactSquaresModSaid : Prop := fnExactSquaresModRow.holds Try.pinned (OpenSpec.ofChange fnExactSquaresModSpec)

/-- ITS FALSE NEIGHBOUR: 'it returns false'. Refute it at one input. -/
def fnExactSquaresModWrong : ChangeSpec := { name := "fnExactSquaresMod", fn := fun _ => fun
  | [d] => { results := [.lit (.bool false)], args := [d] }
  | _ => none }
def FnExactSquaresModWrongFalsely : Prop := fnExactSquaresModRow.holds Try.pinned (OpenSpec.ofChange fnExactSquaresModWrong)

/-- 'laws.FnExactCompareLists': WHATEVER THE INPUT: true; the input reads as it did. -/
def fnExactCompareListsSpec : ChangeSpec := { name := "fnExactCompareLists", fn := fun _ => fun
  | [d1, d2] => { results := [.lit (.bool true)], args := [d1, d2] }
  | _ => none }
def fnExactCompareListsRow : OpenClaim := { program := "ytnibjljamogbeaa", sum := "ab234589f23eca8b5dcc108d87f70a83da971c52a6ead06afde2340e26ec1182", func := "loop.example/g00920/laws.FnExactCompareLists", spec := "fnExactCompareLists", apart := false }
def FnExactCompareListsSaid : Prop := fnExactCompareListsRow.holds Try.pinned (OpenSpec.ofChange fnExactCompareListsSpec)

/-- ITS FALSE NEIGHBOUR: 'it returns false'. Refute it at one input. -/
def fnExactCompareListsWrong : ChangeSpec := { name := "fnExactCompareLists", fn := fun _ => fun
  | [d1, d2] => { results := [.lit (.bool false)], args := [d1, d2] }
  | _ => none }
def FnExactCompareListsWrongFalsely : Prop := fnExactCompareListsRow.holds Try.pinned (OpenSpec.ofChange fnExactCompareListsWrong)

/-- 'laws.FnExactSameField': WHATEVER THE INPUT: true; the input reads as it did. -/
def fnExactSameFieldSpec : ChangeSpec := { name := "fnExactSameField", fn := fun _ => fun
  | [d1, d2] => { results := [.lit (.bool true)], args := [d1, d2] }
  | _ => none }
def fnExactSameFieldRow : OpenClaim := { program := "ytnibjljamogbeaa", sum := "ab234589f23eca8b5dcc108d87f70a83da971c52a6ead06afde2340e26ec1182", func := "loop.example/g00920/laws.FnExactSameField", spec := "fnExactSameField", apart := false }
def FnExactSameFieldSaid : Prop := fnExactSameFieldRow.holds Try.pinned (OpenSpec.ofChange fnExactSameFieldSpec)

/-- ITS FALSE NEIGHBOUR: 'it returns false'. Refute it at one input. -/
def fnExactSameFieldWrong : ChangeSpec := { name := "fnExactSameField", fn := fun _ => fun
  | [d1, d2] => { results := [.lit (.bool false)], args := [d1, d2] }
  | _ => none }
def FnExactSameFieldWrongFalsely : Prop := fnExactSameFieldRow.holds Try.pinned (OpenSpec.ofChange fnExactSameFieldWrong)

/-- 'laws.FnExactUnrankSubset': WHATEVER THE INPUT: true; the input reads as it did. -/
def fnExactUnrankSubsetSpec : ChangeSpec := { name := "fnExactUnrankSubset", fn := fun _ => fun
  | [d1, d2, d3] => { results := [.lit (.bool true)], args := [d1, d2, d3] }
  | _ => none }
def fnExactUnrankSubsetRow : OpenClaim := { program := "ytnibjljamogbeaa", sum := "ab234589f23eca8b5dcc108d87f70a83da971c52a6ead06afde2340e26ec1182", func := "loop.example/g00920/laws.FnExactUnrankSubset", spec := "fnExactUnrankSubset", apart := false }
def FnExactUnrankSubsetSaid : Prop := fnExactUnrankSubsetRow.holds Try.pinned (OpenSpec.ofChange fnExactUnrankSubsetSpec)

/-- ITS FALSE NEIGHBOUR: 'it returns false'. Refute it at one input. -/
def fnExactUnrankSubsetWrong : ChangeSpec := { name := "fnExactUnrankSubset", fn := fun _ => fun
  | [d1, d2, d3] => { results := [.lit (.bool false)], args := [d1, d2, d3] }
  | _ => none }
def FnExactUnrankSubsetWrongFalsely : Prop := fnExactUnrankSubsetRow.holds Try.pinned (OpenSpec.ofChange fnExactUnrankSubsetWrong)

/-- 'laws.FnExactPrimitiveRoot': WHATEVER THE INPUT: true; the input reads as it did. -/
def fnExactPrimitiveRootSpec : ChangeSpec := { name := "fnExactPrimitiveRoot", fn := fun _ => fun
  | [d] => { results := [.lit (.bool true)], args := [d] }
  | _ => none }
def fnExactPrimitiveRootRow : OpenClaim := { program := "ytnibjljamogbeaa", sum := "ab234589f23eca8b5dcc108d87f70a83da971c52a6ead06afde2340e26ec1182", func := "loop.example/g00920/laws.FnExactPrimitiveRoot", spec := "fnExactPrimitiveRoot", apart := false }
def FnExactPrimitiveRootSaid : Prop := fnExactPrimitiveRootRow.holds Try.pinned (OpenSpec.ofChange fnExactPrimitiveRootSpec)

/-- ITS FALSE NEIGHBOUR: 'it returns false'. Refute it at one input. -/
def fnExactPrimitiveRootWrong : ChangeSpec := { name := "fnExactPrimitiveRoot", fn := fun _ => fun
  | [d] => { results := [.lit (.bool false)], args := [d] }
  | _ => none }
def FnExactPrimitiveRootWrongFalsely : Prop := fnExactPrimitiveRootRow.holds Try.pinned (OpenSpec.ofChange fnExactPrimitiveRootWrong)

/-- 'laws.FnExactRankSubset': WHATEVER THE INPUT: true; the input reads as it did. -/
def fnExactRankSubsetSpec : ChangeSpec := { name := "fnExactRankSubset", fn := fun _ => fun
  | [d1, d2] => { results := [.lit (.bool true)], args := [d1, d2] }
  | _ => none }
def fnExactRankSubsetRow : OpenClaim := { program := "ytnibjljamogbeaa", sum := "ab234589f23eca8b5dcc108d87f70a83da971c52a6ead06afde2340e26ec1182", func := "loop.example/g00920/laws.FnExactRankSubset", spec := "fnExactRankSubset", apart := false }
def FnExactRankSubsetSaid : Prop := fnExactRankSubsetRow.holds Try.pinned (OpenSpec.ofChange fnExactRankSubsetSpec)

/-- ITS FALSE NEIGHBOUR: 'it returns false'. Refute it at one input. -/
def fnExactRankSubsetWrong : ChangeSpec := { name := "fnExactRankSubset", fn := fun _ => fun
  | [d1, d2] => { results := [.lit (.bool false)], args := [d1, d2] }
  | _ => none }
def FnExactRankSubsetWrongFalsely : Prop := fnExactRankSubsetRow.holds Try.pinned (OpenSpec.ofChange fnExactRankSubsetWrong)

/-- 'laws.FnExactFieldOrders': WHATEVER THE INPUT: true; the input reads as it did. -/
def fnExactFieldOrdersSpec : ChangeSpec := { name := "fnExactFieldOrders", fn := fun _ => fun
  | [] => { results := [.lit (.bool true)], args := [] }
  | _ => none }
def fnExactFieldOrdersRow : OpenClaim := { program := "ytnibjljamogbeaa", sum := "ab234589f23eca8b5dcc108d87f70a83da971c52a6ead06afde2340e26ec1182", func := "loop.example/g00920/laws.FnExactFieldOrders", spec := "fnExactFieldOrders", apart := false }
def FnExactFieldOrdersSaid : Prop := fnExactFieldOrdersRow.holds Try.pinned (OpenSpec.ofChange fnExactFieldOrdersSpec)

/-- ITS FALSE NEIGHBOUR: 'it returns false'. Refute it at one input. -/
def fnExactFieldOrdersWrong : ChangeSpec := { name := "fnExactFieldOrders", fn := fun _ => fun
  | [] => { results := [.lit (.bool false)], args := [] }
  | _ => none }
def FnExactFieldOrdersWrongFalsely : Prop := fnExactFieldOrdersRow.holds Try.pinned (OpenSpec.ofChange fnExactFieldOrdersWrong)

/-- 'laws.FnExactNextSubset': WHATEVER THE INPUT: true; the input reads as it did. -/
def fnExactNextSubsetSpec : ChangeSpec := { name := "fnExactNextSubset", fn := fun _ => fun
  | [d1, d2] => { results := [.lit (.bool true)], args := [d1, d2] }
  | _ => none }
def fnExactNextSubsetRow : OpenClaim := { program := "ytnibjljamogbeaa", sum := "ab234589f23eca8b5dcc108d87f70a83da971c52a6ead06afde2340e26ec1182", func := "loop.example/g00920/laws.FnExactNextSubset", spec := "fnExactNextSubset", apart := false }
def FnExactNextSubsetSaid : Prop := fnExactNextSubsetRow.holds Try.pinned (OpenSpec.ofChange fnExactNextSubsetSpec)

/-- ITS FALSE NEIGHBOUR: 'it returns false'. Refute it at one input. -/
def fnExactNextSubsetWrong : ChangeSpec := { name := "fnExactNextSubset", fn := fun _ => fun
  | [d1, d2] => { results := [.lit (.bool false)], args := [d1, d2] }
  | _ => none }
def FnExactNextSubsetWrongFalsely : Prop := fnExactNextSubsetRow.holds Try.pinned (OpenSpec.ofChange fnExactNextSubsetWrong)

/- THE SECOND FORM. 'bulk': how many values and letters a reading holds, each counted each time it is reached (what is shared counts as often as it is met; a slice's spare places count too). A statement '..UptoSaid' is the law's where the arguments, and the package variables that the reading takes, are together of bulk at most 1048576: NARROWER than '..Said'. Prove '..Said' where nothing that the law and all that it calls make is longer than what came in: it says more and counts as full. Else prove '..UptoSaid'. A law counts once. -/
mutual
def uptoBulk {H : Type} : DataW H → Nat
  | .lit (.string bytes) => bytes.length + 1
  | .lit _ => 1
  | .nil => 1
  | .ptr d => uptoBulk d + 1
  | .slice elems spare => uptoBulkAll elems + uptoBulkAll spare + 1
  | .agg parts => uptoBulkAll parts + 1
  | .iface _ d => uptoBulk d + 1
  | .map entries => uptoBulkEntries entries + 1
  | .held _ => 1
def uptoBulkAll {H : Type} : List (DataW H) → Nat
  | [] => 0
  | d :: r => uptoBulk d + uptoBulkAll r
def uptoBulkEntries {H : Type} : List (Lit × DataW H) → Nat
  | [] => 0
  | x :: r => uptoBulkEntry x + uptoBulkEntries r
def uptoBulkEntry {H : Type} : Lit × DataW H → Nat
  | (.string bytes, d) => bytes.length + uptoBulk d + 1
  | (_, d) => uptoBulk d + 1
 end
def uptoSmall : (H : Type) → List (DataW H) → Bool := fun _ ds => decide (uptoBulkAll ds ≤ 1048576)
def OpenSpec.upto (s : _root_.Go.ChangeSpec) : _root_.Go.OpenSpec := { _root_.Go.OpenSpec.ofChange s with cond := some uptoSmall }

/-- 'laws.FnExactOrderMod', WHERE WHAT IT READS IS OF BULK AT MOST 1048576: true; the input reads as it did. -/
def fnExactOrderModUptoRow : OpenClaim := { program := "ytnibjljamogbeaa", sum := "ab234589f23eca8b5dcc108d87f70a83da971c52a6ead06afde2340e26ec1182", func := "loop.example/g00920/laws.FnExactOrderMod", spec := "fnExactOrderMod", apart := false, narrowed := true }
def FnExactOrderModUptoSaid : Prop := fnExactOrderModUptoRow.holds Try.pinned (OpenSpec.upto fnExactOrderModSpec)

/-- 'laws.FnExactPrimePower', WHERE WHAT IT READS IS OF BULK AT MOST 1048576: true; the input reads as it did. -/
def fnExactPrimePowerUptoRow : OpenClaim := { program := "ytnibjljamogbeaa", sum := "ab234589f23eca8b5dcc108d87f70a83da971c52a6ead06afde2340e26ec1182", func := "loop.example/g00920/laws.FnExactPrimePower", spec := "fnExactPrimePower", apart := false, narrowed := true }
def FnExactPrimePowerUptoSaid : Prop := fnExactPrimePowerUptoRow.holds Try.pinned (OpenSpec.upto fnExactPrimePowerSpec)

/-- 'laws.FnExactIdentityPermutation', WHERE WHAT IT READS IS OF BULK AT MOST 1048576: true; the input reads as it did. -/
def fnExactIdentityPermutationUptoRow : OpenClaim := { program := "ytnibjljamogbeaa", sum := "ab234589f23eca8b5dcc108d87f70a83da971c52a6ead06afde2340e26ec1182", func := "loop.example/g00920/laws.FnExactIdentityPermutation", spec := "fnExactIdentityPermutation", apart := false, narrowed := true }
def FnExactIdentityPermutationUptoSaid : Prop := fnExactIdentityPermutationUptoRow.holds Try.pinned (OpenSpec.upto fnExactIdentityPermutationSpec)

/-- 'laws.FnExactFactorsOf', WHERE WHAT IT READS IS OF BULK AT MOST 1048576: true; the input reads as it did. -/
def fnExactFactorsOfUptoRow : OpenClaim := { program := "ytnibjljamogbeaa", sum := "ab234589f23eca8b5dcc108d87f70a83da971c52a6ead06afde2340e26ec1182", func := "loop.example/g00920/laws.FnExactFactorsOf", spec := "fnExactFactorsOf", apart := false, narrowed := true }
def FnExactFactorsOfUptoSaid : Prop := fnExactFactorsOfUptoRow.holds Try.pinned (OpenSpec.upto fnExactFactorsOfSpec)

/-- 'laws.FnExactSquaresMod', WHERE WHAT IT READS IS OF BULK AT MOST 1048576: true; the input reads as it did. -/
def fnExactSquaresModUptoRow : OpenClaim := { program := "ytnibjljamogbeaa", sum := "ab234589f23eca8b5dcc108d87f70a83da971c52a6ead06afde2340e26ec1182", func := "loop.example/g00920/laws.FnExactSquaresMod", spec := "fnExactSquaresMod", apart := false, narrowed := true }
def FnExactSquaresModUptoSaid : Prop := fnExactSquaresModUptoRow.holds Try.pinned (OpenSpec.upto fnExactSquaresModSpec)

/-- 'laws.FnExactCompareLists', WHERE WHAT IT READS IS OF BULK AT MOST 1048576: true; the input reads as it did. -/
def fnExactCompareListsUptoRow : OpenClaim := { program := "ytnibjljamogbeaa", sum := "ab234589f23eca8b5dcc108d87f70a83da971c52a6ead06afde2340e26ec1182", func := "loop.example/g00920/laws.FnExactCompareLists", spec := "fnExactCompareLists", apart := false, narrowed := true }
def FnExactCompareListsUptoSaid : Prop := fnExactCompareListsUptoRow.holds Try.pinned (OpenSpec.upto fnExactCompareListsSpec)

/-- 'laws.FnExactSameField', WHERE WHAT IT READS IS OF BULK AT MOST 1048576: true; the input reads as it did. -/
def fnExactSameFieldUptoRow : OpenClaim := { program := "ytnibjljamogbeaa", sum := "ab234589f23eca8b5dcc108d87f70a83da971c52a6ead06afde2340e26ec1182", func := "loop.example/g00920/laws.FnExactSameField", spec := "fnExactSameField", apart := false, narrowed := true }
def FnExactSameFieldUptoSaid : Prop := fnExactSameFieldUptoRow.holds Try.pinned (OpenSpec.upto fnExactSameFieldSpec)

/-- 'laws.FnExactUnrankSubset', WHERE WHAT IT READS IS OF BULK AT MOST 1048576: true; the input reads as it did. -/
def fnExactUnrankSubsetUptoRow : OpenClaim := { program := "ytnibjljamogbeaa", sum := "ab234589f23eca8b5dcc108d87f70a83da971c52a6ead06afde2340e26ec1182", func := "loop.example/g00920/laws.FnExactUnrankSubset", spec := "fnExactUnrankSubset", apart := false, narrowed := true }
def FnExactUnrankSubsetUptoSaid : Prop := fnExactUnrankSubsetUptoRow.holds Try.pinned (OpenSpec.upto fnExactUnrankSubsetSpec)

/-- 'laws.FnExactPrimitiveRoot', WHERE WHAT IT READS IS OF BULK AT MOST 1048576: true; the input reads as it did. -/
def fnExactPrimitiveRootUptoRow : OpenClaim := { program := "ytnibjljamogbeaa", sum := "ab234589f23eca8b5dcc108d87f70a83da971c52a6ead06afde2340e26ec1182", func := "loop.example/g00920/laws.FnExactPrimitiveRoot", spec := "fnExactPrimitiveRoot", apart := false, narrowed := true }
def FnExactPrimitiveRootUptoSaid : Prop := fnExactPrimitiveRootUptoRow.holds Try.pinned (OpenSpec.upto fnExactPrimitiveRootSpec)

/-- 'laws.FnExactRankSubset', WHERE WHAT IT READS IS OF BULK AT MOST 1048576: true; the input reads as it did. -/
def fnExactRankSubsetUptoRow : OpenClaim := { program := "ytnibjljamogbeaa", sum := "ab234589f23eca8b5dcc108d87f70a83da971c52a6ead06afde2340e26ec1182", func := "loop.example/g00920/laws.FnExactRankSubset", spec := "fnExactRankSubset", apart := false, narrowed := true }
def FnExactRankSubsetUptoSaid : Prop := fnExactRankSubsetUptoRow.holds Try.pinned (OpenSpec.upto fnExactRankSubsetSpec)

/-- 'laws.FnExactFieldOrders', WHERE WHAT IT READS IS OF BULK AT MOST 1048576: true; the input reads as it did. -/
def fnExactFieldOrdersUptoRow : OpenClaim := { program := "ytnibjljamogbeaa", sum := "ab234589f23eca8b5dcc108d87f70a83da971c52a6ead06afde2340e26ec1182", func := "loop.example/g00920/laws.FnExactFieldOrders", spec := "fnExactFieldOrders", apart := false, narrowed := true }
def FnExactFieldOrdersUptoSaid : Prop := fnExactFieldOrdersUptoRow.holds Try.pinned (OpenSpec.upto fnExactFieldOrdersSpec)

/-- 'laws.FnExactNextSubset', WHERE WHAT IT READS IS OF BULK AT MOST 1048576: true; the input reads as it did. -/
def fnExactNextSubsetUptoRow : OpenClaim := { program := "ytnibjljamogbeaa", sum := "ab234589f23eca8b5dcc108d87f70a83da971c52a6ead06afde2340e26ec1182", func := "loop.example/g00920/laws.FnExactNextSubset", spec := "fnExactNextSubset", apart := false, narrowed := true }
def FnExactNextSubsetUptoSaid : Prop := fnExactNextSubsetUptoRow.holds Try.pinned (OpenSpec.upto fnExactNextSubsetSpec)

end Rows
end Go.Proofs.Ytnibjljamogbeaa
