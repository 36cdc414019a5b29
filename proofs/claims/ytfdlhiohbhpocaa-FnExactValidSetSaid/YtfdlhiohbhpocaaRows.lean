/-
  No cell of these rows narrows 'for every input' (looked for: loops, veiled, ifaces, maps, wideKeys, modest, calm, conditions, laid).
  DERIVED. THE GIVEN ROWS OF THIS SEAT. 12 by the template 'for every input the law returns true; each argument reads behind the call as it read before'; 0 by the template 'total and deterministic' (their statements: YtfdlhiohbhpocaaTotals.lean).
  GIVEN WITH THE SEED: the statements are not yours to turn. If you find one false, say at which input.
  Laid BY PROGRAM, IN A SANDBOX (cutbox-rows.mjs): the forced cells as the released guide's own fill.sh prints them over the translation 9a41bf7d7434eb2a… (all of the seat's roots in one cut). By AI agents, Wed Nov 11 2026. No macro, syntax, notation, axiom, sorry.
-/
import Derived.Test.YtfdlhiohbhpocaaChecked
import GoSem.Claim
import GoSem.ClaimJoined
import GoSem.ClaimMapViews
import Derived.JoinedTies
import Derived.KernelRfl
namespace Go.Proofs.Ytfdlhiohbhpocaa
/- THE CELL 'sum', in the pinned program and in every row, IS THE sha256 OF THE DUMP (.gsa) THAT YtfdlhiohbhpocaaProg.lean LOADS. Nothing in Lean hashes anything: it is a label: what it is worth is what the hold of that sum in a sandbox is worth. -/
noncomputable def Try.pinned : Pinned := { name := "ytfdlhiohbhpocaa", sum := "9a41bf7d7434eb2a7460603da684d5df59da7d9a011eef5a15af19efa33e1dd4", checked := Try.checked }
namespace Rows
def none {H : Type} : Left H := { results := [], args := [] }

/-- 'laws.FnExactConstants': WHATEVER THE INPUT: true; the input reads as it did. -/
def fnExactConstantsSpec : ChangeSpec := { name := "fnExactConstants", fn := fun _ => fun
  | [] => { results := [.lit (.bool true)], args := [] }
  | _ => none }
def fnExactConstantsRow : OpenClaim := { program := "ytfdlhiohbhpocaa", sum := "9a41bf7d7434eb2a7460603da684d5df59da7d9a011eef5a15af19efa33e1dd4", func := "loop.example/g00920/laws.FnExactConstants", spec := "fnExactConstants", apart := false }
def FnExactConstantsSaid : Prop := fnExactConstantsRow.holds Try.pinned (OpenSpec.ofChange fnExactConstantsSpec)

/-- ITS FALSE NEIGHBOUR: 'it returns false'. Refute it at one input. -/
def fnExactConstantsWrong : ChangeSpec := { name := "fnExactConstants", fn := fun _ => fun
  | [] => { results := [.lit (.bool false)], args := [] }
  | _ => none }
def FnExactConstantsWrongFalsely : Prop := fnExactConstantsRow.holds Try.pinned (OpenSpec.ofChange fnExactConstantsWrong)

/-- 'laws.FnExactCodeName': WHATEVER THE INPUT: true; the input reads as it did. -/
def fnExactCodeNameSpec : ChangeSpec := { name := "fnExactCodeName", fn := fun _ => fun
  | [d] => { results := [.lit (.bool true)], args := [d] }
  | _ => none }
def fnExactCodeNameRow : OpenClaim := { program := "ytfdlhiohbhpocaa", sum := "9a41bf7d7434eb2a7460603da684d5df59da7d9a011eef5a15af19efa33e1dd4", func := "loop.example/g00920/laws.FnExactCodeName", spec := "fnExactCodeName", apart := false }
def FnExactCodeNameSaid : Prop := fnExactCodeNameRow.holds Try.pinned (OpenSpec.ofChange fnExactCodeNameSpec)

/-- ITS FALSE NEIGHBOUR: 'it returns false'. Refute it at one input. -/
def fnExactCodeNameWrong : ChangeSpec := { name := "fnExactCodeName", fn := fun _ => fun
  | [d] => { results := [.lit (.bool false)], args := [d] }
  | _ => none }
def FnExactCodeNameWrongFalsely : Prop := fnExactCodeNameRow.holds Try.pinned (OpenSpec.ofChange fnExactCodeNameWrong)

/-- 'laws.FnExactChoose': WHATEVER THE INPUT: true; the input reads as it did. -/
def fnExactChooseSpec : ChangeSpec := { name := "fnExactChoose", fn := fun _ => fun
  | [d1, d2] => { results := [.lit (.bool true)], args := [d1, d2] }
  | _ => none }
def fnExactChooseRow : OpenClaim := { program := "ytfdlhiohbhpocaa", sum := "9a41bf7d7434eb2a7460603da684d5df59da7d9a011eef5a15af19efa33e1dd4", func := "loop.example/g00920/laws.FnExactChoose", spec := "fnExactChoose", apart := false }
def FnExactChooseSaid : Prop := fnExactChooseRow.holds Try.pinned (OpenSpec.ofChange fnExactChooseSpec)

/-- ITS FALSE NEIGHBOUR: 'it returns false'. Refute it at one input. -/
def fnExactChooseWrong : ChangeSpec := { name := "fnExactChoose", fn := fun _ => fun
  | [d1, d2] => { results := [.lit (.bool false)], args := [d1, d2] }
  | _ => none }
def FnExactChooseWrongFalsely : Prop := fnExactChooseRow.holds Try.pinned (OpenSpec.ofChange fnExactChooseWrong)

/-- 'laws.FnExactIsName': WHATEVER THE INPUT: true; the input reads as it did. -/
def fnExactIsNameSpec : ChangeSpec := { name := "fnExactIsName", fn := fun _ => fun
  | [d] => { results := [.lit (.bool true)], args := [d] }
  | _ => none }
def fnExactIsNameRow : OpenClaim := { program := "ytfdlhiohbhpocaa", sum := "9a41bf7d7434eb2a7460603da684d5df59da7d9a011eef5a15af19efa33e1dd4", func := "loop.example/g00920/laws.FnExactIsName", spec := "fnExactIsName", apart := false }
def FnExactIsNameSaid : Prop := fnExactIsNameRow.holds Try.pinned (OpenSpec.ofChange fnExactIsNameSpec)

/-- ITS FALSE NEIGHBOUR: 'it returns false'. Refute it at one input. -/
def fnExactIsNameWrong : ChangeSpec := { name := "fnExactIsName", fn := fun _ => fun
  | [d] => { results := [.lit (.bool false)], args := [d] }
  | _ => none }
def FnExactIsNameWrongFalsely : Prop := fnExactIsNameRow.holds Try.pinned (OpenSpec.ofChange fnExactIsNameWrong)

/-- 'laws.FnExactInverseMod': WHATEVER THE INPUT: true; the input reads as it did. -/
def fnExactInverseModSpec : ChangeSpec := { name := "fnExactInverseMod", fn := fun _ => fun
  | [d1, d2] => { results := [.lit (.bool true)], args := [d1, d2] }
  | _ => none }
def fnExactInverseModRow : OpenClaim := { program := "ytfdlhiohbhpocaa", sum := "9a41bf7d7434eb2a7460603da684d5df59da7d9a011eef5a15af19efa33e1dd4", func := "loop.example/g00920/laws.FnExactInverseMod", spec := "fnExactInverseMod", apart := false }
def FnExactInverseModSaid : Prop := fnExactInverseModRow.holds Try.pinned (OpenSpec.ofChange fnExactInverseModSpec)

/-- ITS FALSE NEIGHBOUR: 'it returns false'. Refute it at one input. -/
def fnExactInverseModWrong : ChangeSpec := { name := "fnExactInverseMod", fn := fun _ => fun
  | [d1, d2] => { results := [.lit (.bool false)], args := [d1, d2] }
  | _ => none }
def FnExactInverseModWrongFalsely : Prop := fnExactInverseModRow.holds Try.pinned (OpenSpec.ofChange fnExactInverseModWrong)

/-- 'laws.FnExactIsSquareMod': WHATEVER THE INPUT: true; the input reads as it did. -/
def fnExactIsSquareModSpec : ChangeSpec := { name := "fnExactIsSquareMod", fn := fun _ => fun
  | [d1, d2] => { results := [.lit (.bool true)], args := [d1, d2] }
  | _ => none }
def fnExactIsSquareModRow : OpenClaim := { program := "ytfdlhiohbhpocaa", sum := "9a41bf7d7434eb2a7460603da684d5df59da7d9a011eef5a15af19efa33e1dd4", func := "loop.example/g00920/laws.FnExactIsSquareMod", spec := "fnExactIsSquareMod", apart := false }
def FnExactIsSquareModSaid : Prop := fnExactIsSquareModRow.holds Try.pinned (OpenSpec.ofChange fnExactIsSquareModSpec)

/-- ITS FALSE NEIGHBOUR: 'it returns false'. Refute it at one input. -/
def fnExactIsSquareModWrong : ChangeSpec := { name := "fnExactIsSquareMod", fn := fun _ => fun
  | [d1, d2] => { results := [.lit (.bool false)], args := [d1, d2] }
  | _ => none }
def FnExactIsSquareModWrongFalsely : Prop := fnExactIsSquareModRow.holds Try.pinned (OpenSpec.ofChange fnExactIsSquareModWrong)

/-- 'laws.FnExactIsPrime': WHATEVER THE INPUT: true; the input reads as it did. -/
def fnExactIsPrimeSpec : ChangeSpec := { name := "fnExactIsPrime", fn := fun _ => fun
  | [d] => { results := [.lit (.bool true)], args := [d] }
  | _ => none }
def fnExactIsPrimeRow : OpenClaim := { program := "ytfdlhiohbhpocaa", sum := "9a41bf7d7434eb2a7460603da684d5df59da7d9a011eef5a15af19efa33e1dd4", func := "loop.example/g00920/laws.FnExactIsPrime", spec := "fnExactIsPrime", apart := false }
def FnExactIsPrimeSaid : Prop := fnExactIsPrimeRow.holds Try.pinned (OpenSpec.ofChange fnExactIsPrimeSpec)

/-- ITS FALSE NEIGHBOUR: 'it returns false'. Refute it at one input. -/
def fnExactIsPrimeWrong : ChangeSpec := { name := "fnExactIsPrime", fn := fun _ => fun
  | [d] => { results := [.lit (.bool false)], args := [d] }
  | _ => none }
def FnExactIsPrimeWrongFalsely : Prop := fnExactIsPrimeRow.holds Try.pinned (OpenSpec.ofChange fnExactIsPrimeWrong)

/-- 'laws.FnExactPowerMod': WHATEVER THE INPUT: true; the input reads as it did. -/
def fnExactPowerModSpec : ChangeSpec := { name := "fnExactPowerMod", fn := fun _ => fun
  | [d1, d2, d3] => { results := [.lit (.bool true)], args := [d1, d2, d3] }
  | _ => none }
def fnExactPowerModRow : OpenClaim := { program := "ytfdlhiohbhpocaa", sum := "9a41bf7d7434eb2a7460603da684d5df59da7d9a011eef5a15af19efa33e1dd4", func := "loop.example/g00920/laws.FnExactPowerMod", spec := "fnExactPowerMod", apart := false }
def FnExactPowerModSaid : Prop := fnExactPowerModRow.holds Try.pinned (OpenSpec.ofChange fnExactPowerModSpec)

/-- ITS FALSE NEIGHBOUR: 'it returns false'. Refute it at one input. -/
def fnExactPowerModWrong : ChangeSpec := { name := "fnExactPowerMod", fn := fun _ => fun
  | [d1, d2, d3] => { results := [.lit (.bool false)], args := [d1, d2, d3] }
  | _ => none }
def FnExactPowerModWrongFalsely : Prop := fnExactPowerModRow.holds Try.pinned (OpenSpec.ofChange fnExactPowerModWrong)

/-- 'laws.FnExactCrc16': WHATEVER THE INPUT: true; the input reads as it did. -/
def fnExactCrc16Spec : ChangeSpec := { name := "fnExactCrc16", fn := fun _ => fun
  | [d1, d2] => { results := [.lit (.bool true)], args := [d1, d2] }
  | _ => none }
def fnExactCrc16Row : OpenClaim := { program := "ytfdlhiohbhpocaa", sum := "9a41bf7d7434eb2a7460603da684d5df59da7d9a011eef5a15af19efa33e1dd4", func := "loop.example/g00920/laws.FnExactCrc16", spec := "fnExactCrc16", apart := false }
def FnExactCrc16Said : Prop := fnExactCrc16Row.holds Try.pinned (OpenSpec.ofChange fnExactCrc16Spec)

/-- ITS FALSE NEIGHBOUR: 'it returns false'. Refute it at one input. -/
def fnExactCrc16Wrong : ChangeSpec := { name := "fnExactCrc16", fn := fun _ => fun
  | [d1, d2] => { results := [.lit (.bool false)], args := [d1, d2] }
  | _ => none }
def FnExactCrc16WrongFalsely : Prop := fnExactCrc16Row.holds Try.pinned (OpenSpec.ofChange fnExactCrc16Wrong)

/-- 'laws.FnExactValidSet': WHATEVER THE INPUT: true; the input reads as it did. -/
def fnExactValidSetSpec : ChangeSpec := { name := "fnExactValidSet", fn := fun _ => fun
  | [d1, d2] => { results := [.lit (.bool true)], args := [d1, d2] }
  | _ => none }
def fnExactValidSetRow : OpenClaim := { program := "ytfdlhiohbhpocaa", sum := "9a41bf7d7434eb2a7460603da684d5df59da7d9a011eef5a15af19efa33e1dd4", func := "loop.example/g00920/laws.FnExactValidSet", spec := "fnExactValidSet", apart := false }
def FnExactValidSetSaid : Prop := fnExactValidSetRow.holds Try.pinned (OpenSpec.ofChange fnExactValidSetSpec)

/-- ITS FALSE NEIGHBOUR: 'it returns false'. Refute it at one input. -/
def fnExactValidSetWrong : ChangeSpec := { name := "fnExactValidSet", fn := fun _ => fun
  | [d1, d2] => { results := [.lit (.bool false)], args := [d1, d2] }
  | _ => none }
def FnExactValidSetWrongFalsely : Prop := fnExactValidSetRow.holds Try.pinned (OpenSpec.ofChange fnExactValidSetWrong)

/-- 'laws.FnExactGcd': WHATEVER THE INPUT: true; the input reads as it did. -/
def fnExactGcdSpec : ChangeSpec := { name := "fnExactGcd", fn := fun _ => fun
  | [d1, d2] => { results := [.lit (.bool true)], args := [d1, d2] }
  | _ => none }
def fnExactGcdRow : OpenClaim := { program := "ytfdlhiohbhpocaa", sum := "9a41bf7d7434eb2a7460603da684d5df59da7d9a011eef5a15af19efa33e1dd4", func := "loop.example/g00920/laws.FnExactGcd", spec := "fnExactGcd", apart := false }
def FnExactGcdSaid : Prop := fnExactGcdRow.holds Try.pinned (OpenSpec.ofChange fnExactGcdSpec)

/-- ITS FALSE NEIGHBOUR: 'it returns false'. Refute it at one input. -/
def fnExactGcdWrong : ChangeSpec := { name := "fnExactGcd", fn := fun _ => fun
  | [d1, d2] => { results := [.lit (.bool false)], args := [d1, d2] }
  | _ => none }
def FnExactGcdWrongFalsely : Prop := fnExactGcdRow.holds Try.pinned (OpenSpec.ofChange fnExactGcdWrong)

/-- 'laws.FnExactSolveChinese': WHATEVER THE INPUT: true; the input reads as it did. -/
def fnExactSolveChineseSpec : ChangeSpec := { name := "fnExactSolveChinese", fn := fun _ => fun
  | [d1, d2, d3, d4] => { results := [.lit (.bool true)], args := [d1, d2, d3, d4] }
  | _ => none }
def fnExactSolveChineseRow : OpenClaim := { program := "ytfdlhiohbhpocaa", sum := "9a41bf7d7434eb2a7460603da684d5df59da7d9a011eef5a15af19efa33e1dd4", func := "loop.example/g00920/laws.FnExactSolveChinese", spec := "fnExactSolveChinese", apart := false }
def FnExactSolveChineseSaid : Prop := fnExactSolveChineseRow.holds Try.pinned (OpenSpec.ofChange fnExactSolveChineseSpec)

/-- ITS FALSE NEIGHBOUR: 'it returns false'. Refute it at one input. -/
def fnExactSolveChineseWrong : ChangeSpec := { name := "fnExactSolveChinese", fn := fun _ => fun
  | [d1, d2, d3, d4] => { results := [.lit (.bool false)], args := [d1, d2, d3, d4] }
  | _ => none }
def FnExactSolveChineseWrongFalsely : Prop := fnExactSolveChineseRow.holds Try.pinned (OpenSpec.ofChange fnExactSolveChineseWrong)

/- THE SECOND FORM. 'bulk': how many values and letters a reading holds, each counted each time it is reached (what is shared counts as often as it is met; a slice's spare places count too). A statement '..UptoSaid' is the law's where the arguments, and the package variables that the reading takes, are together of bulk at most 1048576: NARROWER than '..Said'. Prove '..Said' where nothing that the law and all that it calls make is longer than what came in: it says more and counts as full. Else prove '..UptoSaid'. A law counts once. -/
mutual
def uptoBulk {H : Type} : DataW H → Nat
  | .lit (.string bytes) => bytes.length + 1
  | .lit _ => 1
  | .nil => 1
  | .ptr d => uptoBulk d + 1
  | .slice elems spare => uptoBulkAll elems + uptoBulkAll spare + 1
  | .agg parts => uptoBulkAll parts + 1
  | .iface _ d => uptoBulk d + 1
  | .map entries => uptoBulkEntries entries + 1
  | .held _ => 1
def uptoBulkAll {H : Type} : List (DataW H) → Nat
  | [] => 0
  | d :: r => uptoBulk d + uptoBulkAll r
def uptoBulkEntries {H : Type} : List (Lit × DataW H) → Nat
  | [] => 0
  | x :: r => uptoBulkEntry x + uptoBulkEntries r
def uptoBulkEntry {H : Type} : Lit × DataW H → Nat
  | (.string bytes, d) => bytes.length + uptoBulk d + 1
  | (_, d) => uptoBulk d + 1
 end
def uptoSmall : (H : Type) → List (DataW H) → Bool := fun _ ds => decide (uptoBulkAll ds ≤ 1048576)
def OpenSpec.upto (s : _root_.Go.ChangeSpec) : _root_.Go.OpenSpec := { _root_.Go.OpenSpec.ofChange s with cond := some uptoSmall }

/-- 'laws.FnExactConstants', WHERE WHAT IT READS IS OF BULK AT MOST 1048576: true; the input reads as it did. -/
def fnExactConstantsUptoRow : OpenClaim := { program := "ytfdlhiohbhpocaa", sum := "9a41bf7d7434eb2a7460603da684d5df59da7d9a011eef5a15af19efa33e1dd4", func := "loop.example/g00920/laws.FnExactConstants", spec := "fnExactConstants", apart := false, narrowed := true }
def FnExactConstantsUptoSaid : Prop := fnExactConstantsUptoRow.holds Try.pinned (OpenSpec.upto fnExactConstantsSpec)

/-- 'laws.FnExactCodeName', WHERE WHAT IT READS IS OF BULK AT MOST 1048576: true; the input reads as it did. -/
def fnExactCodeNameUptoRow : OpenClaim := { program := "ytfdlhiohbhpocaa", sum := "9a41bf7d7434eb2a7460603da684d5df59da7d9a011eef5a15af19efa33e1dd4", func := "loop.example/g00920/laws.FnExactCodeName", spec := "fnExactCodeName", apart := false, narrowed := true }
def FnExactCodeNameUptoSaid : Prop := fnExactCodeNameUptoRow.holds Try.pinned (OpenSpec.upto fnExactCodeNameSpec)

/-- 'laws.FnExactChoose', WHERE WHAT IT READS IS OF BULK AT MOST 1048576: true; the input reads as it did. -/
def fnExactChooseUptoRow : OpenClaim := { program := "ytfdlhiohbhpocaa", sum := "9a41bf7d7434eb2a7460603da684d5df59da7d9a011eef5a15af19efa33e1dd4", func := "loop.example/g00920/laws.FnExactChoose", spec := "fnExactChoose", apart := false, narrowed := true }
def FnExactChooseUptoSaid : Prop := fnExactChooseUptoRow.holds Try.pinned (OpenSpec.upto fnExactChooseSpec)

/-- 'laws.FnExactIsName', WHERE WHAT IT READS IS OF BULK AT MOST 1048576: true; the input reads as it did. -/
def fnExactIsNameUptoRow : OpenClaim := { program := "ytfdlhiohbhpocaa", sum := "9a41bf7d7434eb2a7460603da684d5df59da7d9a011eef5a15af19efa33e1dd4", func := "loop.example/g00920/laws.FnExactIsName", spec := "fnExactIsName", apart := false, narrowed := true }
def FnExactIsNameUptoSaid : Prop := fnExactIsNameUptoRow.holds Try.pinned (OpenSpec.upto fnExactIsNameSpec)

/-- 'laws.FnExactInverseMod', WHERE WHAT IT READS IS OF BULK AT MOST 1048576: true; the input reads as it did. -/
def fnExactInverseModUptoRow : OpenClaim := { program := "ytfdlhiohbhpocaa", sum := "9a41bf7d7434eb2a7460603da684d5df59da7d9a011eef5a15af19efa33e1dd4", func := "loop.example/g00920/laws.FnExactInverseMod", spec := "fnExactInverseMod", apart := false, narrowed := true }
def FnExactInverseModUptoSaid : Prop := fnExactInverseModUptoRow.holds Try.pinned (OpenSpec.upto fnExactInverseModSpec)

/-- 'laws.FnExactIsSquareMod', WHERE WHAT IT READS IS OF BULK AT MOST 1048576: true; the input reads as it did. -/
def fnExactIsSquareModUptoRow : OpenClaim := { program := "ytfdlhiohbhpocaa", sum := "9a41bf7d7434eb2a7460603da684d5df59da7d9a011eef5a15af19efa33e1dd4", func := "loop.example/g00920/laws.FnExactIsSquareMod", spec := "fnExactIsSquareMod", apart := false, narrowed := true }
def FnExactIsSquareModUptoSaid : Prop := fnExactIsSquareModUptoRow.holds Try.pinned (OpenSpec.upto fnExactIsSquareModSpec)

/-- 'laws.FnExactIsPrime', WHERE WHAT IT READS IS OF BULK AT MOST 1048576: true; the input reads as it did. -/
def fnExactIsPrimeUptoRow : OpenClaim := { program := "ytfdlhiohbhpocaa", sum := "9a41bf7d7434eb2a7460603da684d5df59da7d9a011eef5a15af19efa33e1dd4", func := "loop.example/g00920/laws.FnExactIsPrime", spec := "fnExactIsPrime", apart := false, narrowed := true }
def FnExactIsPrimeUptoSaid : Prop := fnExactIsPrimeUptoRow.holds Try.pinned (OpenSpec.upto fnExactIsPrimeSpec)

/-- 'laws.FnExactPowerMod', WHERE WHAT IT READS IS OF BULK AT MOST 1048576: true; the input reads as it did. -/
def fnExactPowerModUptoRow : OpenClaim := { program := "ytfdlhiohbhpocaa", sum := "9a41bf7d7434eb2a7460603da684d5df59da7d9a011eef5a15af19efa33e1dd4", func := "loop.example/g00920/laws.FnExactPowerMod", spec := "fnExactPowerMod", apart := false, narrowed := true }
def FnExactPowerModUptoSaid : Prop := fnExactPowerModUptoRow.holds Try.pinned (OpenSpec.upto fnExactPowerModSpec)

/-- 'laws.FnExactCrc16', WHERE WHAT IT READS IS OF BULK AT MOST 1048576: true; the input reads as it did. -/
def fnExactCrc16UptoRow : OpenClaim := { program := "ytfdlhiohbhpocaa", sum := "9a41bf7d7434eb2a7460603da684d5df59da7d9a011eef5a15af19efa33e1dd4", func := "loop.example/g00920/laws.FnExactCrc16", spec := "fnExactCrc16", apart := false, narrowed := true }
def FnExactCrc16UptoSaid : Prop := fnExactCrc16UptoRow.holds Try.pinned (OpenSpec.upto fnExactCrc16Spec)

/-- 'laws.FnExactValidSet', WHERE WHAT IT READS IS OF BULK AT MOST 1048576: true; the input reads as it did. -/
def fnExactValidSetUptoRow : OpenClaim := { program := "ytfdlhiohbhpocaa", sum := "9a41bf7d7434eb2a7460603da684d5df59da7d9a011eef5a15af19efa33e1dd4", func := "loop.example/g00920/laws.FnExactValidSet", spec := "fnExactValidSet", apart := false, narrowed := true }
def FnExactValidSetUptoSaid : Prop := fnExactValidSetUptoRow.holds Try.pinned (OpenSpec.upto fnExactValidSetSpec)

/-- 'laws.FnExactGcd', WHERE WHAT IT READS IS OF BULK AT MOST 1048576: true; the input reads as it did. -/
def fnExactGcdUptoRow : OpenClaim := { program := "ytfdlhiohbhpocaa", sum := "9a41bf7d7434eb2a7460603da684d5df59da7d9a011eef5a15af19efa33e1dd4", func := "loop.example/g00920/laws.FnExactGcd", spec := "fnExactGcd", apart := false, narrowed := true }
def FnExactGcdUptoSaid : Prop := fnExactGcdUptoRow.holds Try.pinned (OpenSpec.upto fnExactGcdSpec)

/-- 'laws.FnExactSolveChinese', WHERE WHAT IT READS IS OF BULK AT MOST 1048576: true; the input reads as it did. -/
def fnExactSolveChineseUptoRow : OpenClaim := { program := "ytfdlhiohbhpocaa", sum := "9a41bf7d7434eb2a7460603da684d5df59da7d9a011eef5a15af19efa33e1dd4", func := "loop.example/g00920/laws.FnExactSolveChinese", spec := "fnExactSolveChinese", apart := false, narrowed := true }
def FnExactSolveChineseUptoSaid : Prop := fnExactSolveChineseUptoRow.holds Try.pinned (OpenSpec.upto fnExactSolveChineseSpec)

end Rows
end Go.Proofs.Ytfdlhiohbhpocaa
