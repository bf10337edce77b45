/-
  No cell of these rows narrows 'for every input' (looked for: loops, veiled, ifaces, maps, wideKeys, modest, calm, conditions, laid).
  DERIVED. THE GIVEN ROWS OF THIS SEAT. 13 by the template 'for every input the law returns true; each argument reads behind the call as it read before'; 0 by the template 'total and deterministic' (their statements: YtcdpfomiiebibaaTotals.lean).
  GIVEN WITH THE SEED: the statements are not yours to turn. If you find one false, say at which input.
  Laid BY PROGRAM, IN A SANDBOX (cutbox-rows.mjs): the forced cells as the released guide's own fill.sh prints them over the translation 6ee310c9705f17f8… (all of the seat's roots in one cut). By AI agents, Wed Nov 11 2026. No macro, syntax, notation, axiom, sorry.
-/
import Derived.Test.YtcdpfomiiebibaaChecked
import GoSem.Claim
import GoSem.ClaimJoined
import GoSem.ClaimMapViews
import Derived.JoinedTies
import Derived.KernelRfl
namespace Go.Proofs.Ytcdpfomiiebibaa
/- THE CELL 'sum', in the pinned program and in every row, IS THE sha256 OF THE DUMP (.gsa) THAT YtcdpfomiiebibaaProg.lean LOADS. Nothing in Lean hashes anything: it is a label: what it is worth is what the hold of that sum in a sandbox is worth. -/
noncomputable def Try.pinned : Pinned := { name := "ytcdpfomiiebibaa", sum := "6ee310c9705f17f85b01b56afe6d5be9f575bdaec8530942382fb9cecb8355ec", checked := Try.checked }
namespace Rows
def none {H : Type} : Left H := { results := [], args := [] }

/-- 'laws.FnExactConstants': WHATEVER THE INPUT: true; the input reads as it did. -/
def fnExactConstantsSpec : ChangeSpec := { name := "fnExactConstants", fn := fun _ => fun
  | [] => { results := [.lit (.bool true)], args := [] }
  | _ => none }
def fnExactConstantsRow : OpenClaim := { program := "ytcdpfomiiebibaa", sum := "6ee310c9705f17f85b01b56afe6d5be9f575bdaec8530942382fb9cecb8355ec", func := "loop.example/g01140/laws.FnExactConstants", spec := "fnExactConstants", apart := false }
def FnExactConstantsSaid : Prop := fnExactConstantsRow.holds Try.pinned (OpenSpec.ofChange fnExactConstantsSpec)

/-- ITS FALSE NEIGHBOUR: 'it returns false'. Refute it at one input. -/
def fnExactConstantsWrong : ChangeSpec := { name := "fnExactConstants", fn := fun _ => fun
  | [] => { results := [.lit (.bool false)], args := [] }
  | _ => none }
def FnExactConstantsWrongFalsely : Prop := fnExactConstantsRow.holds Try.pinned (OpenSpec.ofChange fnExactConstantsWrong)

/-- 'laws.FnExactCommonDivisor': WHATEVER THE INPUT: true; the input reads as it did. -/
def fnExactCommonDivisorSpec : ChangeSpec := { name := "fnExactCommonDivisor", fn := fun _ => fun
  | [d1, d2] => { results := [.lit (.bool true)], args := [d1, d2] }
  | _ => none }
def fnExactCommonDivisorRow : OpenClaim := { program := "ytcdpfomiiebibaa", sum := "6ee310c9705f17f85b01b56afe6d5be9f575bdaec8530942382fb9cecb8355ec", func := "loop.example/g01140/laws.FnExactCommonDivisor", spec := "fnExactCommonDivisor", apart := false }
def FnExactCommonDivisorSaid : Prop := fnExactCommonDivisorRow.holds Try.pinned (OpenSpec.ofChange fnExactCommonDivisorSpec)

/-- ITS FALSE NEIGHBOUR: 'it returns false'. Refute it at one input. -/
def fnExactCommonDivisorWrong : ChangeSpec := { name := "fnExactCommonDivisor", fn := fun _ => fun
  | [d1, d2] => { results := [.lit (.bool false)], args := [d1, d2] }
  | _ => none }
def FnExactCommonDivisorWrongFalsely : Prop := fnExactCommonDivisorRow.holds Try.pinned (OpenSpec.ofChange fnExactCommonDivisorWrong)

/-- 'laws.FnExactNegativeValue': WHATEVER THE INPUT: true; the input reads as it did. -/
def fnExactNegativeValueSpec : ChangeSpec := { name := "fnExactNegativeValue", fn := fun _ => fun
  | [d] => { results := [.lit (.bool true)], args := [d] }
  | _ => none }
def fnExactNegativeValueRow : OpenClaim := { program := "ytcdpfomiiebibaa", sum := "6ee310c9705f17f85b01b56afe6d5be9f575bdaec8530942382fb9cecb8355ec", func := "loop.example/g01140/laws.FnExactNegativeValue", spec := "fnExactNegativeValue", apart := false }
def FnExactNegativeValueSaid : Prop := fnExactNegativeValueRow.holds Try.pinned (OpenSpec.ofChange fnExactNegativeValueSpec)

/-- ITS FALSE NEIGHBOUR: 'it returns false'. Refute it at one input. -/
def fnExactNegativeValueWrong : ChangeSpec := { name := "fnExactNegativeValue", fn := fun _ => fun
  | [d] => { results := [.lit (.bool false)], args := [d] }
  | _ => none }
def FnExactNegativeValueWrongFalsely : Prop := fnExactNegativeValueRow.holds Try.pinned (OpenSpec.ofChange fnExactNegativeValueWrong)

/-- 'laws.FnExactFractionValue': WHATEVER THE INPUT: true; the input reads as it did. -/
def fnExactFractionValueSpec : ChangeSpec := { name := "fnExactFractionValue", fn := fun _ => fun
  | [d] => { results := [.lit (.bool true)], args := [d] }
  | _ => none }
def fnExactFractionValueRow : OpenClaim := { program := "ytcdpfomiiebibaa", sum := "6ee310c9705f17f85b01b56afe6d5be9f575bdaec8530942382fb9cecb8355ec", func := "loop.example/g01140/laws.FnExactFractionValue", spec := "fnExactFractionValue", apart := false }
def FnExactFractionValueSaid : Prop := fnExactFractionValueRow.holds Try.pinned (OpenSpec.ofChange fnExactFractionValueSpec)

/-- ITS FALSE NEIGHBOUR: 'it returns false'. Refute it at one input. -/
def fnExactFractionValueWrong : ChangeSpec := { name := "fnExactFractionValue", fn := fun _ => fun
  | [d] => { results := [.lit (.bool false)], args := [d] }
  | _ => none }
def FnExactFractionValueWrongFalsely : Prop := fnExactFractionValueRow.holds Try.pinned (OpenSpec.ofChange fnExactFractionValueWrong)

/-- 'laws.FnExactContinuedFraction': WHATEVER THE INPUT: true; the input reads as it did. -/
def fnExactContinuedFractionSpec : ChangeSpec := { name := "fnExactContinuedFraction", fn := fun _ => fun
  | [d1, d2] => { results := [.lit (.bool true)], args := [d1, d2] }
  | _ => none }
def fnExactContinuedFractionRow : OpenClaim := { program := "ytcdpfomiiebibaa", sum := "6ee310c9705f17f85b01b56afe6d5be9f575bdaec8530942382fb9cecb8355ec", func := "loop.example/g01140/laws.FnExactContinuedFraction", spec := "fnExactContinuedFraction", apart := false }
def FnExactContinuedFractionSaid : Prop := fnExactContinuedFractionRow.holds Try.pinned (OpenSpec.ofChange fnExactContinuedFractionSpec)

/-- ITS FALSE NEIGHBOUR: 'it returns false'. Refute it at one input. -/
def fnExactContinuedFractionWrong : ChangeSpec := { name := "fnExactContinuedFraction", fn := fun _ => fun
  | [d1, d2] => { results := [.lit (.bool false)], args := [d1, d2] }
  | _ => none }
def FnExactContinuedFractionWrongFalsely : Prop := fnExactContinuedFractionRow.holds Try.pinned (OpenSpec.ofChange fnExactContinuedFractionWrong)

/-- 'laws.FnExactMakeFraction': WHATEVER THE INPUT: true; the input reads as it did. -/
def fnExactMakeFractionSpec : ChangeSpec := { name := "fnExactMakeFraction", fn := fun _ => fun
  | [d1, d2] => { results := [.lit (.bool true)], args := [d1, d2] }
  | _ => none }
def fnExactMakeFractionRow : OpenClaim := { program := "ytcdpfomiiebibaa", sum := "6ee310c9705f17f85b01b56afe6d5be9f575bdaec8530942382fb9cecb8355ec", func := "loop.example/g01140/laws.FnExactMakeFraction", spec := "fnExactMakeFraction", apart := false }
def FnExactMakeFractionSaid : Prop := fnExactMakeFractionRow.holds Try.pinned (OpenSpec.ofChange fnExactMakeFractionSpec)

/-- ITS FALSE NEIGHBOUR: 'it returns false'. Refute it at one input. -/
def fnExactMakeFractionWrong : ChangeSpec := { name := "fnExactMakeFraction", fn := fun _ => fun
  | [d1, d2] => { results := [.lit (.bool false)], args := [d1, d2] }
  | _ => none }
def FnExactMakeFractionWrongFalsely : Prop := fnExactMakeFractionRow.holds Try.pinned (OpenSpec.ofChange fnExactMakeFractionWrong)

/-- 'laws.FnExactCompareFractions': WHATEVER THE INPUT: true; the input reads as it did. -/
def fnExactCompareFractionsSpec : ChangeSpec := { name := "fnExactCompareFractions", fn := fun _ => fun
  | [d1, d2] => { results := [.lit (.bool true)], args := [d1, d2] }
  | _ => none }
def fnExactCompareFractionsRow : OpenClaim := { program := "ytcdpfomiiebibaa", sum := "6ee310c9705f17f85b01b56afe6d5be9f575bdaec8530942382fb9cecb8355ec", func := "loop.example/g01140/laws.FnExactCompareFractions", spec := "fnExactCompareFractions", apart := false }
def FnExactCompareFractionsSaid : Prop := fnExactCompareFractionsRow.holds Try.pinned (OpenSpec.ofChange fnExactCompareFractionsSpec)

/-- ITS FALSE NEIGHBOUR: 'it returns false'. Refute it at one input. -/
def fnExactCompareFractionsWrong : ChangeSpec := { name := "fnExactCompareFractions", fn := fun _ => fun
  | [d1, d2] => { results := [.lit (.bool false)], args := [d1, d2] }
  | _ => none }
def FnExactCompareFractionsWrongFalsely : Prop := fnExactCompareFractionsRow.holds Try.pinned (OpenSpec.ofChange fnExactCompareFractionsWrong)

/-- 'laws.FnExactCommonDivisorOf': WHATEVER THE INPUT: true; the input reads as it did. -/
def fnExactCommonDivisorOfSpec : ChangeSpec := { name := "fnExactCommonDivisorOf", fn := fun _ => fun
  | [d] => { results := [.lit (.bool true)], args := [d] }
  | _ => none }
def fnExactCommonDivisorOfRow : OpenClaim := { program := "ytcdpfomiiebibaa", sum := "6ee310c9705f17f85b01b56afe6d5be9f575bdaec8530942382fb9cecb8355ec", func := "loop.example/g01140/laws.FnExactCommonDivisorOf", spec := "fnExactCommonDivisorOf", apart := false }
def FnExactCommonDivisorOfSaid : Prop := fnExactCommonDivisorOfRow.holds Try.pinned (OpenSpec.ofChange fnExactCommonDivisorOfSpec)

/-- ITS FALSE NEIGHBOUR: 'it returns false'. Refute it at one input. -/
def fnExactCommonDivisorOfWrong : ChangeSpec := { name := "fnExactCommonDivisorOf", fn := fun _ => fun
  | [d] => { results := [.lit (.bool false)], args := [d] }
  | _ => none }
def FnExactCommonDivisorOfWrongFalsely : Prop := fnExactCommonDivisorOfRow.holds Try.pinned (OpenSpec.ofChange fnExactCommonDivisorOfWrong)

/-- 'laws.FnExactEuclidSteps': WHATEVER THE INPUT: true; the input reads as it did. -/
def fnExactEuclidStepsSpec : ChangeSpec := { name := "fnExactEuclidSteps", fn := fun _ => fun
  | [d1, d2] => { results := [.lit (.bool true)], args := [d1, d2] }
  | _ => none }
def fnExactEuclidStepsRow : OpenClaim := { program := "ytcdpfomiiebibaa", sum := "6ee310c9705f17f85b01b56afe6d5be9f575bdaec8530942382fb9cecb8355ec", func := "loop.example/g01140/laws.FnExactEuclidSteps", spec := "fnExactEuclidSteps", apart := false }
def FnExactEuclidStepsSaid : Prop := fnExactEuclidStepsRow.holds Try.pinned (OpenSpec.ofChange fnExactEuclidStepsSpec)

/-- ITS FALSE NEIGHBOUR: 'it returns false'. Refute it at one input. -/
def fnExactEuclidStepsWrong : ChangeSpec := { name := "fnExactEuclidSteps", fn := fun _ => fun
  | [d1, d2] => { results := [.lit (.bool false)], args := [d1, d2] }
  | _ => none }
def FnExactEuclidStepsWrongFalsely : Prop := fnExactEuclidStepsRow.holds Try.pinned (OpenSpec.ofChange fnExactEuclidStepsWrong)

/-- 'laws.FnExactAddFractions': WHATEVER THE INPUT: true; the input reads as it did. -/
def fnExactAddFractionsSpec : ChangeSpec := { name := "fnExactAddFractions", fn := fun _ => fun
  | [d1, d2] => { results := [.lit (.bool true)], args := [d1, d2] }
  | _ => none }
def fnExactAddFractionsRow : OpenClaim := { program := "ytcdpfomiiebibaa", sum := "6ee310c9705f17f85b01b56afe6d5be9f575bdaec8530942382fb9cecb8355ec", func := "loop.example/g01140/laws.FnExactAddFractions", spec := "fnExactAddFractions", apart := false }
def FnExactAddFractionsSaid : Prop := fnExactAddFractionsRow.holds Try.pinned (OpenSpec.ofChange fnExactAddFractionsSpec)

/-- ITS FALSE NEIGHBOUR: 'it returns false'. Refute it at one input. -/
def fnExactAddFractionsWrong : ChangeSpec := { name := "fnExactAddFractions", fn := fun _ => fun
  | [d1, d2] => { results := [.lit (.bool false)], args := [d1, d2] }
  | _ => none }
def FnExactAddFractionsWrongFalsely : Prop := fnExactAddFractionsRow.holds Try.pinned (OpenSpec.ofChange fnExactAddFractionsWrong)

/-- 'laws.FnExactMultiplyFractions': WHATEVER THE INPUT: true; the input reads as it did. -/
def fnExactMultiplyFractionsSpec : ChangeSpec := { name := "fnExactMultiplyFractions", fn := fun _ => fun
  | [d1, d2] => { results := [.lit (.bool true)], args := [d1, d2] }
  | _ => none }
def fnExactMultiplyFractionsRow : OpenClaim := { program := "ytcdpfomiiebibaa", sum := "6ee310c9705f17f85b01b56afe6d5be9f575bdaec8530942382fb9cecb8355ec", func := "loop.example/g01140/laws.FnExactMultiplyFractions", spec := "fnExactMultiplyFractions", apart := false }
def FnExactMultiplyFractionsSaid : Prop := fnExactMultiplyFractionsRow.holds Try.pinned (OpenSpec.ofChange fnExactMultiplyFractionsSpec)

/-- ITS FALSE NEIGHBOUR: 'it returns false'. Refute it at one input. -/
def fnExactMultiplyFractionsWrong : ChangeSpec := { name := "fnExactMultiplyFractions", fn := fun _ => fun
  | [d1, d2] => { results := [.lit (.bool false)], args := [d1, d2] }
  | _ => none }
def FnExactMultiplyFractionsWrongFalsely : Prop := fnExactMultiplyFractionsRow.holds Try.pinned (OpenSpec.ofChange fnExactMultiplyFractionsWrong)

/-- 'laws.FnExactNegativeFraction': WHATEVER THE INPUT: true; the input reads as it did. -/
def fnExactNegativeFractionSpec : ChangeSpec := { name := "fnExactNegativeFraction", fn := fun _ => fun
  | [d1, d2] => { results := [.lit (.bool true)], args := [d1, d2] }
  | _ => none }
def fnExactNegativeFractionRow : OpenClaim := { program := "ytcdpfomiiebibaa", sum := "6ee310c9705f17f85b01b56afe6d5be9f575bdaec8530942382fb9cecb8355ec", func := "loop.example/g01140/laws.FnExactNegativeFraction", spec := "fnExactNegativeFraction", apart := false }
def FnExactNegativeFractionSaid : Prop := fnExactNegativeFractionRow.holds Try.pinned (OpenSpec.ofChange fnExactNegativeFractionSpec)

/-- ITS FALSE NEIGHBOUR: 'it returns false'. Refute it at one input. -/
def fnExactNegativeFractionWrong : ChangeSpec := { name := "fnExactNegativeFraction", fn := fun _ => fun
  | [d1, d2] => { results := [.lit (.bool false)], args := [d1, d2] }
  | _ => none }
def FnExactNegativeFractionWrongFalsely : Prop := fnExactNegativeFractionRow.holds Try.pinned (OpenSpec.ofChange fnExactNegativeFractionWrong)

/-- 'laws.FnEuclid': WHATEVER THE INPUT: true; the input reads as it did. -/
def fnEuclidSpec : ChangeSpec := { name := "fnEuclid", fn := fun _ => fun
  | [d] => { results := [.lit (.bool true)], args := [d] }
  | _ => none }
def fnEuclidRow : OpenClaim := { program := "ytcdpfomiiebibaa", sum := "6ee310c9705f17f85b01b56afe6d5be9f575bdaec8530942382fb9cecb8355ec", func := "loop.example/g01140/laws.FnEuclid", spec := "fnEuclid", apart := false }
def FnEuclidSaid : Prop := fnEuclidRow.holds Try.pinned (OpenSpec.ofChange fnEuclidSpec)

/-- ITS FALSE NEIGHBOUR: 'it returns false'. Refute it at one input. -/
def fnEuclidWrong : ChangeSpec := { name := "fnEuclid", fn := fun _ => fun
  | [d] => { results := [.lit (.bool false)], args := [d] }
  | _ => none }
def FnEuclidWrongFalsely : Prop := fnEuclidRow.holds Try.pinned (OpenSpec.ofChange fnEuclidWrong)

/- THE SECOND FORM. 'bulk': how many values and letters a reading holds, each counted each time it is reached (what is shared counts as often as it is met; a slice's spare places count too). A statement '..UptoSaid' is the law's where the arguments, and the package variables that the reading takes, are together of bulk at most 1048576: NARROWER than '..Said'. Prove '..Said' where nothing that the law and all that it calls make is longer than what came in: it says more and counts as full. Else prove '..UptoSaid'. A law counts once. -/
mutual
def uptoBulk {H : Type} : DataW H → Nat
  | .lit (.string bytes) => bytes.length + 1
  | .lit _ => 1
  | .nil => 1
  | .ptr d => uptoBulk d + 1
  | .slice elems spare => uptoBulkAll elems + uptoBulkAll spare + 1
  | .agg parts => uptoBulkAll parts + 1
  | .iface _ d => uptoBulk d + 1
  | .map entries => uptoBulkEntries entries + 1
  | .held _ => 1
def uptoBulkAll {H : Type} : List (DataW H) → Nat
  | [] => 0
  | d :: r => uptoBulk d + uptoBulkAll r
def uptoBulkEntries {H : Type} : List (Lit × DataW H) → Nat
  | [] => 0
  | x :: r => uptoBulkEntry x + uptoBulkEntries r
def uptoBulkEntry {H : Type} : Lit × DataW H → Nat
  | (.string bytes, d) => bytes.length + uptoBulk d + 1
  | (_, d) => uptoBulk d + 1
 end
def uptoSmall : (H : Type) → List (DataW H) → Bool := fun _ ds => decide (uptoBulkAll ds ≤ 1048576)
def OpenSpec.upto (s : _root_.Go.ChangeSpec) : _root_.Go.OpenSpec := { _root_.Go.OpenSpec.ofChange s with cond := some uptoSmall }

/-- 'laws.FnExactConstants', WHERE WHAT IT READS IS OF BULK AT MOST 1048576: true; the input reads as it did. -/
def fnExactConstantsUptoRow : OpenClaim := { program := "ytcdpfomiiebibaa", sum := "6ee310c9705f17f85b01b56afe6d5be9f575bdaec8530942382fb9cecb8355ec", func := "loop.example/g01140/laws.FnExactConstants", spec := "fnExactConstants", apart := false, narrowed := true }
def FnExactConstantsUptoSaid : Prop := fnExactConstantsUptoRow.holds Try.pinned (OpenSpec.upto fnExactConstantsSpec)

/-- 'laws.FnExactCommonDivisor', WHERE WHAT IT READS IS OF BULK AT MOST 1048576: true; the input reads as it did. -/
def fnExactCommonDivisorUptoRow : OpenClaim := { program := "ytcdpfomiiebibaa", sum := "6ee310c9705f17f85b01b56afe6d5be9f575bdaec8530942382fb9cecb8355ec", func := "loop.example/g01140/laws.FnExactCommonDivisor", spec := "fnExactCommonDivisor", apart := false, narrowed := true }
def FnExactCommonDivisorUptoSaid : Prop := fnExactCommonDivisorUptoRow.holds Try.pinned (OpenSpec.upto fnExactCommonDivisorSpec)

/-- 'laws.FnExactNegativeValue', WHERE WHAT IT READS IS OF BULK AT MOST 1048576: true; the input reads as it did. -/
def fnExactNegativeValueUptoRow : OpenClaim := { program := "ytcdpfomiiebibaa", sum := "6ee310c9705f17f85b01b56afe6d5be9f575bdaec8530942382fb9cecb8355ec", func := "loop.example/g01140/laws.FnExactNegativeValue", spec := "fnExactNegativeValue", apart := false, narrowed := true }
def FnExactNegativeValueUptoSaid : Prop := fnExactNegativeValueUptoRow.holds Try.pinned (OpenSpec.upto fnExactNegativeValueSpec)

/-- 'laws.FnExactFractionValue', WHERE WHAT IT READS IS OF BULK AT MOST 1048576: true; the input reads as it did. -/
def fnExactFractionValueUptoRow : OpenClaim := { program := "ytcdpfomiiebibaa", sum := "6ee310c9705f17f85b01b56afe6d5be9f575bdaec8530942382fb9cecb8355ec", func := "loop.example/g01140/laws.FnExactFractionValue", spec := "fnExactFractionValue", apart := false, narrowed := true }
def FnExactFractionValueUptoSaid : Prop := fnExactFractionValueUptoRow.holds Try.pinned (OpenSpec.upto fnExactFractionValueSpec)

/-- 'laws.FnExactContinuedFraction', WHERE WHAT IT READS IS OF BULK AT MOST 1048576: true; the input reads as it did. -/
def fnExactContinuedFractionUptoRow : OpenClaim := { program := "ytcdpfomiiebibaa", sum := "6ee310c9705f17f85b01b56afe6d5be9f575bdaec8530942382fb9cecb8355ec", func := "loop.example/g01140/laws.FnExactContinuedFraction", spec := "fnExactContinuedFraction", apart := false, narrowed := true }
def FnExactContinuedFractionUptoSaid : Prop := fnExactContinuedFractionUptoRow.holds Try.pinned (OpenSpec.upto fnExactContinuedFractionSpec)

/-- 'laws.FnExactMakeFraction', WHERE WHAT IT READS IS OF BULK AT MOST 1048576: true; the input reads as it did. -/
def fnExactMakeFractionUptoRow : OpenClaim := { program := "ytcdpfomiiebibaa", sum := "6ee310c9705f17f85b01b56afe6d5be9f575bdaec8530942382fb9cecb8355ec", func := "loop.example/g01140/laws.FnExactMakeFraction", spec := "fnExactMakeFraction", apart := false, narrowed := true }
def FnExactMakeFractionUptoSaid : Prop := fnExactMakeFractionUptoRow.holds Try.pinned (OpenSpec.upto fnExactMakeFractionSpec)

/-- 'laws.FnExactCompareFractions', WHERE WHAT IT READS IS OF BULK AT MOST 1048576: true; the input reads as it did. -/
def fnExactCompareFractionsUptoRow : OpenClaim := { program := "ytcdpfomiiebibaa", sum := "6ee310c9705f17f85b01b56afe6d5be9f575bdaec8530942382fb9cecb8355ec", func := "loop.example/g01140/laws.FnExactCompareFractions", spec := "fnExactCompareFractions", apart := false, narrowed := true }
def FnExactCompareFractionsUptoSaid : Prop := fnExactCompareFractionsUptoRow.holds Try.pinned (OpenSpec.upto fnExactCompareFractionsSpec)

/-- 'laws.FnExactCommonDivisorOf', WHERE WHAT IT READS IS OF BULK AT MOST 1048576: true; the input reads as it did. -/
def fnExactCommonDivisorOfUptoRow : OpenClaim := { program := "ytcdpfomiiebibaa", sum := "6ee310c9705f17f85b01b56afe6d5be9f575bdaec8530942382fb9cecb8355ec", func := "loop.example/g01140/laws.FnExactCommonDivisorOf", spec := "fnExactCommonDivisorOf", apart := false, narrowed := true }
def FnExactCommonDivisorOfUptoSaid : Prop := fnExactCommonDivisorOfUptoRow.holds Try.pinned (OpenSpec.upto fnExactCommonDivisorOfSpec)

/-- 'laws.FnExactEuclidSteps', WHERE WHAT IT READS IS OF BULK AT MOST 1048576: true; the input reads as it did. -/
def fnExactEuclidStepsUptoRow : OpenClaim := { program := "ytcdpfomiiebibaa", sum := "6ee310c9705f17f85b01b56afe6d5be9f575bdaec8530942382fb9cecb8355ec", func := "loop.example/g01140/laws.FnExactEuclidSteps", spec := "fnExactEuclidSteps", apart := false, narrowed := true }
def FnExactEuclidStepsUptoSaid : Prop := fnExactEuclidStepsUptoRow.holds Try.pinned (OpenSpec.upto fnExactEuclidStepsSpec)

/-- 'laws.FnExactAddFractions', WHERE WHAT IT READS IS OF BULK AT MOST 1048576: true; the input reads as it did. -/
def fnExactAddFractionsUptoRow : OpenClaim := { program := "ytcdpfomiiebibaa", sum := "6ee310c9705f17f85b01b56afe6d5be9f575bdaec8530942382fb9cecb8355ec", func := "loop.example/g01140/laws.FnExactAddFractions", spec := "fnExactAddFractions", apart := false, narrowed := true }
def FnExactAddFractionsUptoSaid : Prop := fnExactAddFractionsUptoRow.holds Try.pinned (OpenSpec.upto fnExactAddFractionsSpec)

/-- 'laws.FnExactMultiplyFractions', WHERE WHAT IT READS IS OF BULK AT MOST 1048576: true; the input reads as it did. -/
def fnExactMultiplyFractionsUptoRow : OpenClaim := { program := "ytcdpfomiiebibaa", sum := "6ee310c9705f17f85b01b56afe6d5be9f575bdaec8530942382fb9cecb8355ec", func := "loop.example/g01140/laws.FnExactMultiplyFractions", spec := "fnExactMultiplyFractions", apart := false, narrowed := true }
def FnExactMultiplyFractionsUptoSaid : Prop := fnExactMultiplyFractionsUptoRow.holds Try.pinned (OpenSpec.upto fnExactMultiplyFractionsSpec)

/-- 'laws.FnExactNegativeFraction', WHERE WHAT IT READS IS OF BULK AT MOST 1048576: true; the input reads as it did. -/
def fnExactNegativeFractionUptoRow : OpenClaim := { program := "ytcdpfomiiebibaa", sum := "6ee310c9705f17f85b01b56afe6d5be9f575bdaec8530942382fb9cecb8355ec", func := "loop.example/g01140/laws.FnExactNegativeFraction", spec := "fnExactNegativeFraction", apart := false, narrowed := true }
def FnExactNegativeFractionUptoSaid : Prop := fnExactNegativeFractionUptoRow.holds Try.pinned (OpenSpec.upto fnExactNegativeFractionSpec)

/-- 'laws.FnEuclid', WHERE WHAT IT READS IS OF BULK AT MOST 1048576: true; the input reads as it did. -/
def fnEuclidUptoRow : OpenClaim := { program := "ytcdpfomiiebibaa", sum := "6ee310c9705f17f85b01b56afe6d5be9f575bdaec8530942382fb9cecb8355ec", func := "loop.example/g01140/laws.FnEuclid", spec := "fnEuclid", apart := false, narrowed := true }
def FnEuclidUptoSaid : Prop := fnEuclidUptoRow.holds Try.pinned (OpenSpec.upto fnEuclidSpec)

end Rows
end Go.Proofs.Ytcdpfomiiebibaa
