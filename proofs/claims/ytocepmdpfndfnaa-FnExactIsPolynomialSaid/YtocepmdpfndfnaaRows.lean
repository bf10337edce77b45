/-
  No cell of these rows narrows 'for every input' (looked for: loops, veiled, ifaces, maps, wideKeys, modest, calm, conditions, laid).
  DERIVED. THE GIVEN ROWS OF THIS SEAT. 14 by the template 'for every input the law returns true; each argument reads behind the call as it read before'; 0 by the template 'total and deterministic' (their statements: YtocepmdpfndfnaaTotals.lean).
  GIVEN WITH THE SEED: the statements are not yours to turn. If you find one false, say at which input.
  Laid BY PROGRAM, IN A SANDBOX (cutbox-rows.mjs): the forced cells as the released guide's own fill.sh prints them over the translation de70e9e1892f74cd… (all of the seat's roots in one cut). By AI agents, Wed Nov 11 2026. No macro, syntax, notation, axiom, sorry.
-/
import Derived.Test.YtocepmdpfndfnaaChecked
import GoSem.Claim
import GoSem.ClaimJoined
import GoSem.ClaimMapViews
import Derived.JoinedTies
import Derived.KernelRfl
namespace Go.Proofs.Ytocepmdpfndfnaa
/- THE CELL 'sum', in the pinned program and in every row, IS THE sha256 OF THE DUMP (.gsa) THAT YtocepmdpfndfnaaProg.lean LOADS. Nothing in Lean hashes anything: it is a label: what it is worth is what the hold of that sum in a sandbox is worth. -/
noncomputable def Try.pinned : Pinned := { name := "ytocepmdpfndfnaa", sum := "de70e9e1892f74cd206933e648e6c00b1e73af5a6e39536f0587e37fd9e7cbfc", checked := Try.checked }
namespace Rows
def none {H : Type} : Left H := { results := [], args := [] }

/-- 'laws.FnExactIsPolynomial': WHATEVER THE INPUT: true; the input reads as it did. -/
def fnExactIsPolynomialSpec : ChangeSpec := { name := "fnExactIsPolynomial", fn := fun _ => fun
  | [d] => { results := [.lit (.bool true)], args := [d] }
  | _ => none }
def fnExactIsPolynomialRow : OpenClaim := { program := "ytocepmdpfndfnaa", sum := "de70e9e1892f74cd206933e648e6c00b1e73af5a6e39536f0587e37fd9e7cbfc", func := "loop.example/g01140/laws.FnExactIsPolynomial", spec := "fnExactIsPolynomial", apart := false }
def FnExactIsPolynomialSaid : Prop := fnExactIsPolynomialRow.holds Try.pinned (OpenSpec.ofChange fnExactIsPolynomialSpec)

/-- ITS FALSE NEIGHBOUR: 'it returns false'. Refute it at one input. -/
def fnExactIsPolynomialWrong : ChangeSpec := { name := "fnExactIsPolynomial", fn := fun _ => fun
  | [d] => { results := [.lit (.bool false)], args := [d] }
  | _ => none }
def FnExactIsPolynomialWrongFalsely : Prop := fnExactIsPolynomialRow.holds Try.pinned (OpenSpec.ofChange fnExactIsPolynomialWrong)

/-- 'laws.FnExactEvaluatePolynomial': WHATEVER THE INPUT: true; the input reads as it did. -/
def fnExactEvaluatePolynomialSpec : ChangeSpec := { name := "fnExactEvaluatePolynomial", fn := fun _ => fun
  | [d1, d2] => { results := [.lit (.bool true)], args := [d1, d2] }
  | _ => none }
def fnExactEvaluatePolynomialRow : OpenClaim := { program := "ytocepmdpfndfnaa", sum := "de70e9e1892f74cd206933e648e6c00b1e73af5a6e39536f0587e37fd9e7cbfc", func := "loop.example/g01140/laws.FnExactEvaluatePolynomial", spec := "fnExactEvaluatePolynomial", apart := false }
def FnExactEvaluatePolynomialSaid : Prop := fnExactEvaluatePolynomialRow.holds Try.pinned (OpenSpec.ofChange fnExactEvaluatePolynomialSpec)

/-- ITS FALSE NEIGHBOUR: 'it returns false'. Refute it at one input. -/
def fnExactEvaluatePolynomialWrong : ChangeSpec := { name := "fnExactEvaluatePolynomial", fn := fun _ => fun
  | [d1, d2] => { results := [.lit (.bool false)], args := [d1, d2] }
  | _ => none }
def FnExactEvaluatePolynomialWrongFalsely : Prop := fnExactEvaluatePolynomialRow.holds Try.pinned (OpenSpec.ofChange fnExactEvaluatePolynomialWrong)

/-- 'laws.FnExactSubstitutePower': WHATEVER THE INPUT: true; the input reads as it did. -/
def fnExactSubstitutePowerSpec : ChangeSpec := { name := "fnExactSubstitutePower", fn := fun _ => fun
  | [d1, d2] => { results := [.lit (.bool true)], args := [d1, d2] }
  | _ => none }
def fnExactSubstitutePowerRow : OpenClaim := { program := "ytocepmdpfndfnaa", sum := "de70e9e1892f74cd206933e648e6c00b1e73af5a6e39536f0587e37fd9e7cbfc", func := "loop.example/g01140/laws.FnExactSubstitutePower", spec := "fnExactSubstitutePower", apart := false }
def FnExactSubstitutePowerSaid : Prop := fnExactSubstitutePowerRow.holds Try.pinned (OpenSpec.ofChange fnExactSubstitutePowerSpec)

/-- ITS FALSE NEIGHBOUR: 'it returns false'. Refute it at one input. -/
def fnExactSubstitutePowerWrong : ChangeSpec := { name := "fnExactSubstitutePower", fn := fun _ => fun
  | [d1, d2] => { results := [.lit (.bool false)], args := [d1, d2] }
  | _ => none }
def FnExactSubstitutePowerWrongFalsely : Prop := fnExactSubstitutePowerRow.holds Try.pinned (OpenSpec.ofChange fnExactSubstitutePowerWrong)

/-- 'laws.FnExactIsSymmetricPolynomial': WHATEVER THE INPUT: true; the input reads as it did. -/
def fnExactIsSymmetricPolynomialSpec : ChangeSpec := { name := "fnExactIsSymmetricPolynomial", fn := fun _ => fun
  | [d] => { results := [.lit (.bool true)], args := [d] }
  | _ => none }
def fnExactIsSymmetricPolynomialRow : OpenClaim := { program := "ytocepmdpfndfnaa", sum := "de70e9e1892f74cd206933e648e6c00b1e73af5a6e39536f0587e37fd9e7cbfc", func := "loop.example/g01140/laws.FnExactIsSymmetricPolynomial", spec := "fnExactIsSymmetricPolynomial", apart := false }
def FnExactIsSymmetricPolynomialSaid : Prop := fnExactIsSymmetricPolynomialRow.holds Try.pinned (OpenSpec.ofChange fnExactIsSymmetricPolynomialSpec)

/-- ITS FALSE NEIGHBOUR: 'it returns false'. Refute it at one input. -/
def fnExactIsSymmetricPolynomialWrong : ChangeSpec := { name := "fnExactIsSymmetricPolynomial", fn := fun _ => fun
  | [d] => { results := [.lit (.bool false)], args := [d] }
  | _ => none }
def FnExactIsSymmetricPolynomialWrongFalsely : Prop := fnExactIsSymmetricPolynomialRow.holds Try.pinned (OpenSpec.ofChange fnExactIsSymmetricPolynomialWrong)

/-- 'laws.FnExactReversePolynomial': WHATEVER THE INPUT: true; the input reads as it did. -/
def fnExactReversePolynomialSpec : ChangeSpec := { name := "fnExactReversePolynomial", fn := fun _ => fun
  | [d] => { results := [.lit (.bool true)], args := [d] }
  | _ => none }
def fnExactReversePolynomialRow : OpenClaim := { program := "ytocepmdpfndfnaa", sum := "de70e9e1892f74cd206933e648e6c00b1e73af5a6e39536f0587e37fd9e7cbfc", func := "loop.example/g01140/laws.FnExactReversePolynomial", spec := "fnExactReversePolynomial", apart := false }
def FnExactReversePolynomialSaid : Prop := fnExactReversePolynomialRow.holds Try.pinned (OpenSpec.ofChange fnExactReversePolynomialSpec)

/-- ITS FALSE NEIGHBOUR: 'it returns false'. Refute it at one input. -/
def fnExactReversePolynomialWrong : ChangeSpec := { name := "fnExactReversePolynomial", fn := fun _ => fun
  | [d] => { results := [.lit (.bool false)], args := [d] }
  | _ => none }
def FnExactReversePolynomialWrongFalsely : Prop := fnExactReversePolynomialRow.holds Try.pinned (OpenSpec.ofChange fnExactReversePolynomialWrong)

/-- 'laws.FnExactAddPolynomials': WHATEVER THE INPUT: true; the input reads as it did. -/
def fnExactAddPolynomialsSpec : ChangeSpec := { name := "fnExactAddPolynomials", fn := fun _ => fun
  | [d1, d2] => { results := [.lit (.bool true)], args := [d1, d2] }
  | _ => none }
def fnExactAddPolynomialsRow : OpenClaim := { program := "ytocepmdpfndfnaa", sum := "de70e9e1892f74cd206933e648e6c00b1e73af5a6e39536f0587e37fd9e7cbfc", func := "loop.example/g01140/laws.FnExactAddPolynomials", spec := "fnExactAddPolynomials", apart := false }
def FnExactAddPolynomialsSaid : Prop := fnExactAddPolynomialsRow.holds Try.pinned (OpenSpec.ofChange fnExactAddPolynomialsSpec)

/-- ITS FALSE NEIGHBOUR: 'it returns false'. Refute it at one input. -/
def fnExactAddPolynomialsWrong : ChangeSpec := { name := "fnExactAddPolynomials", fn := fun _ => fun
  | [d1, d2] => { results := [.lit (.bool false)], args := [d1, d2] }
  | _ => none }
def FnExactAddPolynomialsWrongFalsely : Prop := fnExactAddPolynomialsRow.holds Try.pinned (OpenSpec.ofChange fnExactAddPolynomialsWrong)

/-- 'laws.FnExactSubtractPolynomials': WHATEVER THE INPUT: true; the input reads as it did. -/
def fnExactSubtractPolynomialsSpec : ChangeSpec := { name := "fnExactSubtractPolynomials", fn := fun _ => fun
  | [d1, d2] => { results := [.lit (.bool true)], args := [d1, d2] }
  | _ => none }
def fnExactSubtractPolynomialsRow : OpenClaim := { program := "ytocepmdpfndfnaa", sum := "de70e9e1892f74cd206933e648e6c00b1e73af5a6e39536f0587e37fd9e7cbfc", func := "loop.example/g01140/laws.FnExactSubtractPolynomials", spec := "fnExactSubtractPolynomials", apart := false }
def FnExactSubtractPolynomialsSaid : Prop := fnExactSubtractPolynomialsRow.holds Try.pinned (OpenSpec.ofChange fnExactSubtractPolynomialsSpec)

/-- ITS FALSE NEIGHBOUR: 'it returns false'. Refute it at one input. -/
def fnExactSubtractPolynomialsWrong : ChangeSpec := { name := "fnExactSubtractPolynomials", fn := fun _ => fun
  | [d1, d2] => { results := [.lit (.bool false)], args := [d1, d2] }
  | _ => none }
def FnExactSubtractPolynomialsWrongFalsely : Prop := fnExactSubtractPolynomialsRow.holds Try.pinned (OpenSpec.ofChange fnExactSubtractPolynomialsWrong)

/-- 'laws.FnExactMultiplyPolynomials': WHATEVER THE INPUT: true; the input reads as it did. -/
def fnExactMultiplyPolynomialsSpec : ChangeSpec := { name := "fnExactMultiplyPolynomials", fn := fun _ => fun
  | [d1, d2] => { results := [.lit (.bool true)], args := [d1, d2] }
  | _ => none }
def fnExactMultiplyPolynomialsRow : OpenClaim := { program := "ytocepmdpfndfnaa", sum := "de70e9e1892f74cd206933e648e6c00b1e73af5a6e39536f0587e37fd9e7cbfc", func := "loop.example/g01140/laws.FnExactMultiplyPolynomials", spec := "fnExactMultiplyPolynomials", apart := false }
def FnExactMultiplyPolynomialsSaid : Prop := fnExactMultiplyPolynomialsRow.holds Try.pinned (OpenSpec.ofChange fnExactMultiplyPolynomialsSpec)

/-- ITS FALSE NEIGHBOUR: 'it returns false'. Refute it at one input. -/
def fnExactMultiplyPolynomialsWrong : ChangeSpec := { name := "fnExactMultiplyPolynomials", fn := fun _ => fun
  | [d1, d2] => { results := [.lit (.bool false)], args := [d1, d2] }
  | _ => none }
def FnExactMultiplyPolynomialsWrongFalsely : Prop := fnExactMultiplyPolynomialsRow.holds Try.pinned (OpenSpec.ofChange fnExactMultiplyPolynomialsWrong)

/-- 'laws.FnExactCyclotomicPolynomial': WHATEVER THE INPUT: true; the input reads as it did. -/
def fnExactCyclotomicPolynomialSpec : ChangeSpec := { name := "fnExactCyclotomicPolynomial", fn := fun _ => fun
  | [d] => { results := [.lit (.bool true)], args := [d] }
  | _ => none }
def fnExactCyclotomicPolynomialRow : OpenClaim := { program := "ytocepmdpfndfnaa", sum := "de70e9e1892f74cd206933e648e6c00b1e73af5a6e39536f0587e37fd9e7cbfc", func := "loop.example/g01140/laws.FnExactCyclotomicPolynomial", spec := "fnExactCyclotomicPolynomial", apart := false }
def FnExactCyclotomicPolynomialSaid : Prop := fnExactCyclotomicPolynomialRow.holds Try.pinned (OpenSpec.ofChange fnExactCyclotomicPolynomialSpec)

/-- ITS FALSE NEIGHBOUR: 'it returns false'. Refute it at one input. -/
def fnExactCyclotomicPolynomialWrong : ChangeSpec := { name := "fnExactCyclotomicPolynomial", fn := fun _ => fun
  | [d] => { results := [.lit (.bool false)], args := [d] }
  | _ => none }
def FnExactCyclotomicPolynomialWrongFalsely : Prop := fnExactCyclotomicPolynomialRow.holds Try.pinned (OpenSpec.ofChange fnExactCyclotomicPolynomialWrong)

/-- 'laws.FnExactDividePolynomials': WHATEVER THE INPUT: true; the input reads as it did. -/
def fnExactDividePolynomialsSpec : ChangeSpec := { name := "fnExactDividePolynomials", fn := fun _ => fun
  | [d1, d2] => { results := [.lit (.bool true)], args := [d1, d2] }
  | _ => none }
def fnExactDividePolynomialsRow : OpenClaim := { program := "ytocepmdpfndfnaa", sum := "de70e9e1892f74cd206933e648e6c00b1e73af5a6e39536f0587e37fd9e7cbfc", func := "loop.example/g01140/laws.FnExactDividePolynomials", spec := "fnExactDividePolynomials", apart := false }
def FnExactDividePolynomialsSaid : Prop := fnExactDividePolynomialsRow.holds Try.pinned (OpenSpec.ofChange fnExactDividePolynomialsSpec)

/-- ITS FALSE NEIGHBOUR: 'it returns false'. Refute it at one input. -/
def fnExactDividePolynomialsWrong : ChangeSpec := { name := "fnExactDividePolynomials", fn := fun _ => fun
  | [d1, d2] => { results := [.lit (.bool false)], args := [d1, d2] }
  | _ => none }
def FnExactDividePolynomialsWrongFalsely : Prop := fnExactDividePolynomialsRow.holds Try.pinned (OpenSpec.ofChange fnExactDividePolynomialsWrong)

/-- 'laws.FnExactCyclotomicFactors': WHATEVER THE INPUT: true; the input reads as it did. -/
def fnExactCyclotomicFactorsSpec : ChangeSpec := { name := "fnExactCyclotomicFactors", fn := fun _ => fun
  | [d] => { results := [.lit (.bool true)], args := [d] }
  | _ => none }
def fnExactCyclotomicFactorsRow : OpenClaim := { program := "ytocepmdpfndfnaa", sum := "de70e9e1892f74cd206933e648e6c00b1e73af5a6e39536f0587e37fd9e7cbfc", func := "loop.example/g01140/laws.FnExactCyclotomicFactors", spec := "fnExactCyclotomicFactors", apart := false }
def FnExactCyclotomicFactorsSaid : Prop := fnExactCyclotomicFactorsRow.holds Try.pinned (OpenSpec.ofChange fnExactCyclotomicFactorsSpec)

/-- ITS FALSE NEIGHBOUR: 'it returns false'. Refute it at one input. -/
def fnExactCyclotomicFactorsWrong : ChangeSpec := { name := "fnExactCyclotomicFactors", fn := fun _ => fun
  | [d] => { results := [.lit (.bool false)], args := [d] }
  | _ => none }
def FnExactCyclotomicFactorsWrongFalsely : Prop := fnExactCyclotomicFactorsRow.holds Try.pinned (OpenSpec.ofChange fnExactCyclotomicFactorsWrong)

/-- 'laws.FnExactBinomialProduct': WHATEVER THE INPUT: true; the input reads as it did. -/
def fnExactBinomialProductSpec : ChangeSpec := { name := "fnExactBinomialProduct", fn := fun _ => fun
  | [d] => { results := [.lit (.bool true)], args := [d] }
  | _ => none }
def fnExactBinomialProductRow : OpenClaim := { program := "ytocepmdpfndfnaa", sum := "de70e9e1892f74cd206933e648e6c00b1e73af5a6e39536f0587e37fd9e7cbfc", func := "loop.example/g01140/laws.FnExactBinomialProduct", spec := "fnExactBinomialProduct", apart := false }
def FnExactBinomialProductSaid : Prop := fnExactBinomialProductRow.holds Try.pinned (OpenSpec.ofChange fnExactBinomialProductSpec)

/-- ITS FALSE NEIGHBOUR: 'it returns false'. Refute it at one input. -/
def fnExactBinomialProductWrong : ChangeSpec := { name := "fnExactBinomialProduct", fn := fun _ => fun
  | [d] => { results := [.lit (.bool false)], args := [d] }
  | _ => none }
def FnExactBinomialProductWrongFalsely : Prop := fnExactBinomialProductRow.holds Try.pinned (OpenSpec.ofChange fnExactBinomialProductWrong)

/-- 'laws.FnCyclotomics': WHATEVER THE INPUT: true; the input reads as it did. -/
def fnCyclotomicsSpec : ChangeSpec := { name := "fnCyclotomics", fn := fun _ => fun
  | [d] => { results := [.lit (.bool true)], args := [d] }
  | _ => none }
def fnCyclotomicsRow : OpenClaim := { program := "ytocepmdpfndfnaa", sum := "de70e9e1892f74cd206933e648e6c00b1e73af5a6e39536f0587e37fd9e7cbfc", func := "loop.example/g01140/laws.FnCyclotomics", spec := "fnCyclotomics", apart := false }
def FnCyclotomicsSaid : Prop := fnCyclotomicsRow.holds Try.pinned (OpenSpec.ofChange fnCyclotomicsSpec)

/-- ITS FALSE NEIGHBOUR: 'it returns false'. Refute it at one input. -/
def fnCyclotomicsWrong : ChangeSpec := { name := "fnCyclotomics", fn := fun _ => fun
  | [d] => { results := [.lit (.bool false)], args := [d] }
  | _ => none }
def FnCyclotomicsWrongFalsely : Prop := fnCyclotomicsRow.holds Try.pinned (OpenSpec.ofChange fnCyclotomicsWrong)

/-- 'laws.FnPolynomials': WHATEVER THE INPUT: true; the input reads as it did. -/
def fnPolynomialsSpec : ChangeSpec := { name := "fnPolynomials", fn := fun _ => fun
  | [d] => { results := [.lit (.bool true)], args := [d] }
  | _ => none }
def fnPolynomialsRow : OpenClaim := { program := "ytocepmdpfndfnaa", sum := "de70e9e1892f74cd206933e648e6c00b1e73af5a6e39536f0587e37fd9e7cbfc", func := "loop.example/g01140/laws.FnPolynomials", spec := "fnPolynomials", apart := false }
def FnPolynomialsSaid : Prop := fnPolynomialsRow.holds Try.pinned (OpenSpec.ofChange fnPolynomialsSpec)

/-- ITS FALSE NEIGHBOUR: 'it returns false'. Refute it at one input. -/
def fnPolynomialsWrong : ChangeSpec := { name := "fnPolynomials", fn := fun _ => fun
  | [d] => { results := [.lit (.bool false)], args := [d] }
  | _ => none }
def FnPolynomialsWrongFalsely : Prop := fnPolynomialsRow.holds Try.pinned (OpenSpec.ofChange fnPolynomialsWrong)

/- THE SECOND FORM. 'bulk': how many values and letters a reading holds, each counted each time it is reached (what is shared counts as often as it is met; a slice's spare places count too). A statement '..UptoSaid' is the law's where the arguments, and the package variables that the reading takes, are together of bulk at most 1048576: NARROWER than '..Said'. Prove '..Said' where nothing that the law and all that it calls make is longer than what came in: it says more and counts as full. Else prove '..UptoSaid'. A law counts once. -/
mutual
def uptoBulk {H : Type} : DataW H → Nat
  | .lit (.string bytes) => bytes.length + 1
  | .lit _ => 1
  | .nil => 1
  | .ptr d => uptoBulk d + 1
  | .slice elems spare => uptoBulkAll elems + uptoBulkAll spare + 1
  | .agg parts => uptoBulkAll parts + 1
  | .iface _ d => uptoBulk d + 1
  | .map entries => uptoBulkEntries entries + 1
  | .held _ => 1
def uptoBulkAll {H : Type} : List (DataW H) → Nat
  | [] => 0
  | d :: r => uptoBulk d + uptoBulkAll r
def uptoBulkEntries {H : Type} : List (Lit × DataW H) → Nat
  | [] => 0
  | x :: r => uptoBulkEntry x + uptoBulkEntries r
def uptoBulkEntry {H : Type} : Lit × DataW H → Nat
  | (.string bytes, d) => bytes.length + uptoBulk d + 1
  | (_, d) => uptoBulk d + 1
 end
def uptoSmall : (H : Type) → List (DataW H) → Bool := fun _ ds => decide (uptoBulkAll ds ≤ 1048576)
def OpenSpec.upto (s : _root_.Go.ChangeSpec) : _root_.Go.OpenSpec := { _root_.Go.OpenSpec.ofChange s with cond := some uptoSmall }

/-- 'laws.FnExactIsPolynomial', WHERE WHAT IT READS IS OF BULK AT MOST 1048576: true; the input reads as it did. -/
def fnExactIsPolynomialUptoRow : OpenClaim := { program := "ytocepmdpfndfnaa", sum := "de70e9e1892f74cd206933e648e6c00b1e73af5a6e39536f0587e37fd9e7cbfc", func := "loop.example/g01140/laws.FnExactIsPolynomial", spec := "fnExactIsPolynomial", apart := false, narrowed := true }
def FnExactIsPolynomialUptoSaid : Prop := fnExactIsPolynomialUptoRow.holds Try.pinned (OpenSpec.upto fnExactIsPolynomialSpec)

/-- 'laws.FnExactEvaluatePolynomial', WHERE WHAT IT READS IS OF BULK AT MOST 1048576: true; the input reads as it did. -/
def fnExactEvaluatePolynomialUptoRow : OpenClaim := { program := "ytocepmdpfndfnaa", sum := "de70e9e1892f74cd206933e648e6c00b1e73af5a6e39536f0587e37fd9e7cbfc", func := "loop.example/g01140/laws.FnExactEvaluatePolynomial", spec := "fnExactEvaluatePolynomial", apart := false, narrowed := true }
def FnExactEvaluatePolynomialUptoSaid : Prop := fnExactEvaluatePolynomialUptoRow.holds Try.pinned (OpenSpec.upto fnExactEvaluatePolynomialSpec)

/-- 'laws.FnExactSubstitutePower', WHERE WHAT IT READS IS OF BULK AT MOST 1048576: true; the input reads as it did. -/
def fnExactSubstitutePowerUptoRow : OpenClaim := { program := "ytocepmdpfndfnaa", sum := "de70e9e1892f74cd206933e648e6c00b1e73af5a6e39536f0587e37fd9e7cbfc", func := "loop.example/g01140/laws.FnExactSubstitutePower", spec := "fnExactSubstitutePower", apart := false, narrowed := true }
def FnExactSubstitutePowerUptoSaid : Prop := fnExactSubstitutePowerUptoRow.holds Try.pinned (OpenSpec.upto fnExactSubstitutePowerSpec)

/-- 'laws.FnExactIsSymmetricPolynomial', WHERE WHAT IT READS IS OF BULK AT MOST 1048576: true; the input reads as it did. -/
def fnExactIsSymmetricPolynomialUptoRow : OpenClaim := { program := "ytocepmdpfndfnaa", sum := "de70e9e1892f74cd206933e648e6c00b1e73af5a6e39536f0587e37fd9e7cbfc", func := "loop.example/g01140/laws.FnExactIsSymmetricPolynomial", spec := "fnExactIsSymmetricPolynomial", apart := false, narrowed := true }
def FnExactIsSymmetricPolynomialUptoSaid : Prop := fnExactIsSymmetricPolynomialUptoRow.holds Try.pinned (OpenSpec.upto fnExactIsSymmetricPolynomialSpec)

/-- 'laws.FnExactReversePolynomial', WHERE WHAT IT READS IS OF BULK AT MOST 1048576: true; the input reads as it did. -/
def fnExactReversePolynomialUptoRow : OpenClaim := { program := "ytocepmdpfndfnaa", sum := "de70e9e1892f74cd206933e648e6c00b1e73af5a6e39536f0587e37fd9e7cbfc", func := "loop.example/g01140/laws.FnExactReversePolynomial", spec := "fnExactReversePolynomial", apart := false, narrowed := true }
def FnExactReversePolynomialUptoSaid : Prop := fnExactReversePolynomialUptoRow.holds Try.pinned (OpenSpec.upto fnExactReversePolynomialSpec)

/-- 'laws.FnExactAddPolynomials', WHERE WHAT IT READS IS OF BULK AT MOST 1048576: true; the input reads as it did. -/
def fnExactAddPolynomialsUptoRow : OpenClaim := { program := "ytocepmdpfndfnaa", sum := "de70e9e1892f74cd206933e648e6c00b1e73af5a6e39536f0587e37fd9e7cbfc", func := "loop.example/g01140/laws.FnExactAddPolynomials", spec := "fnExactAddPolynomials", apart := false, narrowed := true }
def FnExactAddPolynomialsUptoSaid : Prop := fnExactAddPolynomialsUptoRow.holds Try.pinned (OpenSpec.upto fnExactAddPolynomialsSpec)

/-- 'laws.FnExactSubtractPolynomials', WHERE WHAT IT READS IS OF BULK AT MOST 1048576: true; the input reads as it did. -/
def fnExactSubtractPolynomialsUptoRow : OpenClaim := { program := "ytocepmdpfndfnaa", sum := "de70e9e1892f74cd206933e648e6c00b1e73af5a6e39536f0587e37fd9e7cbfc", func := "loop.example/g01140/laws.FnExactSubtractPolynomials", spec := "fnExactSubtractPolynomials", apart := false, narrowed := true }
def FnExactSubtractPolynomialsUptoSaid : Prop := fnExactSubtractPolynomialsUptoRow.holds Try.pinned (OpenSpec.upto fnExactSubtractPolynomialsSpec)

/-- 'laws.FnExactMultiplyPolynomials', WHERE WHAT IT READS IS OF BULK AT MOST 1048576: true; the input reads as it did. -/
def fnExactMultiplyPolynomialsUptoRow : OpenClaim := { program := "ytocepmdpfndfnaa", sum := "de70e9e1892f74cd206933e648e6c00b1e73af5a6e39536f0587e37fd9e7cbfc", func := "loop.example/g01140/laws.FnExactMultiplyPolynomials", spec := "fnExactMultiplyPolynomials", apart := false, narrowed := true }
def FnExactMultiplyPolynomialsUptoSaid : Prop := fnExactMultiplyPolynomialsUptoRow.holds Try.pinned (OpenSpec.upto fnExactMultiplyPolynomialsSpec)

/-- 'laws.FnExactCyclotomicPolynomial', WHERE WHAT IT READS IS OF BULK AT MOST 1048576: true; the input reads as it did. -/
def fnExactCyclotomicPolynomialUptoRow : OpenClaim := { program := "ytocepmdpfndfnaa", sum := "de70e9e1892f74cd206933e648e6c00b1e73af5a6e39536f0587e37fd9e7cbfc", func := "loop.example/g01140/laws.FnExactCyclotomicPolynomial", spec := "fnExactCyclotomicPolynomial", apart := false, narrowed := true }
def FnExactCyclotomicPolynomialUptoSaid : Prop := fnExactCyclotomicPolynomialUptoRow.holds Try.pinned (OpenSpec.upto fnExactCyclotomicPolynomialSpec)

/-- 'laws.FnExactDividePolynomials', WHERE WHAT IT READS IS OF BULK AT MOST 1048576: true; the input reads as it did. -/
def fnExactDividePolynomialsUptoRow : OpenClaim := { program := "ytocepmdpfndfnaa", sum := "de70e9e1892f74cd206933e648e6c00b1e73af5a6e39536f0587e37fd9e7cbfc", func := "loop.example/g01140/laws.FnExactDividePolynomials", spec := "fnExactDividePolynomials", apart := false, narrowed := true }
def FnExactDividePolynomialsUptoSaid : Prop := fnExactDividePolynomialsUptoRow.holds Try.pinned (OpenSpec.upto fnExactDividePolynomialsSpec)

/-- 'laws.FnExactCyclotomicFactors', WHERE WHAT IT READS IS OF BULK AT MOST 1048576: true; the input reads as it did. -/
def fnExactCyclotomicFactorsUptoRow : OpenClaim := { program := "ytocepmdpfndfnaa", sum := "de70e9e1892f74cd206933e648e6c00b1e73af5a6e39536f0587e37fd9e7cbfc", func := "loop.example/g01140/laws.FnExactCyclotomicFactors", spec := "fnExactCyclotomicFactors", apart := false, narrowed := true }
def FnExactCyclotomicFactorsUptoSaid : Prop := fnExactCyclotomicFactorsUptoRow.holds Try.pinned (OpenSpec.upto fnExactCyclotomicFactorsSpec)

/-- 'laws.FnExactBinomialProduct', WHERE WHAT IT READS IS OF BULK AT MOST 1048576: true; the input reads as it did. -/
def fnExactBinomialProductUptoRow : OpenClaim := { program := "ytocepmdpfndfnaa", sum := "de70e9e1892f74cd206933e648e6c00b1e73af5a6e39536f0587e37fd9e7cbfc", func := "loop.example/g01140/laws.FnExactBinomialProduct", spec := "fnExactBinomialProduct", apart := false, narrowed := true }
def FnExactBinomialProductUptoSaid : Prop := fnExactBinomialProductUptoRow.holds Try.pinned (OpenSpec.upto fnExactBinomialProductSpec)

/-- 'laws.FnCyclotomics', WHERE WHAT IT READS IS OF BULK AT MOST 1048576: true; the input reads as it did. -/
def fnCyclotomicsUptoRow : OpenClaim := { program := "ytocepmdpfndfnaa", sum := "de70e9e1892f74cd206933e648e6c00b1e73af5a6e39536f0587e37fd9e7cbfc", func := "loop.example/g01140/laws.FnCyclotomics", spec := "fnCyclotomics", apart := false, narrowed := true }
def FnCyclotomicsUptoSaid : Prop := fnCyclotomicsUptoRow.holds Try.pinned (OpenSpec.upto fnCyclotomicsSpec)

/-- 'laws.FnPolynomials', WHERE WHAT IT READS IS OF BULK AT MOST 1048576: true; the input reads as it did. -/
def fnPolynomialsUptoRow : OpenClaim := { program := "ytocepmdpfndfnaa", sum := "de70e9e1892f74cd206933e648e6c00b1e73af5a6e39536f0587e37fd9e7cbfc", func := "loop.example/g01140/laws.FnPolynomials", spec := "fnPolynomials", apart := false, narrowed := true }
def FnPolynomialsUptoSaid : Prop := fnPolynomialsUptoRow.holds Try.pinned (OpenSpec.upto fnPolynomialsSpec)

end Rows
end Go.Proofs.Ytocepmdpfndfnaa
