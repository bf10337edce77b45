/-
  No cell of these rows narrows 'for every input' (looked for: loops, veiled, ifaces, maps, wideKeys, modest, calm, conditions, laid).
  DERIVED. THE GIVEN ROWS OF THIS SEAT. 9 by the template 'for every input the law returns true; each argument reads behind the call as it read before'; 0 by the template 'total and deterministic' (their statements: YtcfdidomnblopaaTotals.lean).
  GIVEN WITH THE SEED: the statements are not yours to turn. If you find one false, say at which input.
  Laid BY PROGRAM, IN A SANDBOX (cutbox-rows.mjs): the forced cells as the released guide's own fill.sh prints them over the translation 4550701916b1f109… (all of the seat's roots in one cut). By AI agents, Wed Nov 11 2026. No macro, syntax, notation, axiom, sorry.
-/
import Derived.Test.YtcfdidomnblopaaChecked
import GoSem.Claim
import GoSem.ClaimJoined
import GoSem.ClaimMapViews
import Derived.JoinedTies
import Derived.KernelRfl
namespace Go.Proofs.Ytcfdidomnblopaa
/- THE CELL 'sum', in the pinned program and in every row, IS THE sha256 OF THE DUMP (.gsa) THAT YtcfdidomnblopaaProg.lean LOADS. Nothing in Lean hashes anything: it is a label: what it is worth is what the hold of that sum in a sandbox is worth. -/
noncomputable def Try.pinned : Pinned := { name := "ytcfdidomnblopaa", sum := "4550701916b1f1097f4a1465be647dcf04342984e8ea1eb5a84a2eae1e283dd2", checked := Try.checked }
namespace Rows
def none {H : Type} : Left H := { results := [], args := [] }

/-- 'laws.FnExactIsPolynomial': WHATEVER THE INPUT: true; the input reads as it did. -/
def fnExactIsPolynomialSpec : ChangeSpec := { name := "fnExactIsPolynomial", fn := fun _ => fun
  | [d] => { results := [.lit (.bool true)], args := [d] }
  | _ => none }
def fnExactIsPolynomialRow : OpenClaim := { program := "ytcfdidomnblopaa", sum := "4550701916b1f1097f4a1465be647dcf04342984e8ea1eb5a84a2eae1e283dd2", func := "loop.example/g01140/laws.FnExactIsPolynomial", spec := "fnExactIsPolynomial", apart := false }
def FnExactIsPolynomialSaid : Prop := fnExactIsPolynomialRow.holds Try.pinned (OpenSpec.ofChange fnExactIsPolynomialSpec)

/-- ITS FALSE NEIGHBOUR: 'it returns false'. Refute it at one input. -/
def fnExactIsPolynomialWrong : ChangeSpec := { name := "fnExactIsPolynomial", fn := fun _ => fun
  | [d] => { results := [.lit (.bool false)], args := [d] }
  | _ => none }
def FnExactIsPolynomialWrongFalsely : Prop := fnExactIsPolynomialRow.holds Try.pinned (OpenSpec.ofChange fnExactIsPolynomialWrong)

/-- 'laws.FnExactEvaluatePolynomial': WHATEVER THE INPUT: true; the input reads as it did. -/
def fnExactEvaluatePolynomialSpec : ChangeSpec := { name := "fnExactEvaluatePolynomial", fn := fun _ => fun
  | [d1, d2] => { results := [.lit (.bool true)], args := [d1, d2] }
  | _ => none }
def fnExactEvaluatePolynomialRow : OpenClaim := { program := "ytcfdidomnblopaa", sum := "4550701916b1f1097f4a1465be647dcf04342984e8ea1eb5a84a2eae1e283dd2", func := "loop.example/g01140/laws.FnExactEvaluatePolynomial", spec := "fnExactEvaluatePolynomial", apart := false }
def FnExactEvaluatePolynomialSaid : Prop := fnExactEvaluatePolynomialRow.holds Try.pinned (OpenSpec.ofChange fnExactEvaluatePolynomialSpec)

/-- ITS FALSE NEIGHBOUR: 'it returns false'. Refute it at one input. -/
def fnExactEvaluatePolynomialWrong : ChangeSpec := { name := "fnExactEvaluatePolynomial", fn := fun _ => fun
  | [d1, d2] => { results := [.lit (.bool false)], args := [d1, d2] }
  | _ => none }
def FnExactEvaluatePolynomialWrongFalsely : Prop := fnExactEvaluatePolynomialRow.holds Try.pinned (OpenSpec.ofChange fnExactEvaluatePolynomialWrong)

/-- 'laws.FnExactSubstitutePower': WHATEVER THE INPUT: true; the input reads as it did. -/
def fnExactSubstitutePowerSpec : ChangeSpec := { name := "fnExactSubstitutePower", fn := fun _ => fun
  | [d1, d2] => { results := [.lit (.bool true)], args := [d1, d2] }
  | _ => none }
def fnExactSubstitutePowerRow : OpenClaim := { program := "ytcfdidomnblopaa", sum := "4550701916b1f1097f4a1465be647dcf04342984e8ea1eb5a84a2eae1e283dd2", func := "loop.example/g01140/laws.FnExactSubstitutePower", spec := "fnExactSubstitutePower", apart := false }
def FnExactSubstitutePowerSaid : Prop := fnExactSubstitutePowerRow.holds Try.pinned (OpenSpec.ofChange fnExactSubstitutePowerSpec)

/-- ITS FALSE NEIGHBOUR: 'it returns false'. Refute it at one input. -/
def fnExactSubstitutePowerWrong : ChangeSpec := { name := "fnExactSubstitutePower", fn := fun _ => fun
  | [d1, d2] => { results := [.lit (.bool false)], args := [d1, d2] }
  | _ => none }
def FnExactSubstitutePowerWrongFalsely : Prop := fnExactSubstitutePowerRow.holds Try.pinned (OpenSpec.ofChange fnExactSubstitutePowerWrong)

/-- 'laws.FnExactIsSymmetricPolynomial': WHATEVER THE INPUT: true; the input reads as it did. -/
def fnExactIsSymmetricPolynomialSpec : ChangeSpec := { name := "fnExactIsSymmetricPolynomial", fn := fun _ => fun
  | [d] => { results := [.lit (.bool true)], args := [d] }
  | _ => none }
def fnExactIsSymmetricPolynomialRow : OpenClaim := { program := "ytcfdidomnblopaa", sum := "4550701916b1f1097f4a1465be647dcf04342984e8ea1eb5a84a2eae1e283dd2", func := "loop.example/g01140/laws.FnExactIsSymmetricPolynomial", spec := "fnExactIsSymmetricPolynomial", apart := false }
def FnExactIsSymmetricPolynomialSaid : Prop := fnExactIsSymmetricPolynomialRow.holds Try.pinned (OpenSpec.ofChange fnExactIsSymmetricPolynomialSpec)

/-- ITS FALSE NEIGHBOUR: 'it returns false'. Refute it at one input. -/
def fnExactIsSymmetricPolynomialWrong : ChangeSpec := { name := "fnExactIsSymmetricPolynomial", fn := fun _ => fun
  | [d] => { results := [.lit (.bool false)], args := [d] }
  | _ => none }
def FnExactIsSymmetricPolynomialWrongFalsely : Prop := fnExactIsSymmetricPolynomialRow.holds Try.pinned (OpenSpec.ofChange fnExactIsSymmetricPolynomialWrong)

/-- 'laws.FnExactReversePolynomial': WHATEVER THE INPUT: true; the input reads as it did. -/
def fnExactReversePolynomialSpec : ChangeSpec := { name := "fnExactReversePolynomial", fn := fun _ => fun
  | [d] => { results := [.lit (.bool true)], args := [d] }
  | _ => none }
def fnExactReversePolynomialRow : OpenClaim := { program := "ytcfdidomnblopaa", sum := "4550701916b1f1097f4a1465be647dcf04342984e8ea1eb5a84a2eae1e283dd2", func := "loop.example/g01140/laws.FnExactReversePolynomial", spec := "fnExactReversePolynomial", apart := false }
def FnExactReversePolynomialSaid : Prop := fnExactReversePolynomialRow.holds Try.pinned (OpenSpec.ofChange fnExactReversePolynomialSpec)

/-- ITS FALSE NEIGHBOUR: 'it returns false'. Refute it at one input. -/
def fnExactReversePolynomialWrong : ChangeSpec := { name := "fnExactReversePolynomial", fn := fun _ => fun
  | [d] => { results := [.lit (.bool false)], args := [d] }
  | _ => none }
def FnExactReversePolynomialWrongFalsely : Prop := fnExactReversePolynomialRow.holds Try.pinned (OpenSpec.ofChange fnExactReversePolynomialWrong)

/-- 'laws.FnExactAddPolynomials': WHATEVER THE INPUT: true; the input reads as it did. -/
def fnExactAddPolynomialsSpec : ChangeSpec := { name := "fnExactAddPolynomials", fn := fun _ => fun
  | [d1, d2] => { results := [.lit (.bool true)], args := [d1, d2] }
  | _ => none }
def fnExactAddPolynomialsRow : OpenClaim := { program := "ytcfdidomnblopaa", sum := "4550701916b1f1097f4a1465be647dcf04342984e8ea1eb5a84a2eae1e283dd2", func := "loop.example/g01140/laws.FnExactAddPolynomials", spec := "fnExactAddPolynomials", apart := false }
def FnExactAddPolynomialsSaid : Prop := fnExactAddPolynomialsRow.holds Try.pinned (OpenSpec.ofChange fnExactAddPolynomialsSpec)

/-- ITS FALSE NEIGHBOUR: 'it returns false'. Refute it at one input. -/
def fnExactAddPolynomialsWrong : ChangeSpec := { name := "fnExactAddPolynomials", fn := fun _ => fun
  | [d1, d2] => { results := [.lit (.bool false)], args := [d1, d2] }
  | _ => none }
def FnExactAddPolynomialsWrongFalsely : Prop := fnExactAddPolynomialsRow.holds Try.pinned (OpenSpec.ofChange fnExactAddPolynomialsWrong)

/-- 'laws.FnExactSubtractPolynomials': WHATEVER THE INPUT: true; the input reads as it did. -/
def fnExactSubtractPolynomialsSpec : ChangeSpec := { name := "fnExactSubtractPolynomials", fn := fun _ => fun
  | [d1, d2] => { results := [.lit (.bool true)], args := [d1, d2] }
  | _ => none }
def fnExactSubtractPolynomialsRow : OpenClaim := { program := "ytcfdidomnblopaa", sum := "4550701916b1f1097f4a1465be647dcf04342984e8ea1eb5a84a2eae1e283dd2", func := "loop.example/g01140/laws.FnExactSubtractPolynomials", spec := "fnExactSubtractPolynomials", apart := false }
def FnExactSubtractPolynomialsSaid : Prop := fnExactSubtractPolynomialsRow.holds Try.pinned (OpenSpec.ofChange fnExactSubtractPolynomialsSpec)

/-- ITS FALSE NEIGHBOUR: 'it returns false'. Refute it at one input. -/
def fnExactSubtractPolynomialsWrong : ChangeSpec := { name := "fnExactSubtractPolynomials", fn := fun _ => fun
  | [d1, d2] => { results := [.lit (.bool false)], args := [d1, d2] }
  | _ => none }
def FnExactSubtractPolynomialsWrongFalsely : Prop := fnExactSubtractPolynomialsRow.holds Try.pinned (OpenSpec.ofChange fnExactSubtractPolynomialsWrong)

/-- 'laws.FnExactMultiplyPolynomials': WHATEVER THE INPUT: true; the input reads as it did. -/
def fnExactMultiplyPolynomialsSpec : ChangeSpec := { name := "fnExactMultiplyPolynomials", fn := fun _ => fun
  | [d1, d2] => { results := [.lit (.bool true)], args := [d1, d2] }
  | _ => none }
def fnExactMultiplyPolynomialsRow : OpenClaim := { program := "ytcfdidomnblopaa", sum := "4550701916b1f1097f4a1465be647dcf04342984e8ea1eb5a84a2eae1e283dd2", func := "loop.example/g01140/laws.FnExactMultiplyPolynomials", spec := "fnExactMultiplyPolynomials", apart := false }
def FnExactMultiplyPolynomialsSaid : Prop := fnExactMultiplyPolynomialsRow.holds Try.pinned (OpenSpec.ofChange fnExactMultiplyPolynomialsSpec)

/-- ITS FALSE NEIGHBOUR: 'it returns false'. Refute it at one input. -/
def fnExactMultiplyPolynomialsWrong : ChangeSpec := { name := "fnExactMultiplyPolynomials", fn := fun _ => fun
  | [d1, d2] => { results := [.lit (.bool false)], args := [d1, d2] }
  | _ => none }
def FnExactMultiplyPolynomialsWrongFalsely : Prop := fnExactMultiplyPolynomialsRow.holds Try.pinned (OpenSpec.ofChange fnExactMultiplyPolynomialsWrong)

/-- 'laws.FnExactDividePolynomials': WHATEVER THE INPUT: true; the input reads as it did. -/
def fnExactDividePolynomialsSpec : ChangeSpec := { name := "fnExactDividePolynomials", fn := fun _ => fun
  | [d1, d2] => { results := [.lit (.bool true)], args := [d1, d2] }
  | _ => none }
def fnExactDividePolynomialsRow : OpenClaim := { program := "ytcfdidomnblopaa", sum := "4550701916b1f1097f4a1465be647dcf04342984e8ea1eb5a84a2eae1e283dd2", func := "loop.example/g01140/laws.FnExactDividePolynomials", spec := "fnExactDividePolynomials", apart := false }
def FnExactDividePolynomialsSaid : Prop := fnExactDividePolynomialsRow.holds Try.pinned (OpenSpec.ofChange fnExactDividePolynomialsSpec)

/-- ITS FALSE NEIGHBOUR: 'it returns false'. Refute it at one input. -/
def fnExactDividePolynomialsWrong : ChangeSpec := { name := "fnExactDividePolynomials", fn := fun _ => fun
  | [d1, d2] => { results := [.lit (.bool false)], args := [d1, d2] }
  | _ => none }
def FnExactDividePolynomialsWrongFalsely : Prop := fnExactDividePolynomialsRow.holds Try.pinned (OpenSpec.ofChange fnExactDividePolynomialsWrong)

/- THE SECOND FORM. 'bulk': how many values and letters a reading holds, each counted each time it is reached (what is shared counts as often as it is met; a slice's spare places count too). A statement '..UptoSaid' is the law's where the arguments, and the package variables that the reading takes, are together of bulk at most 1048576: NARROWER than '..Said'. Prove '..Said' where nothing that the law and all that it calls make is longer than what came in: it says more and counts as full. Else prove '..UptoSaid'. A law counts once. -/
mutual
def uptoBulk {H : Type} : DataW H → Nat
  | .lit (.string bytes) => bytes.length + 1
  | .lit _ => 1
  | .nil => 1
  | .ptr d => uptoBulk d + 1
  | .slice elems spare => uptoBulkAll elems + uptoBulkAll spare + 1
  | .agg parts => uptoBulkAll parts + 1
  | .iface _ d => uptoBulk d + 1
  | .map entries => uptoBulkEntries entries + 1
  | .held _ => 1
def uptoBulkAll {H : Type} : List (DataW H) → Nat
  | [] => 0
  | d :: r => uptoBulk d + uptoBulkAll r
def uptoBulkEntries {H : Type} : List (Lit × DataW H) → Nat
  | [] => 0
  | x :: r => uptoBulkEntry x + uptoBulkEntries r
def uptoBulkEntry {H : Type} : Lit × DataW H → Nat
  | (.string bytes, d) => bytes.length + uptoBulk d + 1
  | (_, d) => uptoBulk d + 1
 end
def uptoSmall : (H : Type) → List (DataW H) → Bool := fun _ ds => decide (uptoBulkAll ds ≤ 1048576)
def OpenSpec.upto (s : _root_.Go.ChangeSpec) : _root_.Go.OpenSpec := { _root_.Go.OpenSpec.ofChange s with cond := some uptoSmall }

/-- 'laws.FnExactIsPolynomial', WHERE WHAT IT READS IS OF BULK AT MOST 1048576: true; the input reads as it did. -/
def fnExactIsPolynomialUptoRow : OpenClaim := { program := "ytcfdidomnblopaa", sum := "4550701916b1f1097f4a1465be647dcf04342984e8ea1eb5a84a2eae1e283dd2", func := "loop.example/g01140/laws.FnExactIsPolynomial", spec := "fnExactIsPolynomial", apart := false, narrowed := true }
def FnExactIsPolynomialUptoSaid : Prop := fnExactIsPolynomialUptoRow.holds Try.pinned (OpenSpec.upto fnExactIsPolynomialSpec)

/-- 'laws.FnExactEvaluatePolynomial', WHERE WHAT IT READS IS OF BULK AT MOST 1048576: true; the input reads as it did. -/
def fnExactEvaluatePolynomialUptoRow : OpenClaim := { program := "ytcfdidomnblopaa", sum := "4550701916b1f1097f4a1465be647dcf04342984e8ea1eb5a84a2eae1e283dd2", func := "loop.example/g01140/laws.FnExactEvaluatePolynomial", spec := "fnExactEvaluatePolynomial", apart := false, narrowed := true }
def FnExactEvaluatePolynomialUptoSaid : Prop := fnExactEvaluatePolynomialUptoRow.holds Try.pinned (OpenSpec.upto fnExactEvaluatePolynomialSpec)

/-- 'laws.FnExactSubstitutePower', WHERE WHAT IT READS IS OF BULK AT MOST 1048576: true; the input reads as it did. -/
def fnExactSubstitutePowerUptoRow : OpenClaim := { program := "ytcfdidomnblopaa", sum := "4550701916b1f1097f4a1465be647dcf04342984e8ea1eb5a84a2eae1e283dd2", func := "loop.example/g01140/laws.FnExactSubstitutePower", spec := "fnExactSubstitutePower", apart := false, narrowed := true }
def FnExactSubstitutePowerUptoSaid : Prop := fnExactSubstitutePowerUptoRow.holds Try.pinned (OpenSpec.upto fnExactSubstitutePowerSpec)

/-- 'laws.FnExactIsSymmetricPolynomial', WHERE WHAT IT READS IS OF BULK AT MOST 1048576: true; the input reads as it did. -/
def fnExactIsSymmetricPolynomialUptoRow : OpenClaim := { program := "ytcfdidomnblopaa", sum := "4550701916b1f1097f4a1465be647dcf04342984e8ea1eb5a84a2eae1e283dd2", func := "loop.example/g01140/laws.FnExactIsSymmetricPolynomial", spec := "fnExactIsSymmetricPolynomial", apart := false, narrowed := true }
def FnExactIsSymmetricPolynomialUptoSaid : Prop := fnExactIsSymmetricPolynomialUptoRow.holds Try.pinned (OpenSpec.upto fnExactIsSymmetricPolynomialSpec)

/-- 'laws.FnExactReversePolynomial', WHERE WHAT IT READS IS OF BULK AT MOST 1048576: true; the input reads as it did. -/
def fnExactReversePolynomialUptoRow : OpenClaim := { program := "ytcfdidomnblopaa", sum := "4550701916b1f1097f4a1465be647dcf04342984e8ea1eb5a84a2eae1e283dd2", func := "loop.example/g01140/laws.FnExactReversePolynomial", spec := "fnExactReversePolynomial", apart := false, narrowed := true }
def FnExactReversePolynomialUptoSaid : Prop := fnExactReversePolynomialUptoRow.holds Try.pinned (OpenSpec.upto fnExactReversePolynomialSpec)

/-- 'laws.FnExactAddPolynomials', WHERE WHAT IT READS IS OF BULK AT MOST 1048576: true; the input reads as it did. -/
def fnExactAddPolynomialsUptoRow : OpenClaim := { program := "ytcfdidomnblopaa", sum := "4550701916b1f1097f4a1465be647dcf04342984e8ea1eb5a84a2eae1e283dd2", func := "loop.example/g01140/laws.FnExactAddPolynomials", spec := "fnExactAddPolynomials", apart := false, narrowed := true }
def FnExactAddPolynomialsUptoSaid : Prop := fnExactAddPolynomialsUptoRow.holds Try.pinned (OpenSpec.upto fnExactAddPolynomialsSpec)

/-- 'laws.FnExactSubtractPolynomials', WHERE WHAT IT READS IS OF BULK AT MOST 1048576: true; the input reads as it did. -/
def fnExactSubtractPolynomialsUptoRow : OpenClaim := { program := "ytcfdidomnblopaa", sum := "4550701916b1f1097f4a1465be647dcf04342984e8ea1eb5a84a2eae1e283dd2", func := "loop.example/g01140/laws.FnExactSubtractPolynomials", spec := "fnExactSubtractPolynomials", apart := false, narrowed := true }
def FnExactSubtractPolynomialsUptoSaid : Prop := fnExactSubtractPolynomialsUptoRow.holds Try.pinned (OpenSpec.upto fnExactSubtractPolynomialsSpec)

/-- 'laws.FnExactMultiplyPolynomials', WHERE WHAT IT READS IS OF BULK AT MOST 1048576: true; the input reads as it did. -/
def fnExactMultiplyPolynomialsUptoRow : OpenClaim := { program := "ytcfdidomnblopaa", sum := "4550701916b1f1097f4a1465be647dcf04342984e8ea1eb5a84a2eae1e283dd2", func := "loop.example/g01140/laws.FnExactMultiplyPolynomials", spec := "fnExactMultiplyPolynomials", apart := false, narrowed := true }
def FnExactMultiplyPolynomialsUptoSaid : Prop := fnExactMultiplyPolynomialsUptoRow.holds Try.pinned (OpenSpec.upto fnExactMultiplyPolynomialsSpec)

/-- 'laws.FnExactDividePolynomials', WHERE WHAT IT READS IS OF BULK AT MOST 1048576: true; the input reads as it did. -/
def fnExactDividePolynomialsUptoRow : OpenClaim := { program := "ytcfdidomnblopaa", sum := "4550701916b1f1097f4a1465be647dcf04342984e8ea1eb5a84a2eae1e283dd2", func := "loop.example/g01140/laws.FnExactDividePolynomials", spec := "fnExactDividePolynomials", apart := false, narrowed := true }
def FnExactDividePolynomialsUptoSaid : Prop := fnExactDividePolynomialsUptoRow.holds Try.pinned (OpenSpec.upto fnExactDividePolynomialsSpec)

end Rows
end Go.Proofs.Ytcfdidomnblopaa
