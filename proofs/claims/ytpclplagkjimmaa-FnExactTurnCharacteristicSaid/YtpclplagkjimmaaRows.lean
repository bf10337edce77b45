/-
  No cell of these rows narrows 'for every input' (looked for: loops, veiled, ifaces, maps, wideKeys, modest, calm, conditions, laid).
  DERIVED. THE GIVEN ROWS OF THIS SEAT. 11 by the template 'for every input the law returns true; each argument reads behind the call as it read before'; 0 by the template 'total and deterministic' (their statements: YtpclplagkjimmaaTotals.lean).
  GIVEN WITH THE SEED: the statements are not yours to turn. If you find one false, say at which input.
  Laid BY PROGRAM, IN A SANDBOX (cutbox-rows.mjs): the forced cells as the released guide's own fill.sh prints them over the translation 9b6b17e59592abdd… (all of the seat's roots in one cut). By AI agents, Wed Nov 11 2026. No macro, syntax, notation, axiom, sorry.
-/
import Derived.Test.YtpclplagkjimmaaChecked
import GoSem.Claim
import GoSem.ClaimJoined
import GoSem.ClaimMapViews
import Derived.JoinedTies
import Derived.KernelRfl
namespace Go.Proofs.Ytpclplagkjimmaa
/- THE CELL 'sum', in the pinned program and in every row, IS THE sha256 OF THE DUMP (.gsa) THAT YtpclplagkjimmaaProg.lean LOADS. Nothing in Lean hashes anything: it is a label: what it is worth is what the hold of that sum in a sandbox is worth. -/
noncomputable def Try.pinned : Pinned := { name := "ytpclplagkjimmaa", sum := "9b6b17e59592abdd32d19eccb236be837b69eb34d723ce93c97075086cd3b21e", checked := Try.checked }
namespace Rows
def none {H : Type} : Left H := { results := [], args := [] }

/-- 'laws.FnExactIsBranch': WHATEVER THE INPUT: true; the input reads as it did. -/
def fnExactIsBranchSpec : ChangeSpec := { name := "fnExactIsBranch", fn := fun _ => fun
  | [d] => { results := [.lit (.bool true)], args := [d] }
  | _ => none }
def fnExactIsBranchRow : OpenClaim := { program := "ytpclplagkjimmaa", sum := "9b6b17e59592abdd32d19eccb236be837b69eb34d723ce93c97075086cd3b21e", func := "loop.example/g01140/laws.FnExactIsBranch", spec := "fnExactIsBranch", apart := false }
def FnExactIsBranchSaid : Prop := fnExactIsBranchRow.holds Try.pinned (OpenSpec.ofChange fnExactIsBranchSpec)

/-- ITS FALSE NEIGHBOUR: 'it returns false'. Refute it at one input. -/
def fnExactIsBranchWrong : ChangeSpec := { name := "fnExactIsBranch", fn := fun _ => fun
  | [d] => { results := [.lit (.bool false)], args := [d] }
  | _ => none }
def FnExactIsBranchWrongFalsely : Prop := fnExactIsBranchRow.holds Try.pinned (OpenSpec.ofChange fnExactIsBranchWrong)

/-- 'laws.FnExactMultiplicityOf': WHATEVER THE INPUT: true; the input reads as it did. -/
def fnExactMultiplicityOfSpec : ChangeSpec := { name := "fnExactMultiplicityOf", fn := fun _ => fun
  | [d] => { results := [.lit (.bool true)], args := [d] }
  | _ => none }
def fnExactMultiplicityOfRow : OpenClaim := { program := "ytpclplagkjimmaa", sum := "9b6b17e59592abdd32d19eccb236be837b69eb34d723ce93c97075086cd3b21e", func := "loop.example/g01140/laws.FnExactMultiplicityOf", spec := "fnExactMultiplicityOf", apart := false }
def FnExactMultiplicityOfSaid : Prop := fnExactMultiplicityOfRow.holds Try.pinned (OpenSpec.ofChange fnExactMultiplicityOfSpec)

/-- ITS FALSE NEIGHBOUR: 'it returns false'. Refute it at one input. -/
def fnExactMultiplicityOfWrong : ChangeSpec := { name := "fnExactMultiplicityOf", fn := fun _ => fun
  | [d] => { results := [.lit (.bool false)], args := [d] }
  | _ => none }
def FnExactMultiplicityOfWrongFalsely : Prop := fnExactMultiplicityOfRow.holds Try.pinned (OpenSpec.ofChange fnExactMultiplicityOfWrong)

/-- 'laws.FnExactCountPairs': WHATEVER THE INPUT: true; the input reads as it did. -/
def fnExactCountPairsSpec : ChangeSpec := { name := "fnExactCountPairs", fn := fun _ => fun
  | [d] => { results := [.lit (.bool true)], args := [d] }
  | _ => none }
def fnExactCountPairsRow : OpenClaim := { program := "ytpclplagkjimmaa", sum := "9b6b17e59592abdd32d19eccb236be837b69eb34d723ce93c97075086cd3b21e", func := "loop.example/g01140/laws.FnExactCountPairs", spec := "fnExactCountPairs", apart := false }
def FnExactCountPairsSaid : Prop := fnExactCountPairsRow.holds Try.pinned (OpenSpec.ofChange fnExactCountPairsSpec)

/-- ITS FALSE NEIGHBOUR: 'it returns false'. Refute it at one input. -/
def fnExactCountPairsWrong : ChangeSpec := { name := "fnExactCountPairs", fn := fun _ => fun
  | [d] => { results := [.lit (.bool false)], args := [d] }
  | _ => none }
def FnExactCountPairsWrongFalsely : Prop := fnExactCountPairsRow.holds Try.pinned (OpenSpec.ofChange fnExactCountPairsWrong)

/-- 'laws.FnExactBranchOfExponents': WHATEVER THE INPUT: true; the input reads as it did. -/
def fnExactBranchOfExponentsSpec : ChangeSpec := { name := "fnExactBranchOfExponents", fn := fun _ => fun
  | [d1, d2] => { results := [.lit (.bool true)], args := [d1, d2] }
  | _ => none }
def fnExactBranchOfExponentsRow : OpenClaim := { program := "ytpclplagkjimmaa", sum := "9b6b17e59592abdd32d19eccb236be837b69eb34d723ce93c97075086cd3b21e", func := "loop.example/g01140/laws.FnExactBranchOfExponents", spec := "fnExactBranchOfExponents", apart := false }
def FnExactBranchOfExponentsSaid : Prop := fnExactBranchOfExponentsRow.holds Try.pinned (OpenSpec.ofChange fnExactBranchOfExponentsSpec)

/-- ITS FALSE NEIGHBOUR: 'it returns false'. Refute it at one input. -/
def fnExactBranchOfExponentsWrong : ChangeSpec := { name := "fnExactBranchOfExponents", fn := fun _ => fun
  | [d1, d2] => { results := [.lit (.bool false)], args := [d1, d2] }
  | _ => none }
def FnExactBranchOfExponentsWrongFalsely : Prop := fnExactBranchOfExponentsRow.holds Try.pinned (OpenSpec.ofChange fnExactBranchOfExponentsWrong)

/-- 'laws.FnExactDivisorsOf': WHATEVER THE INPUT: true; the input reads as it did. -/
def fnExactDivisorsOfSpec : ChangeSpec := { name := "fnExactDivisorsOf", fn := fun _ => fun
  | [d] => { results := [.lit (.bool true)], args := [d] }
  | _ => none }
def fnExactDivisorsOfRow : OpenClaim := { program := "ytpclplagkjimmaa", sum := "9b6b17e59592abdd32d19eccb236be837b69eb34d723ce93c97075086cd3b21e", func := "loop.example/g01140/laws.FnExactDivisorsOf", spec := "fnExactDivisorsOf", apart := false }
def FnExactDivisorsOfSaid : Prop := fnExactDivisorsOfRow.holds Try.pinned (OpenSpec.ofChange fnExactDivisorsOfSpec)

/-- ITS FALSE NEIGHBOUR: 'it returns false'. Refute it at one input. -/
def fnExactDivisorsOfWrong : ChangeSpec := { name := "fnExactDivisorsOf", fn := fun _ => fun
  | [d] => { results := [.lit (.bool false)], args := [d] }
  | _ => none }
def FnExactDivisorsOfWrongFalsely : Prop := fnExactDivisorsOfRow.holds Try.pinned (OpenSpec.ofChange fnExactDivisorsOfWrong)

/-- 'laws.FnExactTurnCharacteristic': WHATEVER THE INPUT: true; the input reads as it did. -/
def fnExactTurnCharacteristicSpec : ChangeSpec := { name := "fnExactTurnCharacteristic", fn := fun _ => fun
  | [d] => { results := [.lit (.bool true)], args := [d] }
  | _ => none }
def fnExactTurnCharacteristicRow : OpenClaim := { program := "ytpclplagkjimmaa", sum := "9b6b17e59592abdd32d19eccb236be837b69eb34d723ce93c97075086cd3b21e", func := "loop.example/g01140/laws.FnExactTurnCharacteristic", spec := "fnExactTurnCharacteristic", apart := false }
def FnExactTurnCharacteristicSaid : Prop := fnExactTurnCharacteristicRow.holds Try.pinned (OpenSpec.ofChange fnExactTurnCharacteristicSpec)

/-- ITS FALSE NEIGHBOUR: 'it returns false'. Refute it at one input. -/
def fnExactTurnCharacteristicWrong : ChangeSpec := { name := "fnExactTurnCharacteristic", fn := fun _ => fun
  | [d] => { results := [.lit (.bool false)], args := [d] }
  | _ => none }
def FnExactTurnCharacteristicWrongFalsely : Prop := fnExactTurnCharacteristicRow.holds Try.pinned (OpenSpec.ofChange fnExactTurnCharacteristicWrong)

/-- 'laws.FnExactTruncateBranch': WHATEVER THE INPUT: true; the input reads as it did. -/
def fnExactTruncateBranchSpec : ChangeSpec := { name := "fnExactTruncateBranch", fn := fun _ => fun
  | [d1, d2] => { results := [.lit (.bool true)], args := [d1, d2] }
  | _ => none }
def fnExactTruncateBranchRow : OpenClaim := { program := "ytpclplagkjimmaa", sum := "9b6b17e59592abdd32d19eccb236be837b69eb34d723ce93c97075086cd3b21e", func := "loop.example/g01140/laws.FnExactTruncateBranch", spec := "fnExactTruncateBranch", apart := false }
def FnExactTruncateBranchSaid : Prop := fnExactTruncateBranchRow.holds Try.pinned (OpenSpec.ofChange fnExactTruncateBranchSpec)

/-- ITS FALSE NEIGHBOUR: 'it returns false'. Refute it at one input. -/
def fnExactTruncateBranchWrong : ChangeSpec := { name := "fnExactTruncateBranch", fn := fun _ => fun
  | [d1, d2] => { results := [.lit (.bool false)], args := [d1, d2] }
  | _ => none }
def FnExactTruncateBranchWrongFalsely : Prop := fnExactTruncateBranchRow.holds Try.pinned (OpenSpec.ofChange fnExactTruncateBranchWrong)

/-- 'laws.FnExactPuiseuxPairs': WHATEVER THE INPUT: true; the input reads as it did. -/
def fnExactPuiseuxPairsSpec : ChangeSpec := { name := "fnExactPuiseuxPairs", fn := fun _ => fun
  | [d] => { results := [.lit (.bool true)], args := [d] }
  | _ => none }
def fnExactPuiseuxPairsRow : OpenClaim := { program := "ytpclplagkjimmaa", sum := "9b6b17e59592abdd32d19eccb236be837b69eb34d723ce93c97075086cd3b21e", func := "loop.example/g01140/laws.FnExactPuiseuxPairs", spec := "fnExactPuiseuxPairs", apart := false }
def FnExactPuiseuxPairsSaid : Prop := fnExactPuiseuxPairsRow.holds Try.pinned (OpenSpec.ofChange fnExactPuiseuxPairsSpec)

/-- ITS FALSE NEIGHBOUR: 'it returns false'. Refute it at one input. -/
def fnExactPuiseuxPairsWrong : ChangeSpec := { name := "fnExactPuiseuxPairs", fn := fun _ => fun
  | [d] => { results := [.lit (.bool false)], args := [d] }
  | _ => none }
def FnExactPuiseuxPairsWrongFalsely : Prop := fnExactPuiseuxPairsRow.holds Try.pinned (OpenSpec.ofChange fnExactPuiseuxPairsWrong)

/-- 'laws.FnExactNewtonPairs': WHATEVER THE INPUT: true; the input reads as it did. -/
def fnExactNewtonPairsSpec : ChangeSpec := { name := "fnExactNewtonPairs", fn := fun _ => fun
  | [d] => { results := [.lit (.bool true)], args := [d] }
  | _ => none }
def fnExactNewtonPairsRow : OpenClaim := { program := "ytpclplagkjimmaa", sum := "9b6b17e59592abdd32d19eccb236be837b69eb34d723ce93c97075086cd3b21e", func := "loop.example/g01140/laws.FnExactNewtonPairs", spec := "fnExactNewtonPairs", apart := false }
def FnExactNewtonPairsSaid : Prop := fnExactNewtonPairsRow.holds Try.pinned (OpenSpec.ofChange fnExactNewtonPairsSpec)

/-- ITS FALSE NEIGHBOUR: 'it returns false'. Refute it at one input. -/
def fnExactNewtonPairsWrong : ChangeSpec := { name := "fnExactNewtonPairs", fn := fun _ => fun
  | [d] => { results := [.lit (.bool false)], args := [d] }
  | _ => none }
def FnExactNewtonPairsWrongFalsely : Prop := fnExactNewtonPairsRow.holds Try.pinned (OpenSpec.ofChange fnExactNewtonPairsWrong)

/-- 'laws.FnExactBranchOfPuiseux': WHATEVER THE INPUT: true; the input reads as it did. -/
def fnExactBranchOfPuiseuxSpec : ChangeSpec := { name := "fnExactBranchOfPuiseux", fn := fun _ => fun
  | [d] => { results := [.lit (.bool true)], args := [d] }
  | _ => none }
def fnExactBranchOfPuiseuxRow : OpenClaim := { program := "ytpclplagkjimmaa", sum := "9b6b17e59592abdd32d19eccb236be837b69eb34d723ce93c97075086cd3b21e", func := "loop.example/g01140/laws.FnExactBranchOfPuiseux", spec := "fnExactBranchOfPuiseux", unfollowed := true, recurses := true, apart := false }
def FnExactBranchOfPuiseuxSaid : Prop := fnExactBranchOfPuiseuxRow.holds Try.pinned (OpenSpec.ofChange fnExactBranchOfPuiseuxSpec)

/-- ITS FALSE NEIGHBOUR: 'it returns false'. Refute it at one input. -/
def fnExactBranchOfPuiseuxWrong : ChangeSpec := { name := "fnExactBranchOfPuiseux", fn := fun _ => fun
  | [d] => { results := [.lit (.bool false)], args := [d] }
  | _ => none }
def FnExactBranchOfPuiseuxWrongFalsely : Prop := fnExactBranchOfPuiseuxRow.holds Try.pinned (OpenSpec.ofChange fnExactBranchOfPuiseuxWrong)

/-- 'laws.FnExactBranchOfNewton': WHATEVER THE INPUT: true; the input reads as it did. -/
def fnExactBranchOfNewtonSpec : ChangeSpec := { name := "fnExactBranchOfNewton", fn := fun _ => fun
  | [d] => { results := [.lit (.bool true)], args := [d] }
  | _ => none }
def fnExactBranchOfNewtonRow : OpenClaim := { program := "ytpclplagkjimmaa", sum := "9b6b17e59592abdd32d19eccb236be837b69eb34d723ce93c97075086cd3b21e", func := "loop.example/g01140/laws.FnExactBranchOfNewton", spec := "fnExactBranchOfNewton", unfollowed := true, recurses := true, apart := false }
def FnExactBranchOfNewtonSaid : Prop := fnExactBranchOfNewtonRow.holds Try.pinned (OpenSpec.ofChange fnExactBranchOfNewtonSpec)

/-- ITS FALSE NEIGHBOUR: 'it returns false'. Refute it at one input. -/
def fnExactBranchOfNewtonWrong : ChangeSpec := { name := "fnExactBranchOfNewton", fn := fun _ => fun
  | [d] => { results := [.lit (.bool false)], args := [d] }
  | _ => none }
def FnExactBranchOfNewtonWrongFalsely : Prop := fnExactBranchOfNewtonRow.holds Try.pinned (OpenSpec.ofChange fnExactBranchOfNewtonWrong)

/- THE SECOND FORM. 'bulk': how many values and letters a reading holds, each counted each time it is reached (what is shared counts as often as it is met; a slice's spare places count too). A statement '..UptoSaid' is the law's where the arguments, and the package variables that the reading takes, are together of bulk at most 1048576: NARROWER than '..Said'. Prove '..Said' where nothing that the law and all that it calls make is longer than what came in: it says more and counts as full. Else prove '..UptoSaid'. A law counts once. -/
mutual
def uptoBulk {H : Type} : DataW H → Nat
  | .lit (.string bytes) => bytes.length + 1
  | .lit _ => 1
  | .nil => 1
  | .ptr d => uptoBulk d + 1
  | .slice elems spare => uptoBulkAll elems + uptoBulkAll spare + 1
  | .agg parts => uptoBulkAll parts + 1
  | .iface _ d => uptoBulk d + 1
  | .map entries => uptoBulkEntries entries + 1
  | .held _ => 1
def uptoBulkAll {H : Type} : List (DataW H) → Nat
  | [] => 0
  | d :: r => uptoBulk d + uptoBulkAll r
def uptoBulkEntries {H : Type} : List (Lit × DataW H) → Nat
  | [] => 0
  | x :: r => uptoBulkEntry x + uptoBulkEntries r
def uptoBulkEntry {H : Type} : Lit × DataW H → Nat
  | (.string bytes, d) => bytes.length + uptoBulk d + 1
  | (_, d) => uptoBulk d + 1
 end
def uptoSmall : (H : Type) → List (DataW H) → Bool := fun _ ds => decide (uptoBulkAll ds ≤ 1048576)
def OpenSpec.upto (s : _root_.Go.ChangeSpec) : _root_.Go.OpenSpec := { _root_.Go.OpenSpec.ofChange s with cond := some uptoSmall }

/-- 'laws.FnExactIsBranch', WHERE WHAT IT READS IS OF BULK AT MOST 1048576: true; the input reads as it did. -/
def fnExactIsBranchUptoRow : OpenClaim := { program := "ytpclplagkjimmaa", sum := "9b6b17e59592abdd32d19eccb236be837b69eb34d723ce93c97075086cd3b21e", func := "loop.example/g01140/laws.FnExactIsBranch", spec := "fnExactIsBranch", apart := false, narrowed := true }
def FnExactIsBranchUptoSaid : Prop := fnExactIsBranchUptoRow.holds Try.pinned (OpenSpec.upto fnExactIsBranchSpec)

/-- 'laws.FnExactMultiplicityOf', WHERE WHAT IT READS IS OF BULK AT MOST 1048576: true; the input reads as it did. -/
def fnExactMultiplicityOfUptoRow : OpenClaim := { program := "ytpclplagkjimmaa", sum := "9b6b17e59592abdd32d19eccb236be837b69eb34d723ce93c97075086cd3b21e", func := "loop.example/g01140/laws.FnExactMultiplicityOf", spec := "fnExactMultiplicityOf", apart := false, narrowed := true }
def FnExactMultiplicityOfUptoSaid : Prop := fnExactMultiplicityOfUptoRow.holds Try.pinned (OpenSpec.upto fnExactMultiplicityOfSpec)

/-- 'laws.FnExactCountPairs', WHERE WHAT IT READS IS OF BULK AT MOST 1048576: true; the input reads as it did. -/
def fnExactCountPairsUptoRow : OpenClaim := { program := "ytpclplagkjimmaa", sum := "9b6b17e59592abdd32d19eccb236be837b69eb34d723ce93c97075086cd3b21e", func := "loop.example/g01140/laws.FnExactCountPairs", spec := "fnExactCountPairs", apart := false, narrowed := true }
def FnExactCountPairsUptoSaid : Prop := fnExactCountPairsUptoRow.holds Try.pinned (OpenSpec.upto fnExactCountPairsSpec)

/-- 'laws.FnExactBranchOfExponents', WHERE WHAT IT READS IS OF BULK AT MOST 1048576: true; the input reads as it did. -/
def fnExactBranchOfExponentsUptoRow : OpenClaim := { program := "ytpclplagkjimmaa", sum := "9b6b17e59592abdd32d19eccb236be837b69eb34d723ce93c97075086cd3b21e", func := "loop.example/g01140/laws.FnExactBranchOfExponents", spec := "fnExactBranchOfExponents", apart := false, narrowed := true }
def FnExactBranchOfExponentsUptoSaid : Prop := fnExactBranchOfExponentsUptoRow.holds Try.pinned (OpenSpec.upto fnExactBranchOfExponentsSpec)

/-- 'laws.FnExactDivisorsOf', WHERE WHAT IT READS IS OF BULK AT MOST 1048576: true; the input reads as it did. -/
def fnExactDivisorsOfUptoRow : OpenClaim := { program := "ytpclplagkjimmaa", sum := "9b6b17e59592abdd32d19eccb236be837b69eb34d723ce93c97075086cd3b21e", func := "loop.example/g01140/laws.FnExactDivisorsOf", spec := "fnExactDivisorsOf", apart := false, narrowed := true }
def FnExactDivisorsOfUptoSaid : Prop := fnExactDivisorsOfUptoRow.holds Try.pinned (OpenSpec.upto fnExactDivisorsOfSpec)

/-- 'laws.FnExactTurnCharacteristic', WHERE WHAT IT READS IS OF BULK AT MOST 1048576: true; the input reads as it did. -/
def fnExactTurnCharacteristicUptoRow : OpenClaim := { program := "ytpclplagkjimmaa", sum := "9b6b17e59592abdd32d19eccb236be837b69eb34d723ce93c97075086cd3b21e", func := "loop.example/g01140/laws.FnExactTurnCharacteristic", spec := "fnExactTurnCharacteristic", apart := false, narrowed := true }
def FnExactTurnCharacteristicUptoSaid : Prop := fnExactTurnCharacteristicUptoRow.holds Try.pinned (OpenSpec.upto fnExactTurnCharacteristicSpec)

/-- 'laws.FnExactTruncateBranch', WHERE WHAT IT READS IS OF BULK AT MOST 1048576: true; the input reads as it did. -/
def fnExactTruncateBranchUptoRow : OpenClaim := { program := "ytpclplagkjimmaa", sum := "9b6b17e59592abdd32d19eccb236be837b69eb34d723ce93c97075086cd3b21e", func := "loop.example/g01140/laws.FnExactTruncateBranch", spec := "fnExactTruncateBranch", apart := false, narrowed := true }
def FnExactTruncateBranchUptoSaid : Prop := fnExactTruncateBranchUptoRow.holds Try.pinned (OpenSpec.upto fnExactTruncateBranchSpec)

/-- 'laws.FnExactPuiseuxPairs', WHERE WHAT IT READS IS OF BULK AT MOST 1048576: true; the input reads as it did. -/
def fnExactPuiseuxPairsUptoRow : OpenClaim := { program := "ytpclplagkjimmaa", sum := "9b6b17e59592abdd32d19eccb236be837b69eb34d723ce93c97075086cd3b21e", func := "loop.example/g01140/laws.FnExactPuiseuxPairs", spec := "fnExactPuiseuxPairs", apart := false, narrowed := true }
def FnExactPuiseuxPairsUptoSaid : Prop := fnExactPuiseuxPairsUptoRow.holds Try.pinned (OpenSpec.upto fnExactPuiseuxPairsSpec)

/-- 'laws.FnExactNewtonPairs', WHERE WHAT IT READS IS OF BULK AT MOST 1048576: true; the input reads as it did. -/
def fnExactNewtonPairsUptoRow : OpenClaim := { program := "ytpclplagkjimmaa", sum := "9b6b17e59592abdd32d19eccb236be837b69eb34d723ce93c97075086cd3b21e", func := "loop.example/g01140/laws.FnExactNewtonPairs", spec := "fnExactNewtonPairs", apart := false, narrowed := true }
def FnExactNewtonPairsUptoSaid : Prop := fnExactNewtonPairsUptoRow.holds Try.pinned (OpenSpec.upto fnExactNewtonPairsSpec)

/-- 'laws.FnExactBranchOfPuiseux', WHERE WHAT IT READS IS OF BULK AT MOST 1048576: true; the input reads as it did. -/
def fnExactBranchOfPuiseuxUptoRow : OpenClaim := { program := "ytpclplagkjimmaa", sum := "9b6b17e59592abdd32d19eccb236be837b69eb34d723ce93c97075086cd3b21e", func := "loop.example/g01140/laws.FnExactBranchOfPuiseux", spec := "fnExactBranchOfPuiseux", unfollowed := true, recurses := true, apart := false, narrowed := true }
def FnExactBranchOfPuiseuxUptoSaid : Prop := fnExactBranchOfPuiseuxUptoRow.holds Try.pinned (OpenSpec.upto fnExactBranchOfPuiseuxSpec)

/-- 'laws.FnExactBranchOfNewton', WHERE WHAT IT READS IS OF BULK AT MOST 1048576: true; the input reads as it did. -/
def fnExactBranchOfNewtonUptoRow : OpenClaim := { program := "ytpclplagkjimmaa", sum := "9b6b17e59592abdd32d19eccb236be837b69eb34d723ce93c97075086cd3b21e", func := "loop.example/g01140/laws.FnExactBranchOfNewton", spec := "fnExactBranchOfNewton", unfollowed := true, recurses := true, apart := false, narrowed := true }
def FnExactBranchOfNewtonUptoSaid : Prop := fnExactBranchOfNewtonUptoRow.holds Try.pinned (OpenSpec.upto fnExactBranchOfNewtonSpec)

end Rows
end Go.Proofs.Ytpclplagkjimmaa
