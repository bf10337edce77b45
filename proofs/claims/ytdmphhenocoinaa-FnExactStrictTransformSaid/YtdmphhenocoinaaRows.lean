/-
  No cell of these rows narrows 'for every input' (looked for: loops, veiled, ifaces, maps, wideKeys, modest, calm, conditions, laid).
  DERIVED. THE GIVEN ROWS OF THIS SEAT. 10 by the template 'for every input the law returns true; each argument reads behind the call as it read before'; 0 by the template 'total and deterministic' (their statements: YtdmphhenocoinaaTotals.lean).
  GIVEN WITH THE SEED: the statements are not yours to turn. If you find one false, say at which input.
  Laid BY PROGRAM, IN A SANDBOX (cutbox-rows.mjs): the forced cells as the released guide's own fill.sh prints them over the translation 822c897f4062c674… (all of the seat's roots in one cut). By AI agents, Wed Nov 11 2026. No macro, syntax, notation, axiom, sorry.
-/
import Derived.Test.YtdmphhenocoinaaChecked
import GoSem.Claim
import GoSem.ClaimJoined
import GoSem.ClaimMapViews
import Derived.JoinedTies
import Derived.KernelRfl
namespace Go.Proofs.Ytdmphhenocoinaa
/- THE CELL 'sum', in the pinned program and in every row, IS THE sha256 OF THE DUMP (.gsa) THAT YtdmphhenocoinaaProg.lean LOADS. Nothing in Lean hashes anything: it is a label: what it is worth is what the hold of that sum in a sandbox is worth. -/
noncomputable def Try.pinned : Pinned := { name := "ytdmphhenocoinaa", sum := "822c897f4062c674cbf333584ed12b13f938298646194239340bb3b3ecfaca05", checked := Try.checked }
namespace Rows
def none {H : Type} : Left H := { results := [], args := [] }

/-- 'laws.FnExactCountBranchPoints': WHATEVER THE INPUT: true; the input reads as it did. -/
def fnExactCountBranchPointsSpec : ChangeSpec := { name := "fnExactCountBranchPoints", fn := fun _ => fun
  | [d] => { results := [.lit (.bool true)], args := [d] }
  | _ => none }
def fnExactCountBranchPointsRow : OpenClaim := { program := "ytdmphhenocoinaa", sum := "822c897f4062c674cbf333584ed12b13f938298646194239340bb3b3ecfaca05", func := "loop.example/g01140/laws.FnExactCountBranchPoints", spec := "fnExactCountBranchPoints", apart := false }
def FnExactCountBranchPointsSaid : Prop := fnExactCountBranchPointsRow.holds Try.pinned (OpenSpec.ofChange fnExactCountBranchPointsSpec)

/-- ITS FALSE NEIGHBOUR: 'it returns false'. Refute it at one input. -/
def fnExactCountBranchPointsWrong : ChangeSpec := { name := "fnExactCountBranchPoints", fn := fun _ => fun
  | [d] => { results := [.lit (.bool false)], args := [d] }
  | _ => none }
def FnExactCountBranchPointsWrongFalsely : Prop := fnExactCountBranchPointsRow.holds Try.pinned (OpenSpec.ofChange fnExactCountBranchPointsWrong)

/-- 'laws.FnExactCountBlowUps': WHATEVER THE INPUT: true; the input reads as it did. -/
def fnExactCountBlowUpsSpec : ChangeSpec := { name := "fnExactCountBlowUps", fn := fun _ => fun
  | [d] => { results := [.lit (.bool true)], args := [d] }
  | _ => none }
def fnExactCountBlowUpsRow : OpenClaim := { program := "ytdmphhenocoinaa", sum := "822c897f4062c674cbf333584ed12b13f938298646194239340bb3b3ecfaca05", func := "loop.example/g01140/laws.FnExactCountBlowUps", spec := "fnExactCountBlowUps", apart := false }
def FnExactCountBlowUpsSaid : Prop := fnExactCountBlowUpsRow.holds Try.pinned (OpenSpec.ofChange fnExactCountBlowUpsSpec)

/-- ITS FALSE NEIGHBOUR: 'it returns false'. Refute it at one input. -/
def fnExactCountBlowUpsWrong : ChangeSpec := { name := "fnExactCountBlowUps", fn := fun _ => fun
  | [d] => { results := [.lit (.bool false)], args := [d] }
  | _ => none }
def FnExactCountBlowUpsWrongFalsely : Prop := fnExactCountBlowUpsRow.holds Try.pinned (OpenSpec.ofChange fnExactCountBlowUpsWrong)

/-- 'laws.FnExactDeltaInvariant': WHATEVER THE INPUT: true; the input reads as it did. -/
def fnExactDeltaInvariantSpec : ChangeSpec := { name := "fnExactDeltaInvariant", fn := fun _ => fun
  | [d] => { results := [.lit (.bool true)], args := [d] }
  | _ => none }
def fnExactDeltaInvariantRow : OpenClaim := { program := "ytdmphhenocoinaa", sum := "822c897f4062c674cbf333584ed12b13f938298646194239340bb3b3ecfaca05", func := "loop.example/g01140/laws.FnExactDeltaInvariant", spec := "fnExactDeltaInvariant", apart := false }
def FnExactDeltaInvariantSaid : Prop := fnExactDeltaInvariantRow.holds Try.pinned (OpenSpec.ofChange fnExactDeltaInvariantSpec)

/-- ITS FALSE NEIGHBOUR: 'it returns false'. Refute it at one input. -/
def fnExactDeltaInvariantWrong : ChangeSpec := { name := "fnExactDeltaInvariant", fn := fun _ => fun
  | [d] => { results := [.lit (.bool false)], args := [d] }
  | _ => none }
def FnExactDeltaInvariantWrongFalsely : Prop := fnExactDeltaInvariantRow.holds Try.pinned (OpenSpec.ofChange fnExactDeltaInvariantWrong)

/-- 'laws.FnExactMilnorOfBranch': WHATEVER THE INPUT: true; the input reads as it did. -/
def fnExactMilnorOfBranchSpec : ChangeSpec := { name := "fnExactMilnorOfBranch", fn := fun _ => fun
  | [d] => { results := [.lit (.bool true)], args := [d] }
  | _ => none }
def fnExactMilnorOfBranchRow : OpenClaim := { program := "ytdmphhenocoinaa", sum := "822c897f4062c674cbf333584ed12b13f938298646194239340bb3b3ecfaca05", func := "loop.example/g01140/laws.FnExactMilnorOfBranch", spec := "fnExactMilnorOfBranch", apart := false }
def FnExactMilnorOfBranchSaid : Prop := fnExactMilnorOfBranchRow.holds Try.pinned (OpenSpec.ofChange fnExactMilnorOfBranchSpec)

/-- ITS FALSE NEIGHBOUR: 'it returns false'. Refute it at one input. -/
def fnExactMilnorOfBranchWrong : ChangeSpec := { name := "fnExactMilnorOfBranch", fn := fun _ => fun
  | [d] => { results := [.lit (.bool false)], args := [d] }
  | _ => none }
def FnExactMilnorOfBranchWrongFalsely : Prop := fnExactMilnorOfBranchRow.holds Try.pinned (OpenSpec.ofChange fnExactMilnorOfBranchWrong)

/-- 'laws.FnExactIsSequence': WHATEVER THE INPUT: true; the input reads as it did. -/
def fnExactIsSequenceSpec : ChangeSpec := { name := "fnExactIsSequence", fn := fun _ => fun
  | [d] => { results := [.lit (.bool true)], args := [d] }
  | _ => none }
def fnExactIsSequenceRow : OpenClaim := { program := "ytdmphhenocoinaa", sum := "822c897f4062c674cbf333584ed12b13f938298646194239340bb3b3ecfaca05", func := "loop.example/g01140/laws.FnExactIsSequence", spec := "fnExactIsSequence", apart := false }
def FnExactIsSequenceSaid : Prop := fnExactIsSequenceRow.holds Try.pinned (OpenSpec.ofChange fnExactIsSequenceSpec)

/-- ITS FALSE NEIGHBOUR: 'it returns false'. Refute it at one input. -/
def fnExactIsSequenceWrong : ChangeSpec := { name := "fnExactIsSequence", fn := fun _ => fun
  | [d] => { results := [.lit (.bool false)], args := [d] }
  | _ => none }
def FnExactIsSequenceWrongFalsely : Prop := fnExactIsSequenceRow.holds Try.pinned (OpenSpec.ofChange fnExactIsSequenceWrong)

/-- 'laws.FnExactLongSequence': WHATEVER THE INPUT: true; the input reads as it did. -/
def fnExactLongSequenceSpec : ChangeSpec := { name := "fnExactLongSequence", fn := fun _ => fun
  | [d1, d2] => { results := [.lit (.bool true)], args := [d1, d2] }
  | _ => none }
def fnExactLongSequenceRow : OpenClaim := { program := "ytdmphhenocoinaa", sum := "822c897f4062c674cbf333584ed12b13f938298646194239340bb3b3ecfaca05", func := "loop.example/g01140/laws.FnExactLongSequence", spec := "fnExactLongSequence", apart := false }
def FnExactLongSequenceSaid : Prop := fnExactLongSequenceRow.holds Try.pinned (OpenSpec.ofChange fnExactLongSequenceSpec)

/-- ITS FALSE NEIGHBOUR: 'it returns false'. Refute it at one input. -/
def fnExactLongSequenceWrong : ChangeSpec := { name := "fnExactLongSequence", fn := fun _ => fun
  | [d1, d2] => { results := [.lit (.bool false)], args := [d1, d2] }
  | _ => none }
def FnExactLongSequenceWrongFalsely : Prop := fnExactLongSequenceRow.holds Try.pinned (OpenSpec.ofChange fnExactLongSequenceWrong)

/-- 'laws.FnExactSequenceOf': WHATEVER THE INPUT: true; the input reads as it did. -/
def fnExactSequenceOfSpec : ChangeSpec := { name := "fnExactSequenceOf", fn := fun _ => fun
  | [d] => { results := [.lit (.bool true)], args := [d] }
  | _ => none }
def fnExactSequenceOfRow : OpenClaim := { program := "ytdmphhenocoinaa", sum := "822c897f4062c674cbf333584ed12b13f938298646194239340bb3b3ecfaca05", func := "loop.example/g01140/laws.FnExactSequenceOf", spec := "fnExactSequenceOf", apart := false }
def FnExactSequenceOfSaid : Prop := fnExactSequenceOfRow.holds Try.pinned (OpenSpec.ofChange fnExactSequenceOfSpec)

/-- ITS FALSE NEIGHBOUR: 'it returns false'. Refute it at one input. -/
def fnExactSequenceOfWrong : ChangeSpec := { name := "fnExactSequenceOf", fn := fun _ => fun
  | [d] => { results := [.lit (.bool false)], args := [d] }
  | _ => none }
def FnExactSequenceOfWrongFalsely : Prop := fnExactSequenceOfRow.holds Try.pinned (OpenSpec.ofChange fnExactSequenceOfWrong)

/-- 'laws.FnExactBranchOfSequence': WHATEVER THE INPUT: true; the input reads as it did. -/
def fnExactBranchOfSequenceSpec : ChangeSpec := { name := "fnExactBranchOfSequence", fn := fun _ => fun
  | [d] => { results := [.lit (.bool true)], args := [d] }
  | _ => none }
def fnExactBranchOfSequenceRow : OpenClaim := { program := "ytdmphhenocoinaa", sum := "822c897f4062c674cbf333584ed12b13f938298646194239340bb3b3ecfaca05", func := "loop.example/g01140/laws.FnExactBranchOfSequence", spec := "fnExactBranchOfSequence", apart := false }
def FnExactBranchOfSequenceSaid : Prop := fnExactBranchOfSequenceRow.holds Try.pinned (OpenSpec.ofChange fnExactBranchOfSequenceSpec)

/-- ITS FALSE NEIGHBOUR: 'it returns false'. Refute it at one input. -/
def fnExactBranchOfSequenceWrong : ChangeSpec := { name := "fnExactBranchOfSequence", fn := fun _ => fun
  | [d] => { results := [.lit (.bool false)], args := [d] }
  | _ => none }
def FnExactBranchOfSequenceWrongFalsely : Prop := fnExactBranchOfSequenceRow.holds Try.pinned (OpenSpec.ofChange fnExactBranchOfSequenceWrong)

/-- 'laws.FnExactBlocksOf': WHATEVER THE INPUT: true; the input reads as it did. -/
def fnExactBlocksOfSpec : ChangeSpec := { name := "fnExactBlocksOf", fn := fun _ => fun
  | [d] => { results := [.lit (.bool true)], args := [d] }
  | _ => none }
def fnExactBlocksOfRow : OpenClaim := { program := "ytdmphhenocoinaa", sum := "822c897f4062c674cbf333584ed12b13f938298646194239340bb3b3ecfaca05", func := "loop.example/g01140/laws.FnExactBlocksOf", spec := "fnExactBlocksOf", apart := false }
def FnExactBlocksOfSaid : Prop := fnExactBlocksOfRow.holds Try.pinned (OpenSpec.ofChange fnExactBlocksOfSpec)

/-- ITS FALSE NEIGHBOUR: 'it returns false'. Refute it at one input. -/
def fnExactBlocksOfWrong : ChangeSpec := { name := "fnExactBlocksOf", fn := fun _ => fun
  | [d] => { results := [.lit (.bool false)], args := [d] }
  | _ => none }
def FnExactBlocksOfWrongFalsely : Prop := fnExactBlocksOfRow.holds Try.pinned (OpenSpec.ofChange fnExactBlocksOfWrong)

/-- 'laws.FnExactStrictTransform': WHATEVER THE INPUT: true; the input reads as it did. -/
def fnExactStrictTransformSpec : ChangeSpec := { name := "fnExactStrictTransform", fn := fun _ => fun
  | [d] => { results := [.lit (.bool true)], args := [d] }
  | _ => none }
def fnExactStrictTransformRow : OpenClaim := { program := "ytdmphhenocoinaa", sum := "822c897f4062c674cbf333584ed12b13f938298646194239340bb3b3ecfaca05", func := "loop.example/g01140/laws.FnExactStrictTransform", spec := "fnExactStrictTransform", apart := false }
def FnExactStrictTransformSaid : Prop := fnExactStrictTransformRow.holds Try.pinned (OpenSpec.ofChange fnExactStrictTransformSpec)

/-- ITS FALSE NEIGHBOUR: 'it returns false'. Refute it at one input. -/
def fnExactStrictTransformWrong : ChangeSpec := { name := "fnExactStrictTransform", fn := fun _ => fun
  | [d] => { results := [.lit (.bool false)], args := [d] }
  | _ => none }
def FnExactStrictTransformWrongFalsely : Prop := fnExactStrictTransformRow.holds Try.pinned (OpenSpec.ofChange fnExactStrictTransformWrong)

/- THE SECOND FORM. 'bulk': how many values and letters a reading holds, each counted each time it is reached (what is shared counts as often as it is met; a slice's spare places count too). A statement '..UptoSaid' is the law's where the arguments, and the package variables that the reading takes, are together of bulk at most 1048576: NARROWER than '..Said'. Prove '..Said' where nothing that the law and all that it calls make is longer than what came in: it says more and counts as full. Else prove '..UptoSaid'. A law counts once. -/
mutual
def uptoBulk {H : Type} : DataW H → Nat
  | .lit (.string bytes) => bytes.length + 1
  | .lit _ => 1
  | .nil => 1
  | .ptr d => uptoBulk d + 1
  | .slice elems spare => uptoBulkAll elems + uptoBulkAll spare + 1
  | .agg parts => uptoBulkAll parts + 1
  | .iface _ d => uptoBulk d + 1
  | .map entries => uptoBulkEntries entries + 1
  | .held _ => 1
def uptoBulkAll {H : Type} : List (DataW H) → Nat
  | [] => 0
  | d :: r => uptoBulk d + uptoBulkAll r
def uptoBulkEntries {H : Type} : List (Lit × DataW H) → Nat
  | [] => 0
  | x :: r => uptoBulkEntry x + uptoBulkEntries r
def uptoBulkEntry {H : Type} : Lit × DataW H → Nat
  | (.string bytes, d) => bytes.length + uptoBulk d + 1
  | (_, d) => uptoBulk d + 1
 end
def uptoSmall : (H : Type) → List (DataW H) → Bool := fun _ ds => decide (uptoBulkAll ds ≤ 1048576)
def OpenSpec.upto (s : _root_.Go.ChangeSpec) : _root_.Go.OpenSpec := { _root_.Go.OpenSpec.ofChange s with cond := some uptoSmall }

/-- 'laws.FnExactCountBranchPoints', WHERE WHAT IT READS IS OF BULK AT MOST 1048576: true; the input reads as it did. -/
def fnExactCountBranchPointsUptoRow : OpenClaim := { program := "ytdmphhenocoinaa", sum := "822c897f4062c674cbf333584ed12b13f938298646194239340bb3b3ecfaca05", func := "loop.example/g01140/laws.FnExactCountBranchPoints", spec := "fnExactCountBranchPoints", apart := false, narrowed := true }
def FnExactCountBranchPointsUptoSaid : Prop := fnExactCountBranchPointsUptoRow.holds Try.pinned (OpenSpec.upto fnExactCountBranchPointsSpec)

/-- 'laws.FnExactCountBlowUps', WHERE WHAT IT READS IS OF BULK AT MOST 1048576: true; the input reads as it did. -/
def fnExactCountBlowUpsUptoRow : OpenClaim := { program := "ytdmphhenocoinaa", sum := "822c897f4062c674cbf333584ed12b13f938298646194239340bb3b3ecfaca05", func := "loop.example/g01140/laws.FnExactCountBlowUps", spec := "fnExactCountBlowUps", apart := false, narrowed := true }
def FnExactCountBlowUpsUptoSaid : Prop := fnExactCountBlowUpsUptoRow.holds Try.pinned (OpenSpec.upto fnExactCountBlowUpsSpec)

/-- 'laws.FnExactDeltaInvariant', WHERE WHAT IT READS IS OF BULK AT MOST 1048576: true; the input reads as it did. -/
def fnExactDeltaInvariantUptoRow : OpenClaim := { program := "ytdmphhenocoinaa", sum := "822c897f4062c674cbf333584ed12b13f938298646194239340bb3b3ecfaca05", func := "loop.example/g01140/laws.FnExactDeltaInvariant", spec := "fnExactDeltaInvariant", apart := false, narrowed := true }
def FnExactDeltaInvariantUptoSaid : Prop := fnExactDeltaInvariantUptoRow.holds Try.pinned (OpenSpec.upto fnExactDeltaInvariantSpec)

/-- 'laws.FnExactMilnorOfBranch', WHERE WHAT IT READS IS OF BULK AT MOST 1048576: true; the input reads as it did. -/
def fnExactMilnorOfBranchUptoRow : OpenClaim := { program := "ytdmphhenocoinaa", sum := "822c897f4062c674cbf333584ed12b13f938298646194239340bb3b3ecfaca05", func := "loop.example/g01140/laws.FnExactMilnorOfBranch", spec := "fnExactMilnorOfBranch", apart := false, narrowed := true }
def FnExactMilnorOfBranchUptoSaid : Prop := fnExactMilnorOfBranchUptoRow.holds Try.pinned (OpenSpec.upto fnExactMilnorOfBranchSpec)

/-- 'laws.FnExactIsSequence', WHERE WHAT IT READS IS OF BULK AT MOST 1048576: true; the input reads as it did. -/
def fnExactIsSequenceUptoRow : OpenClaim := { program := "ytdmphhenocoinaa", sum := "822c897f4062c674cbf333584ed12b13f938298646194239340bb3b3ecfaca05", func := "loop.example/g01140/laws.FnExactIsSequence", spec := "fnExactIsSequence", apart := false, narrowed := true }
def FnExactIsSequenceUptoSaid : Prop := fnExactIsSequenceUptoRow.holds Try.pinned (OpenSpec.upto fnExactIsSequenceSpec)

/-- 'laws.FnExactLongSequence', WHERE WHAT IT READS IS OF BULK AT MOST 1048576: true; the input reads as it did. -/
def fnExactLongSequenceUptoRow : OpenClaim := { program := "ytdmphhenocoinaa", sum := "822c897f4062c674cbf333584ed12b13f938298646194239340bb3b3ecfaca05", func := "loop.example/g01140/laws.FnExactLongSequence", spec := "fnExactLongSequence", apart := false, narrowed := true }
def FnExactLongSequenceUptoSaid : Prop := fnExactLongSequenceUptoRow.holds Try.pinned (OpenSpec.upto fnExactLongSequenceSpec)

/-- 'laws.FnExactSequenceOf', WHERE WHAT IT READS IS OF BULK AT MOST 1048576: true; the input reads as it did. -/
def fnExactSequenceOfUptoRow : OpenClaim := { program := "ytdmphhenocoinaa", sum := "822c897f4062c674cbf333584ed12b13f938298646194239340bb3b3ecfaca05", func := "loop.example/g01140/laws.FnExactSequenceOf", spec := "fnExactSequenceOf", apart := false, narrowed := true }
def FnExactSequenceOfUptoSaid : Prop := fnExactSequenceOfUptoRow.holds Try.pinned (OpenSpec.upto fnExactSequenceOfSpec)

/-- 'laws.FnExactBranchOfSequence', WHERE WHAT IT READS IS OF BULK AT MOST 1048576: true; the input reads as it did. -/
def fnExactBranchOfSequenceUptoRow : OpenClaim := { program := "ytdmphhenocoinaa", sum := "822c897f4062c674cbf333584ed12b13f938298646194239340bb3b3ecfaca05", func := "loop.example/g01140/laws.FnExactBranchOfSequence", spec := "fnExactBranchOfSequence", apart := false, narrowed := true }
def FnExactBranchOfSequenceUptoSaid : Prop := fnExactBranchOfSequenceUptoRow.holds Try.pinned (OpenSpec.upto fnExactBranchOfSequenceSpec)

/-- 'laws.FnExactBlocksOf', WHERE WHAT IT READS IS OF BULK AT MOST 1048576: true; the input reads as it did. -/
def fnExactBlocksOfUptoRow : OpenClaim := { program := "ytdmphhenocoinaa", sum := "822c897f4062c674cbf333584ed12b13f938298646194239340bb3b3ecfaca05", func := "loop.example/g01140/laws.FnExactBlocksOf", spec := "fnExactBlocksOf", apart := false, narrowed := true }
def FnExactBlocksOfUptoSaid : Prop := fnExactBlocksOfUptoRow.holds Try.pinned (OpenSpec.upto fnExactBlocksOfSpec)

/-- 'laws.FnExactStrictTransform', WHERE WHAT IT READS IS OF BULK AT MOST 1048576: true; the input reads as it did. -/
def fnExactStrictTransformUptoRow : OpenClaim := { program := "ytdmphhenocoinaa", sum := "822c897f4062c674cbf333584ed12b13f938298646194239340bb3b3ecfaca05", func := "loop.example/g01140/laws.FnExactStrictTransform", spec := "fnExactStrictTransform", apart := false, narrowed := true }
def FnExactStrictTransformUptoSaid : Prop := fnExactStrictTransformUptoRow.holds Try.pinned (OpenSpec.upto fnExactStrictTransformSpec)

end Rows
end Go.Proofs.Ytdmphhenocoinaa
