/-
  WALKS, CHAPTER 1: negative continued fractions.
-/
import Derived.Test.YtcnoaclijhcckaaWlkA2
namespace Go.Proofs.Ytcnoaclijhcckaa
open Go.RowKit
set_option linter.unusedVariables false
namespace WA
open K Pl

/-- What a function that returns a list of numbers and a code leaves. -/
def Li2 (r : List Int × Int) (w : World) (e : Ending) (w' : World) : Prop := ∃ v, e = .returned (.tuple #[v, .int .i64 r.2]) ∧ Ow w' w.heap.size w'.heap.size v r.1 ∧ Below w.heap.size w w'
theorem Li2.nil {w w' : World} {c : Int} {r : List Int × Int} (hr : r = ([], c)) (h : Below w.heap.size w w') : Li2 r w (.returned (.tuple #[.slice none 0 0, .int .i64 c])) w' := by
  subst hr
  exact ⟨_, rfl, ⟨World.ownsRow_nil _ _ _ _, fun k hk => by simp [Value.ownBlock] at hk⟩, h⟩

end WA
end Go.Proofs.Ytcnoaclijhcckaa
