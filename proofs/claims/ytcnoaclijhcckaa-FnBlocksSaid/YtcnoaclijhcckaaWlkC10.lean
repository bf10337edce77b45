/-
  WALKS, CHAPTER 3: pairs, one list of them after another.
-/
import Derived.Test.YtcnoaclijhcckaaWlkC9
namespace Go.Proofs.Ytcnoaclijhcckaa
open Go.RowKit
set_option linter.unusedVariables false
namespace WC
open K Pl WA WL
theorem two_row {w w1 w2 : World} {lo g cap n : Nat} {v : Value} {us : List Value} {xss : List (List Int)} {a b : Int} (h : OwU w lo w.heap.size v us xss) (hn : xss.length = n) (hlo : lo ≤ w.heap.size) (hg : w1.grownBy w2 v.ownBlock)
    (hW : w1.heap = ((w.alloc (.cells #[.int .i64 a, .int .i64 b] 2)).alloc (.cells #[.slice (some ⟨w.heap.size, 0, none⟩) 2 2] 24)).heap ∧ w1.os = w.os ∧ w1.tape = w.tape ∧ w1.output = w.output)
    (ho : w2.ownsRow lo 24 1 (.slice (some ⟨g, 0, none⟩) (n + 1) cap) (n + 1) (us ++ [.slice (some ⟨w.heap.size, 0, none⟩) 2 2])) (hat : v.ownBlock = some g ∨ g = w1.heap.size) :
    OwU w2 lo w2.heap.size (.slice (some ⟨g, 0, none⟩) (n + 1) cap) (us ++ [.slice (some ⟨w.heap.size, 0, none⟩) 2 2]) (xss ++ [[a, b]]) ∧ (∀ B w0, Below B w0 w → B ≤ lo → Below B w0 w2) := by
  subst hn
  exact OwU.two h (Nat.le_refl _) hlo hW ho hg hat
end WC
end Go.Proofs.Ytcnoaclijhcckaa
