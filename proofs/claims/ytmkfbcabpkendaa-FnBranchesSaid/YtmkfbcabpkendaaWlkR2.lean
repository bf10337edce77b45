/-
  WALKS, CHAPTER 1: the steps of Euclid's algorithm by the reference; continued fractions.
-/
import Derived.Test.YtmkfbcabpkendaaWlkR1
import Derived.Test.YtmkfbcabpkendaaWlkA6
namespace Go.Proofs.Ytmkfbcabpkendaa
open Go.RowKit
set_option linter.unusedVariables false
namespace WA
open K Pl
/-- What a function that returns a list of lists and a code leaves. -/
def LiR (r : List (List Int) × Int) (w : World) (e : Ending) (w' : World) : Prop := ∃ v, e = .returned (.tuple #[v, .int .i64 r.2]) ∧ OwR w' w.heap.size w'.heap.size v r.1 ∧ Below w.heap.size w w'
theorem LiR.nil {w w' : World} {c : Int} {r : List (List Int) × Int} (hr : r = ([], c)) (h : Below w.heap.size w w') : LiR r w (.returned (.tuple #[.slice none 0 0, .int .i64 c])) w' := by
  subst hr
  exact ⟨_, rfl, OwR.nil _ _ _, h⟩
def eucF (a b : Int) : List (List Int) × Int := if isNat a && isNat b then (steps a.toNat b.toNat, 0) else ([], 2)
def cfF (a b : Int) : List Int × Int := if isNat a && isNat b then (cf a.toNat b.toNat, 0) else ([], 2)
theorem cfF_len (a b : Int) : (cfF a b).1.length ≤ 1000000000 := by
  unfold cfF; split
  · rename_i h
    simp only [Bool.and_eq_true] at h
    have hb := isNat_true.1 h.2
    have := steps_len b.toNat a.toNat b.toNat (Nat.le_refl _)
    simp [cf]; omega
  · simp
/-- The first numbers of the first k rows. -/
def fsts (xss : List (List Int)) (k : Nat) : List Int := (List.range k).map fun j => gx (gxx xss j) 0
theorem fsts_snoc (xss : List (List Int)) (k : Nat) : fsts xss (k + 1) = fsts xss k ++ [gx (gxx xss k) 0] := by simp [fsts, List.range_succ]
theorem fsts_len (xss : List (List Int)) (k : Nat) : (fsts xss k).length = k := by simp [fsts]
theorem fsts_all (xss : List (List Int)) (n : Nat) (h : xss.length = n) : fsts xss n = xss.map fun s => s.getD 0 0 := by
  subst h
  apply List.ext_getElem (by simp [fsts])
  intro j h1 h2
  simp [fsts] at h1 ⊢
  rw [gxx_eq xss j h1]; rfl
end WA
end Go.Proofs.Ytmkfbcabpkendaa
