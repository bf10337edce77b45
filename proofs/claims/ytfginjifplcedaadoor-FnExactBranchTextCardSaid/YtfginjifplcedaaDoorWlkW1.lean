/-
  WALKS, TEXTS: the digits that a text begins with; numbers; a text cut at a byte.
-/
import Derived.Test.YtfginjifplcedaaDoorKitW
import Derived.Deep.QuietTactic
import Derived.BigQuiet
namespace Go.Proofs.YtfginjifplcedaaDoor
open Go.RowKit
set_option linter.unusedVariables false
namespace WW
open K Pl
/-- A pure function's world: only draws. -/
def Pu (v : Value) (w : World) (e : Ending) (w' : World) : Prop := e = .returned v ∧ ∃ n, w.drewN n = w'
theorem Pu.below {v : Value} {w w' : World} {e : Ending} (h : Pu v w e w') : e = .returned v ∧ Below w.heap.size w w' := by
  obtain ⟨h1, n, rfl⟩ := h
  exact ⟨h1, below_drewN (Below.refl _ _) n⟩
theorem Pu.zero {v v' : Value} {w : World} (h : v' = v) : Pu v w (.returned v') w := ⟨by rw [h], 0, rfl⟩
theorem isD_le {c : UInt8} (h : isD c = true) : decide ((48 : Int) ≤ (c.toNat : Int)) = true ∧ decide ((c.toNat : Int) ≤ 57) = true := by
  have := isD_true.1 h
  exact ⟨decide_eq_true (by omega), decide_eq_true (by omega)⟩
def strSz : Value → Nat
  | .string r => r.size
  | _ => 0
theorem strSz_mk (r : ByteArray) : strSz (.string r) = r.size := rfl
def LiS (ss : List (List UInt8)) (w : World) (e : Ending) (w' : World) : Prop := ∃ v, e = .returned v ∧ OwS w' w.heap.size w'.heap.size v ss ∧ Below w.heap.size w w'
end WW
end Go.Proofs.YtfginjifplcedaaDoor
