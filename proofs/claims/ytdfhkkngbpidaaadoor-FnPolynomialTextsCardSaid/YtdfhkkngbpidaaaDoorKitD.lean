/-
  WORDS FOR TEXTS: the library's table of powers of ten; numbers as text.
-/
import Derived.Test.YtdfhkkngbpidaaaDoorKitW
import Derived.Test.YtdfhkkngbpidaaaDoorPlY
import Derived.Test.YtdfhkkngbpidaaaDoorShelf
import Derived.Lib.AppendIntMem
import Derived.Lib.ItoaLen
namespace Go.Proofs.YtdfhkkngbpidaaaDoor
open Go.RowKit Go.ChangeShapes Go.WideShapes Go.Joins Go.Deep
set_option linter.unusedVariables false
namespace K
open Pl
/-- The library's table stands. No reducible name. -/
def Tab (w : World) : Prop := Lib.TabIs Tryd.prog w Tryd.tabN .u64 Lib.pow10Tab
theorem Tab.later {w w' : World} (h : Tab w) (hb : Below w.heap.size w w') : Tab w' := Lib.tabBelow_of_tabIs h w' hb
theorem Tab.al {w : World} (h : Tab w) (o : Obj) : Tab (w.alloc o) := h.later ((Below.refl _ _).alloc (Nat.le_refl _) o)
theorem Tab.dr {w : World} (h : Tab w) (n : Nat) : Tab (w.drewN n) := h.later (below_drewN (Below.refl _ _) n)
theorem FormatInt_any (z : Int) (h0 : -9223372036854775808 ≤ z) (h1 : z ≤ 9223372036854775807) (w : World) (ht : Tab w) :
    Calls Tryd.prog 51 #[.int .i64 z, .int .i64 10] w fun e w' => e = .returned (.string (S (sgnI z))) ∧ Below w.heap.size w w' :=
  (Tryd.strconv_FormatInt_10 z h0 h1 w ht).mono fun e w' ⟨he, k, os, hw⟩ => ⟨he, by rw [hw]; exact Lib.below_grow _ _ (Nat.le_refl _) k os⟩
theorem decimal_any (z : Int) (h0 : -9223372036854775808 ≤ z) (h1 : z ≤ 9223372036854775807) (w : World) (ht : Tab w) :
    Calls Tryd.prog 44 #[.int .i64 z] w fun e w' => e = .returned (.string (S (sgnI z))) ∧ Below w.heap.size w w' := by
  go_enter Tryd.func44, Tryd.ntmps44
  go_wp2_with fail
  refine (FormatInt_any z h0 h1 _ ht).mono ?_
  rintro e w' ⟨rfl, hb⟩
  go_wp2_with fail
  go_ret
  exact ⟨rfl, hb⟩
end K
end Go.Proofs.YtdfhkkngbpidaaaDoor
