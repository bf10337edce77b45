/-
  WALKS, CHAPTER 1: the text of a fraction.
-/
import Derived.Test.YtdfhkkngbpidaaaDoorKitD
import Derived.Test.YtdfhkkngbpidaaaDoorWlkW2
import Derived.Test.YtdfhkkngbpidaaaDoorWlkA5
import Derived.Deep.RegionHeld3
namespace Go.Proofs.YtdfhkkngbpidaaaDoor
open Go.RowKit
set_option linter.unusedVariables false
namespace WX
open K Pl WA WW
theorem S_size_sgn (z : Int) (h0 : -1000000000000000 ≤ z) (h1 : z ≤ 1000000000000000) : (S (sgnI z)).size ≤ 17 := by
  rw [S_size]; exact sgnI_size z h0 h1
theorem S_size_dec (z : Int) (h0 : 0 ≤ z) (h1 : z ≤ 1000000000000000) : (S (decI z)).size ≤ 17 := by
  rw [← sgnI_pos (show ¬ z < 0 by omega)]; exact S_size_sgn z (by omega) h1
/-- A fraction's text and a code. -/
def St (r : List UInt8 × Int) (w : World) (e : Ending) (w' : World) : Prop := e = .returned (.tuple #[.string (S r.1), .int .i64 r.2]) ∧ Below w.heap.size w w'
theorem l01Dec_int (z : Int) (h0 : 0 ≤ z) (h1 : z ≤ 1000000000000000) (w : World) : Calls Tryd.prog 45 #[.int .i64 z] w fun e w' => e = .returned (.string (S (decI z))) ∧ Below w.heap.size w w' := by
  obtain ⟨n, rfl⟩ := Int.eq_ofNat_of_zero_le h0
  rw [decI_nat]
  exact l01Dec_any n w (by omega)
theorem l01Signed_any (z : Int) (h0 : -1000000000000000 ≤ z) (h1 : z ≤ 1000000000000000) (w : World) : Calls Tryd.prog 46 #[.int .i64 z] w fun e w' => e = .returned (.string (S (sgnI z))) ∧ Below w.heap.size w w' := by
  by_cases hz : z < 0
  · have Hr := Lib.hid (sgnI_neg hz)
    have hs := S_size_dec (-z) (by omega) (by omega)
    have hz2 : 0 ≤ -z ∧ -z ≤ 1000000000000000 := by omega
    go_enter Tryd.func46, Tryd.ntmps46
    go_wp2_with fail
    refine (l01Dec_int (-z) hz2.1 hz2.2 _).mono ?_
    rintro e w' ⟨rfl, hb⟩
    go_wp2_with fail
    go_ret
    exact ⟨ret_s (by rw [Hr.out]; exact S_append [45] _), hb⟩
  · have Hr := Lib.hid (sgnI_pos hz)
    have hz0 : 0 ≤ z := by omega
    go_enter Tryd.func46, Tryd.ntmps46
    go_wp2_with fail
    refine (l01Dec_int z hz0 h1 _).mono ?_
    rintro e w' ⟨rfl, hb⟩
    go_wp2_with fail
    go_ret
    exact ⟨ret_s (by rw [Hr.out]), hb⟩
theorem isFr_bds {a b : Int} (h : isFr a b = true) : (-1000000000000000 ≤ a ∧ a ≤ 1000000000000000) ∧ (0 ≤ b ∧ b ≤ 1000000000000000) := by
  have := isFr_bd h; omega
end WX
end Go.Proofs.YtdfhkkngbpidaaaDoor
