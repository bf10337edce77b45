/-
  The program's ParseFraction returns what the reference's returns, for all arguments.
  THE WALK THROUGH 'laws.FnExactParseFraction', out of the contracts of what it calls.
-/
import Derived.Test.YtmileckhhiohfaaDoorWlkX3
import Derived.Test.YtmileckhhiohfaaDoorWlkL2
namespace Go.Proofs.YtmileckhhiohfaaDoor.fnExactParseFraction
open Go.RowKit
set_option linter.unusedVariables false
open Pl K WA WL WW WX
set_option maxHeartbeats 800000 in
theorem walk (w : World) (s0 : ByteArray) (ws0 : s0.size ≤ maxLen) (ht : Tab w) :
    Calls Tryd.prog 4 #[.string s0] w fun e w' => e = .returned (.bool true) ∧ Below w.heap.size w w' := by
  unfold maxLen at ws0
  by_cases hbig0 : 1048576 < s0.size
  · clear ht
    go_enter Tryd.func4, Tryd.ntmps4
    go_wp2_with fail
    go_ret
    exact ⟨rfl, Below.refl _ _⟩
  go_enter Tryd.func4, Tryd.ntmps4
  go_wp2_with fail
  refine (sParseFraction_b s0 _ (by omega)).mono ?_
  rintro e w1 ⟨rfl, hb1⟩
  have ht1 := ht.later hb1
  have hs1 := hb1.size
  clear ht
  generalize hx : (pfF (L s0)).1 = x
  generalize hy : (pfF (L s0)).2.1 = y
  generalize hz : (pfF (L s0)).2.2 = z
  have Hx := Lib.hid hx; have Hy := Lib.hid hy; have Hz := Lib.hid hz
  have HB1 := Lib.hid hb1
  clear hx hy hz hb1
  go_wp2_with fail
  refine (ParseFraction_any s0 _ (ht1.al _) (by omega)).mono ?_
  rintro e w2 ⟨rfl, hb2⟩
  rw [Hx.out, Hy.out, Hz.out]
  have k0 := (hb2.cell (p := ⟨w1.heap.size, 0, none⟩) (by simp)).trans (show (w1.alloc (.cells #[.int .i64 x, .int .i64 y] 26)).cell? ⟨w1.heap.size, 0, none⟩ = some (.int .i64 x) by simp [go_sem])
  have k1 := (hb2.cell (p := ⟨w1.heap.size, 1, none⟩) (by simp)).trans (show (w1.alloc (.cells #[.int .i64 x, .int .i64 y] 26)).cell? ⟨w1.heap.size, 1, none⟩ = some (.int .i64 y) by simp [go_sem])
  have hs2 : w1.heap.size < w2.heap.size := World.block_lt_of_cell? w2 ⟨w1.heap.size, 0, none⟩ k0
  have HB2 := Lib.hid (HB1.out.trans (((Below.refl w1.heap.size w1).alloc (Nat.le_refl _) (.cells #[.int .i64 x, .int .i64 y] 26)).mono hs1) |>.trans (hb2.mono (by simp; omega)))
  clear hb2 ht1
  go_wp2_with fail
  refine (eqFraction_any x y x y _).mono ?_
  rintro e w3 ⟨rfl, hb3⟩
  have HB3 := Lib.hid (((HB2.out.alloc HB2.out.size (.cells #[.int .i64 x, .int .i64 y] 26))).trans (hb3.mono (by have := HB2.out.size; simp; omega)))
  clear hb3 k0 k1
  go_wp2_with fail
  go_ret
  exact ⟨rfl, HB3.out⟩
end Go.Proofs.YtmileckhhiohfaaDoor.fnExactParseFraction
