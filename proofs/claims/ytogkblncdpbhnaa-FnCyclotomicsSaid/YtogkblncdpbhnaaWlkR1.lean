/-
  WALKS, CHAPTER 1: the steps of Euclid's algorithm.
-/
import Derived.Test.YtogkblncdpbhnaaKitR
import Derived.Test.YtogkblncdpbhnaaWlkA1
namespace Go.Proofs.Ytogkblncdpbhnaa
open Go.RowKit
set_option linter.unusedVariables false
namespace WA
open K Pl
theorem ow_lit2 (w : World) (a b : Int) (o : Obj) : Ow ((w.alloc (.cells #[.int .i64 a, .int .i64 b] 2)).alloc o) w.heap.size ((w.alloc (.cells #[.int .i64 a, .int .i64 b] 2)).alloc o).heap.size (.slice (some ⟨w.heap.size, 0, none⟩) 2 2) [a, b] := by
  have h : (w.alloc (.cells #[.int .i64 a, .int .i64 b] 2)).ownsRow w.heap.size 2 1 (.slice (some ⟨w.heap.size, 0, none⟩) 2 2) 2 [.int .i64 a, .int .i64 b] := World.ownsRow_lit w #[.int .i64 a, .int .i64 b] 2 (Nat.le_refl _) (by decide) rfl
  exact ⟨h.alloc o, fun k hk => by simp [Value.ownBlock] at hk; simp; omega⟩
theorem steps_cast (x y : Nat) (h : 0 < y) : steps x y = [(x : Int) / (y : Int), (y : Int)] :: steps y (x % y) := by
  rw [steps_pos x y h, Int.natCast_ediv]
theorem Chg.drewN {w : World} (n : Nat) : Chg 0 0 w (w.drewN n) := ⟨rfl, rfl, rfl, Nat.le_refl _, fun _ _ _ => rfl⟩
end WA
end Go.Proofs.Ytogkblncdpbhnaa
