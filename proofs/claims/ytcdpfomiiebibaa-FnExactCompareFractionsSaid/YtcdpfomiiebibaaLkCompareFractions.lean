/-
  The program's CompareFractions returns what the reference's returns, for all arguments.
  THE WALK THROUGH 'laws.FnExactCompareFractions', out of the contracts of what it calls.
-/
import Derived.Test.YtcdpfomiiebibaaWlkA7
import Derived.Test.YtcdpfomiiebibaaWlkL2
import Derived.Deep.RegionHeld3
namespace Go.Proofs.Ytcdpfomiiebibaa.fnExactCompareFractions
open Go.RowKit
set_option linter.unusedVariables false
open Pl K WA WL
set_option maxHeartbeats 3200000 in
theorem walk (w : World) (a0 b0 : Int) (wa0 : (Lit.int .i64 a0).wf = true) (wb0 : (Lit.int .i64 b0).wf = true) (a1 b1 : Int) (wa1 : (Lit.int .i64 a1).wf = true) (wb1 : (Lit.int .i64 b1).wf = true) :
    Calls Try.prog 9 #[.agg #[.int .i64 a0, .int .i64 b0], .agg #[.int .i64 a1, .int .i64 b1]] w fun e w' => e = .returned (.bool true) ∧ Below w.heap.size w w' := by
  clear wa0 wb0 wa1 wb1
  have hW0 : Below w.heap.size w (((w.alloc (.cells #[.int .i64 a0, .int .i64 b0] 39)).alloc (.cells #[.int .i64 a1, .int .i64 b1] 39)).drew) := (((Below.refl _ _).alloc (Nat.le_refl _) _).alloc (by simp) _).drew
  go_enter Try.func9, Try.ntmps9
  go_wp2_with fail
  go_region_held3 (fun W => w.heap.size + 2 ≤ W.heap.size ∧ w.heap.size + 2 ≤ W.heap.size ∧ Below w.heap.size w W ∧ W.cell? ⟨w.heap.size, 0, none⟩ = some (.int .i64 a0) ∧ W.cell? ⟨w.heap.size, 1, none⟩ = some (.int .i64 b0) ∧ W.cell? ⟨w.heap.size + 1, 0, none⟩ = some (.int .i64 a1) ∧ W.cell? ⟨w.heap.size + 1, 1, none⟩ = some (.int .i64 b1))
    (first | go_keep)
    (first | (go_at_call 32; obtain ⟨sa, sb, sc, s0, s1, s2, s3⟩ := ‹w.heap.size + 2 ≤ _ ∧ w.heap.size + 2 ≤ _ ∧ _›; refine (toFraction_any _ _ _).mono ?_; rintro e w1 ⟨rfl, hb1⟩; have qa : w.heap.size + 2 ≤ w1.heap.size := Nat.le_trans sa hb1.size; have qb : w.heap.size + 2 ≤ w1.heap.size := Nat.le_trans sb hb1.size; have qc : Below w.heap.size w w1 := sc.trans (hb1.mono (Nat.le_trans (Nat.le_add_right _ 2) sa)); have q0 := (hb1.cell (p := ⟨w.heap.size, 0, none⟩) (by show w.heap.size < _; omega)).trans s0; have q1 := (hb1.cell (p := ⟨w.heap.size, 1, none⟩) (by show w.heap.size < _; omega)).trans s1; have q2 := (hb1.cell (p := ⟨w.heap.size + 1, 0, none⟩) (by show w.heap.size + 1 < _; omega)).trans s2; have q3 := (hb1.cell (p := ⟨w.heap.size + 1, 1, none⟩) (by show w.heap.size + 1 < _; omega)).trans s3) | (go_at_call 31; obtain ⟨sa, sb, sc, s0, s1, s2, s3⟩ := ‹w.heap.size + 2 ≤ _ ∧ w.heap.size + 2 ≤ _ ∧ _›; refine (sCompareFractions_any _ _ _ _ _).mono ?_; rintro e W1 ⟨rfl, hb3⟩; have ra : w.heap.size + 2 ≤ W1.heap.size := Nat.le_trans sa hb3.size; have rb : w.heap.size + 2 ≤ W1.heap.size := Nat.le_trans sb hb3.size; have rc : Below w.heap.size w W1 := sc.trans (hb3.mono (Nat.le_trans (Nat.le_add_right _ 2) sa)); have r0 := (hb3.cell (p := ⟨w.heap.size, 0, none⟩) (by show w.heap.size < _; omega)).trans s0; have r1 := (hb3.cell (p := ⟨w.heap.size, 1, none⟩) (by show w.heap.size < _; omega)).trans s1; have r2 := (hb3.cell (p := ⟨w.heap.size + 1, 0, none⟩) (by show w.heap.size + 1 < _; omega)).trans s2; have r3 := (hb3.cell (p := ⟨w.heap.size + 1, 1, none⟩) (by show w.heap.size + 1 < _; omega)).trans s3; have rd : w.heap.size + 2 ≤ W1.heap.size + 1 := Nat.le_trans ra (Nat.le_succ _); have re : w.heap.size + 2 ≤ W1.heap.size + 1 := Nat.le_trans rb (Nat.le_succ _); have rf := fun o => rc.alloc rc.size o))
  have rs := rc.size
  have rw := rc.drew
  go_wp2_with fail
  go_region_held3 (fun W => w.heap.size + 2 ≤ W.heap.size ∧ w.heap.size + 2 ≤ W.heap.size ∧ Below w.heap.size w W ∧ W.cell? ⟨w.heap.size, 0, none⟩ = some (.int .i64 a0) ∧ W.cell? ⟨w.heap.size, 1, none⟩ = some (.int .i64 b0) ∧ W.cell? ⟨w.heap.size + 1, 0, none⟩ = some (.int .i64 a1) ∧ W.cell? ⟨w.heap.size + 1, 1, none⟩ = some (.int .i64 b1))
    (first | go_keep)
    (first | (go_at_call 32; obtain ⟨sa, sb, sc, s0, s1, s2, s3⟩ := ‹w.heap.size + 2 ≤ _ ∧ w.heap.size + 2 ≤ _ ∧ _›; refine (toFraction_any _ _ _).mono ?_; rintro e w1 ⟨rfl, hb1⟩; have qa : w.heap.size + 2 ≤ w1.heap.size := Nat.le_trans sa hb1.size; have qb : w.heap.size + 2 ≤ w1.heap.size := Nat.le_trans sb hb1.size; have qc : Below w.heap.size w w1 := sc.trans (hb1.mono (Nat.le_trans (Nat.le_add_right _ 2) sa)); have q0 := (hb1.cell (p := ⟨w.heap.size, 0, none⟩) (by show w.heap.size < _; omega)).trans s0; have q1 := (hb1.cell (p := ⟨w.heap.size, 1, none⟩) (by show w.heap.size < _; omega)).trans s1; have q2 := (hb1.cell (p := ⟨w.heap.size + 1, 0, none⟩) (by show w.heap.size + 1 < _; omega)).trans s2; have q3 := (hb1.cell (p := ⟨w.heap.size + 1, 1, none⟩) (by show w.heap.size + 1 < _; omega)).trans s3) | (go_at_call 33; obtain ⟨sa, sb, sc, s0, s1, s2, s3⟩ := ‹w.heap.size + 2 ≤ _ ∧ w.heap.size + 2 ≤ _ ∧ _›; refine (CompareFractions_any _ _ _ _ _).mono ?_; rintro e W2 ⟨rfl, hb3⟩; have ta : w.heap.size + 2 ≤ W2.heap.size := Nat.le_trans sa hb3.size; have tb : w.heap.size + 2 ≤ W2.heap.size := Nat.le_trans sb hb3.size; have tc : Below w.heap.size w W2 := sc.trans (hb3.mono (Nat.le_trans (Nat.le_add_right _ 2) sa)); have t0 := (hb3.cell (p := ⟨w.heap.size, 0, none⟩) (by show w.heap.size < _; omega)).trans s0; have t1 := (hb3.cell (p := ⟨w.heap.size, 1, none⟩) (by show w.heap.size < _; omega)).trans s1; have t2 := (hb3.cell (p := ⟨w.heap.size + 1, 0, none⟩) (by show w.heap.size + 1 < _; omega)).trans s2; have t3 := (hb3.cell (p := ⟨w.heap.size + 1, 1, none⟩) (by show w.heap.size + 1 < _; omega)).trans s3; have td : w.heap.size + 2 ≤ W2.heap.size + 1 := Nat.le_trans ta (Nat.le_succ _); have te : w.heap.size + 2 ≤ W2.heap.size + 1 := Nat.le_trans tb (Nat.le_succ _); have tf := fun o => tc.alloc tc.size o))
  go_wp2_with fail
  go_ret
  refine ⟨rfl, ?_⟩
  first | exact tc | exact tc.drew | go_grown
end Go.Proofs.Ytcdpfomiiebibaa.fnExactCompareFractions
