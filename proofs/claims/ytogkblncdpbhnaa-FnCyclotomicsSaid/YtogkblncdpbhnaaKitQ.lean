/-
  WORDS FOR THE WRAPPING DIVISION: its two rows.
-/
import Derived.Test.YtogkblncdpbhnaaKitS
import Derived.Test.YtogkblncdpbhnaaPlOA
namespace Go.Proofs.Ytogkblncdpbhnaa
open Go.RowKit Go.ChangeShapes Go.WideShapes Go.Joins Go.Deep
set_option linter.unusedVariables false
namespace K
open Pl
theorem own_other2 {w : World} {base base' : Nat} {e : TypeId} {s n m cap : Nat} {v : Value} {xs ys : List Value} {g : Nat} {e' : TypeId} (h : w.ownsRow base e s v n xs) (h' : w.ownsRow base' e' 1 (.slice (some ⟨g, 0, none⟩) m cap) m ys) (hne : v.ownBlock ≠ some g) (j : Nat) (u : Value) :
    (w.setCell ⟨g, j, none⟩ u).ownsRow base e s v n xs := h.kept (h'.stored j u).2 (.inr hne)
theorem own_of_heap2 {w w' : World} {base : Nat} {e : TypeId} {s n : Nat} {v : Value} {xs : List Value} (h : w.ownsRow base e s v n xs) (e1 : w'.heap = w.heap) : w'.ownsRow base e s v n xs := by
  unfold World.ownsRow at h ⊢
  rw [e1]; exact h
theorem made_own2 {w : World} {lo : Nat} (N : Nat) (hlo : lo ≤ w.heap.size) (hN : N ≤ 1000000000) : (w.alloc (.cells (madeCells #[Value.int .i64 0] N) 2)).ownsRow lo 2 1 (.slice (some ⟨w.heap.size, 0, none⟩) N N) N ((List.replicate N (0 : Int)).map (Value.int .i64)) := by
  have e := World.ownsRow_lit (base := lo) (e := 2) (size := 1) w (madeCells #[Value.int .i64 0] N) N hlo (by unfold maxLen; omega) (by rw [size_madeCells, Nat.mul_one])
  rw [toList_madeCells_one] at e
  rw [List.map_replicate]; exact e
/-- The two rows of the loop. -/
structure Q2 (w0 wr : World) (lo g1 c1 n g2 N : Nat) (rest out : List Int) : Prop where
  rest : wr.ownsRow lo 2 1 (.slice (some ⟨g1, 0, none⟩) n c1) n (rest.map (Value.int .i64))
  out : wr.ownsRow lo 2 1 (.slice (some ⟨g2, 0, none⟩) N N) N (out.map (Value.int .i64))
  ne : g1 ≠ g2
  be : Below lo w0 wr
section
variable {w0 wr : World} {lo g1 c1 n g2 N : Nat} {rest out : List Int}
theorem Q2.setOut (h : Q2 w0 wr lo g1 c1 n g2 N rest out) (j : Nat) (u : Int) : Q2 w0 (wr.setCell ⟨g2, j, none⟩ (.int .i64 u)) lo g1 c1 n g2 N rest (out.set j u) where
  rest := own_other2 h.rest h.out (by simp [Value.ownBlock]; exact h.ne) j _
  out := by have e := (h.out.stored j (.int .i64 u)).1; rw [← List.map_set] at e; exact e
  ne := h.ne
  be := h.be.setCell (p := ⟨g2, j, none⟩) (h.out.lt g2 rfl).1 _
theorem Q2.setRest (h : Q2 w0 wr lo g1 c1 n g2 N rest out) (j : Nat) (u : Int) : Q2 w0 (wr.setCell ⟨g1, j, none⟩ (.int .i64 u)) lo g1 c1 n g2 N (rest.set j u) out where
  rest := by have e := (h.rest.stored j (.int .i64 u)).1; rw [← List.map_set] at e; exact e
  out := own_other2 h.out h.rest (by simp [Value.ownBlock]; exact fun e => h.ne e.symm) j _
  ne := h.ne
  be := h.be.setCell (p := ⟨g1, j, none⟩) (h.rest.lt g1 rfl).1 _
theorem Q2.dr (h : Q2 w0 wr lo g1 c1 n g2 N rest out) : Q2 w0 wr.drew lo g1 c1 n g2 N rest out := ⟨h.rest, h.out, h.ne, below_drewN h.be 1⟩
theorem Q2.len1 (h : Q2 w0 wr lo g1 c1 n g2 N rest out) : rest.length = n := by have := h.rest.1; simpa using this
theorem Q2.len2 (h : Q2 w0 wr lo g1 c1 n g2 N rest out) : out.length = N := by have := h.out.1; simpa using this
theorem Q2.cellRest (h : Q2 w0 wr lo g1 c1 n g2 N rest out) {j : Nat} (hj : j < n) : wr.cell? ⟨g1, j, none⟩ = some (.int .i64 (gx rest j)) ∧ wr.frozen? ⟨g1, j, none⟩ = false := by
  have hl := h.len1
  exact ⟨by rw [h.rest.cellAt j (by omega), map_gx _ j (by omega)], h.rest.frozenAt j⟩
theorem Q2.cellOut (h : Q2 w0 wr lo g1 c1 n g2 N rest out) {j : Nat} (hj : j < N) : wr.cell? ⟨g2, j, none⟩ = some (.int .i64 (gx out j)) ∧ wr.frozen? ⟨g2, j, none⟩ = false := by
  have hl := h.len2
  exact ⟨by rw [h.out.cellAt j (by omega), map_gx _ j (by omega)], h.out.frozenAt j⟩
end
end K
end Go.Proofs.Ytogkblncdpbhnaa
