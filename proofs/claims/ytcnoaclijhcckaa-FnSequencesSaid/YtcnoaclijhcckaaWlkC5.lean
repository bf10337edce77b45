/-
  WALKS, CHAPTER 3: truncations.
-/
import Derived.Test.YtcnoaclijhcckaaWlkC4
import Derived.Test.YtcnoaclijhcckaaWlkL5
namespace Go.Proofs.Ytcnoaclijhcckaa
open Go.RowKit
set_option linter.unusedVariables false
namespace WC
open K Pl WA WL
/-- What a function that returns a branch and a code leaves. -/
def LiB (r : List Int × Int) (w : World) (e : Ending) (w' : World) : Prop := ∃ v, e = .returned (.tuple #[.agg #[v], .int .i64 r.2]) ∧ Ow w' w.heap.size w'.heap.size v r.1 ∧ Below w.heap.size w w'
theorem LiB.nil {w w' : World} {c : Int} {r : List Int × Int} (hr : r = ([], c)) (h : Below w.heap.size w w') : LiB r w (.returned (.tuple #[.agg #[.slice none 0 0], .int .i64 c])) w' := by
  subst hr
  exact ⟨_, rfl, Ow.nil _ _ _, h⟩
/-- The result's cell is written, last of all. -/
theorem res_out {w wr : World} {b b6 n c : Nat} {A : Option Addr} {xs : List Int} {u : Value} {lo : Nat} (h : Bv wr b6 lo A n c xs) (hb : b < lo) (hc : wr.cell? ⟨b, 0, none⟩ = some u) (hw : w.heap.size ≤ b) (hbe : Below w.heap.size w wr) :
    (wr.setCell ⟨b, 0, none⟩ (.slice A n c)).cell? ⟨b, 0, none⟩ = some (.slice A n c) ∧ Ow (wr.setCell ⟨b, 0, none⟩ (.slice A n c)) w.heap.size (wr.setCell ⟨b, 0, none⟩ (.slice A n c)).heap.size (.slice A n c) xs ∧ Below w.heap.size w (wr.setCell ⟨b, 0, none⟩ (.slice A n c)) := by
  refine ⟨World.cell?_setCell_same _ _ _ hc, ?_, hbe.setCell (p := ⟨b, 0, none⟩) hw _⟩
  refine (((h.ow (Nat.le_refl _)).keep (Chg.setCell (lo := b) (hi := b + 1) (p := ⟨b, 0, none⟩) ⟨by simp, by simp⟩ _) (.inr (by omega))).wide (by omega) (by simp))
theorem res_out2 {w wr : World} {b lo hi : Nat} {v u : Value} {xs : List Int} (h : Ow wr lo hi v xs) (hb : b < lo) (hhi : hi ≤ wr.heap.size) (hc : wr.cell? ⟨b, 0, none⟩ = some u) (hw : w.heap.size ≤ b) (hbe : Below w.heap.size w wr) :
    (wr.setCell ⟨b, 0, none⟩ v).cell? ⟨b, 0, none⟩ = some v ∧ Ow (wr.setCell ⟨b, 0, none⟩ v) w.heap.size (wr.setCell ⟨b, 0, none⟩ v).heap.size v xs ∧ Below w.heap.size w (wr.setCell ⟨b, 0, none⟩ v) :=
  ⟨World.cell?_setCell_same _ _ _ hc, (h.keep (Chg.setCell (lo := b) (hi := b + 1) (p := ⟨b, 0, none⟩) ⟨by simp, by simp⟩ _) (.inr (by omega))).wide (by omega) (by simpa using hhi), hbe.setCell (p := ⟨b, 0, none⟩) hw _⟩
/-- A failure's result: the cell is written with nothing. -/
theorem res_none {w wr : World} {b : Nat} {u : Value} (hc : wr.cell? ⟨b, 0, none⟩ = some u) (hw : w.heap.size ≤ b) (hbe : Below w.heap.size w wr) :
    (wr.setCell ⟨b, 0, none⟩ (.slice none 0 0)).cell? ⟨b, 0, none⟩ = some (.slice none 0 0) ∧ Below w.heap.size w (wr.setCell ⟨b, 0, none⟩ (.slice none 0 0)) :=
  ⟨World.cell?_setCell_same _ _ _ hc, hbe.setCell (p := ⟨b, 0, none⟩) hw _⟩
theorem div_eq {a b : Int} (ha : 0 ≤ a) (hb : 1 ≤ b) (ha' : a ≤ 2000) : IntKind.i64.wrap (a.tdiv b) = a / b := by
  rw [Int.tdiv_eq_ediv_of_nonneg ha]
  have h1 : 0 ≤ a / b := Int.ediv_nonneg ha (by omega)
  have h2 : a / b ≤ a := Int.ediv_le_self _ ha
  exact IntWalk.i64_in _ (by omega)
end WC
end Go.Proofs.Ytcnoaclijhcckaa
