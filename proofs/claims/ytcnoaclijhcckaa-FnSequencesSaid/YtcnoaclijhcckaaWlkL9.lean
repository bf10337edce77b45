/-
  WALKS: what several laws share: a great code; a variable that holds a list.
-/
import Derived.Test.YtcnoaclijhcckaaWlkFB
namespace Go.Proofs.Ytcnoaclijhcckaa
open Go.RowKit
set_option linter.unusedVariables false
namespace WF
open K Pl WA WC
theorem big_any (B : Nat) (v : Value) (n : Nat) (w : World) (h : IsY w B v n) : Calls Try.prog 5 #[v] w fun e w' => e = .returned (.bool (decide (4096 < n))) ∧ w = w' := by
  obtain ⟨A, c, rfl, hnc, hcm, hrd⟩ := h
  unfold maxLen at hcm
  clear hrd
  by_cases h : 4096 < n
  · have h' : (4096 : Int) < (n : Int) := by omega
    go_enter Try.func5, Try.ntmps5
    go_wp2
    go_ret
    exact ⟨ret_b (by simp [h]), rfl⟩
  · have h' : ¬ (4096 : Int) < (n : Int) := by omega
    go_enter Try.func5, Try.ntmps5
    go_wp2
    go_ret
    exact ⟨ret_b (by first | (simp; done) | simp [h]), rfl⟩
/-- The first rows of some rows. -/
theorem IsR.take {w : World} {B m c : Nat} {A : Option Addr} {xss : List (List Int)} (h : IsR w B (.slice A m c) xss) (k : Nat) (hm : xss.length = m) (hk : k ≤ m) : IsR w B (.slice A k c) (xss.take k) := by
  obtain ⟨us, h⟩ := h
  obtain ⟨A', c', e, h1, h2, h3⟩ := h.sh
  cases e
  have hl := h.len
  have hlt : (xss.take k).length = k := by rw [List.length_take]; omega
  refine ⟨us.take k, ⟨by simp; omega, ⟨A, c, by rw [hlt], by omega, h2, fun hp => ?_⟩, fun i hi => ?_⟩⟩
  · rw [hlt] at hp ⊢
    obtain ⟨ad, e1, e2, e3⟩ := h3 (by omega)
    refine ⟨ad, e1, e2, fun j hj => ?_⟩
    rw [e3 j (by omega)]
    simp [ux, List.getD, hj]
  · rw [hlt] at hi
    have := h.each i (by omega)
    have e1 : ux (us.take k) i = ux us i := by simp [ux, List.getD, hi]
    have e2 : gxx (xss.take k) i = gxx xss i := by simp [gxx, List.getD, hi]
    rw [e1, e2]; exact this
/-- A variable that holds a list. -/
structure Vr (w : World) (p : Nat) (v : Value) (xs : List Int) : Prop where
  z : Rz w p v
  i : Is w w.heap.size v xs
theorem Vr.later {w w' : World} {p : Nat} {v : Value} {xs : List Int} (h : Vr w p v xs) (hb : Below w.heap.size w w') : Vr w' p v xs := ⟨h.z.later hb, (h.i.below hb).more hb.size⟩
theorem Vr.new {w : World} {v : Value} {xs : List Int} (h : Is w w.heap.size v xs) (t : TypeId) : Vr (w.alloc (.cells #[v] t)) w.heap.size v xs :=
  ⟨Rz.new w v t, (h.below ((Below.refl _ _).alloc (Nat.le_refl _) _)).more (by simp)⟩
section
variable {w W : World} {p : Nat} {q : Addr} {u v : Value}
theorem s3_al (h : Below w.heap.size w W ∧ W.cell? ⟨p, 0, none⟩ = some u ∧ W.cell? q = some v) (o : Obj) : Below w.heap.size w (W.alloc o) ∧ (W.alloc o).cell? ⟨p, 0, none⟩ = some u ∧ (W.alloc o).cell? q = some v :=
  ⟨h.1.alloc h.1.size o, cell_alloc h.2.1 o, cell_alloc h.2.2 o⟩
theorem s3_set (h : Below w.heap.size w W ∧ W.cell? ⟨p, 0, none⟩ = some u ∧ W.cell? q = some v) (r : Nat) (x : Value) (hr : w.heap.size ≤ r) (h1 : p ≠ r) (h2 : q.block ≠ r) :
    Below w.heap.size w (W.setCell ⟨r, 0, none⟩ x) ∧ (W.setCell ⟨r, 0, none⟩ x).cell? ⟨p, 0, none⟩ = some u ∧ (W.setCell ⟨r, 0, none⟩ x).cell? q = some v :=
  ⟨h.1.setCell (p := ⟨r, 0, none⟩) hr _, cell_far (q := ⟨p, 0, none⟩) h.2.1 h1, cell_far h.2.2 h2⟩
end
theorem al_below (w : World) (o : Obj) : Below w.heap.size w (w.alloc o) := (Below.refl _ _).alloc (Nat.le_refl _) o
end WF
end Go.Proofs.Ytcnoaclijhcckaa
