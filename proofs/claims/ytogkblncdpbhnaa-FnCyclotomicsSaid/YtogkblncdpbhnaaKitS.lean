/-
  WORDS FOR MEMORY: append, and where the new row lies; append inside a region that draws its order; a list in a variable's cell.
-/
import Derived.Test.YtogkblncdpbhnaaKitR
import Derived.Deep.RegionLaw
import Derived.Deep.AppendLies
namespace Go.Proofs.Ytogkblncdpbhnaa
open Go.RowKit Go.ChangeShapes Go.WideShapes Go.Joins Go.Deep
set_option linter.unusedVariables false
namespace K
open Pl
section
variable {w w' : World} {lo hi : Nat} {v : Value} {us : List Value} {xs : List Int} {xss : List (List Int)} {row : Option Nat}
theorem chg_of_grown (hg : w.grownBy w' row) (hne : ∀ k, row = some k → k < lo ∨ hi ≤ k) : ∃ l m, Chg l m w w' ∧ (hi ≤ l ∨ m ≤ lo) := by
  cases row with
  | none => exact ⟨0, 0, ⟨hg.os, hg.tape, hg.output, hg.size, fun k hk _ => hg.block k hk (by simp)⟩, .inr (Nat.zero_le _)⟩
  | some k =>
    refine ⟨k, k + 1, Chg.of_grown hg (fun k' e => by cases e; omega), ?_⟩
    have := hne k rfl; omega
theorem OwU.grown (h : OwU w lo hi v us xss) (hg : w.grownBy w' row) (hne : ∀ k, row = some k → k < lo ∨ hi ≤ k) : OwU w' lo hi v us xss := by
  obtain ⟨l, m, hc, hd⟩ := chg_of_grown hg hne
  exact h.keep hc hd
theorem Ow.grown (h : Ow w lo hi v xs) (hg : w.grownBy w' row) (hne : ∀ k, row = some k → k < lo ∨ hi ≤ k) : Ow w' lo hi v xs := by
  obtain ⟨l, m, hc, hd⟩ := chg_of_grown hg hne
  exact h.keep hc hd
end
/-- 'xs = append(xs, y)': as 'wp_append_int', and where the new row lies. -/
theorem wp_append_int_at {w : World} {ops : Array Oper} {rest : List Oper} {o : Oper} {a : Act} {Q : Exit → Act → World → Prop} (hgd : o.guard = none) (s x : Operand)
    (ho : o.op = .call { callee := .builtin .append, args := #[s, x], argTypes := #[24, 24] })
    (lo : Nat) (v : Value) (xs : List Int) (hs : a.eval s = v) (hown : w.ownsRow lo 2 1 v xs.length (xs.map (Value.int .i64)))
    (g : Nat) (y : Int) (c : Nat) (hx : a.eval x = .slice (some ⟨g, 0, none⟩) 1 c) (hc : w.cell? ⟨g, 0, none⟩ = some (.int .i64 y)) (hn : xs.length < 1000000000000) (hbase : lo ≤ w.heap.size)
    (h : ∀ v' w', w'.ownsRow lo 2 1 v' (xs ++ [y]).length ((xs ++ [y]).map (Value.int .i64)) → w.grownBy w' v.ownBlock → (v'.ownBlock = v.ownBlock ∨ v'.ownBlock = some w.heap.size) → wpList Try.prog ops Q rest (a.put o.dst v') w') : wpList Try.prog ops Q (o :: rest) a w := by
  obtain ⟨i0, hi, hz0, hz1, hz2⟩ := info_parts info64
  refine wpList_append_own_at (P := Try.prog) w hgd s x 24 ho lo 2 i0 (.int .i64 0) 1 8 Try.underlying24 hi hz0 hz1 hz2 rfl (by decide) v xs.length _ hs hown ⟨g, 0, none⟩ 1 c [.int .i64 y] hx rfl ?_ ?_ (by unfold maxLen; omega) (by omega) hbase ?_
  · intro j u hj
    match j, hj with
    | 0, hj => simp at hj; subst hj; simpa [Addr.add] using hc
  · intro u hu; simp at hu; subst hu; rfl
  · intro v' w' h1 h2 _ h4
    exact h v' w' (by simpa using h1) h2 h4
/-- The same as a step of a region that draws its order. -/
theorem step_append_i {w : World} {ops : Array Oper} {o : Oper} {a : Act} {K : Act → World → Prop} {Q : Exit → Act → World → Prop} {E : Prop} (hgd : o.guard = none) (s x : Operand)
    (ho : o.op = .call { callee := .builtin .append, args := #[s, x], argTypes := #[24, 24] })
    (lo : Nat) (v : Value) (n : Nat) (xs : List Int) (hs : a.eval s = v) (hown : w.ownsRow lo 2 1 v n (xs.map (Value.int .i64)))
    (g : Nat) (y : Int) (c : Nat) (hx : a.eval x = .slice (some ⟨g, 0, none⟩) 1 c) (hc : w.cell? ⟨g, 0, none⟩ = some (.int .i64 y)) (hn : n < 1000000000000) (hbase : lo ≤ w.heap.size)
    (h : ∀ g' cap w', w'.ownsRow lo 2 1 (.slice (some ⟨g', 0, none⟩) (n + 1) cap) (n + 1) ((xs ++ [y]).map (Value.int .i64)) → w.grownBy w' v.ownBlock → (v.ownBlock = some g' ∨ g' = w.heap.size) → g' < w'.heap.size → K (a.put o.dst (.slice (some ⟨g', 0, none⟩) (n + 1) cap)) w') :
    if Region.wanted o (yielded ops a.tmps) = true then Oper.wp Try.prog o a w K Q else E := by
  obtain ⟨i0, hi, hz0, hz1, hz2⟩ := info_parts info64
  refine step_append_lies (P := Try.prog) w hgd s x 24 ho lo 2 i0 (.int .i64 0) 1 8 Try.underlying24 hi hz0 hz1 hz2 rfl (by decide) v n _ hs hown ⟨g, 0, none⟩ 1 c [.int .i64 y] hx rfl ?_ ?_ (by omega) (by unfold maxLen; omega) (by omega) hbase _ rfl ?_
  · intro j u hj
    match j, hj with
    | 0, hj => simp at hj; subst hj; simpa [Addr.add] using hc
  · intro u hu; simp at hu; subst hu; rfl
  · intro g' cap w' h1 h2 h3 h4
    exact h g' cap w' (by simpa using h1) h2 h3 h4
/-- 'xs = append(xs, y)' at a plain region's list, the new value written out. -/
theorem wp_append_i {w : World} {ops : Array Oper} {rest : List Oper} {o : Oper} {a : Act} {Q : Exit → Act → World → Prop} (hgd : o.guard = none) (s x : Operand)
    (ho : o.op = .call { callee := .builtin .append, args := #[s, x], argTypes := #[24, 24] })
    (lo : Nat) (v : Value) (n : Nat) (xs : List Int) (hs : a.eval s = v) (hown : w.ownsRow lo 2 1 v n (xs.map (Value.int .i64)))
    (g : Nat) (y : Int) (c : Nat) (hx : a.eval x = .slice (some ⟨g, 0, none⟩) 1 c) (hc : w.cell? ⟨g, 0, none⟩ = some (.int .i64 y)) (hn : n < 1000000000000) (hbase : lo ≤ w.heap.size)
    (h : ∀ g' cap w', w'.ownsRow lo 2 1 (.slice (some ⟨g', 0, none⟩) (n + 1) cap) (n + 1) ((xs ++ [y]).map (Value.int .i64)) → w.grownBy w' v.ownBlock → (v.ownBlock = some g' ∨ g' = w.heap.size) → g' < w'.heap.size → wpList Try.prog ops Q rest (a.put o.dst (.slice (some ⟨g', 0, none⟩) (n + 1) cap)) w') : wpList Try.prog ops Q (o :: rest) a w := by
  obtain ⟨i0, hi, hz0, hz1, hz2⟩ := info_parts info64
  refine wpList_append_lies (P := Try.prog) w hgd s x 24 ho lo 2 i0 (.int .i64 0) 1 8 Try.underlying24 hi hz0 hz1 hz2 rfl (by decide) v n _ hs hown ⟨g, 0, none⟩ 1 c [.int .i64 y] hx rfl ?_ ?_ (by omega) (by unfold maxLen; omega) (by omega) hbase _ rfl ?_
  · intro j u hj
    match j, hj with
    | 0, hj => simp at hj; subst hj; simpa [Addr.add] using hc
  · intro u hu; simp at hu; subst hu; rfl
  · intro g' cap w' h1 h2 h3 h4
    exact h g' cap w' (by simpa using h1) h2 h3 h4
/-- A variable's cell that holds a list of the call's own: block b; the row lies in another block, from lo on. -/
structure Bv (w : World) (b lo : Nat) (A : Option Addr) (n c : Nat) (xs : List Int) : Prop where
  len : xs.length = n
  cell : w.cell? ⟨b, 0, none⟩ = some (.slice A n c)
  free : w.frozen? ⟨b, 0, none⟩ = false
  own : w.ownsRow lo 2 1 (.slice A n c) n (xs.map (Value.int .i64))
  apart : (Value.slice A n c).ownBlock ≠ some b
section
variable {w w' W w2 : World} {b lo n c g cap : Nat} {A : Option Addr} {xs : List Int} {y : Int}
theorem Bv.lt (h : Bv w b lo A n c xs) : b < w.heap.size := World.block_lt_of_cell? w ⟨b, 0, none⟩ h.cell
theorem Bv.bounds (h : Bv w b lo A n c xs) : n ≤ c ∧ c ≤ 9223372036854775807 := by
  rcases h.own.2 with ⟨e, _⟩ | ⟨_, _, _, e, _, _, h1, h2, _⟩
  · cases e; omega
  · cases e; exact ⟨h1, by unfold maxLen at h2; omega⟩
theorem Bv.block (h : Bv w b lo A n c xs) (hg : W.grownBy w2 (Value.slice A n c).ownBlock) {o : Obj} (hW : W.heap = (w.alloc o).heap) : w2.heap[b]? = w.heap[b]? := by
  have hlt := h.lt
  have h1 := hg.block b (by rw [hW]; simp; omega) (fun e => h.apart e.symm)
  rw [h1, hW]
  exact Below.heap_alloc w o b hlt
/-- Behind an append its cell is as it was. -/
theorem Bv.after (h : Bv w b lo A n c xs) (hg : W.grownBy w2 (Value.slice A n c).ownBlock) {o : Obj} (hW : W.heap = (w.alloc o).heap) : w2.cell? ⟨b, 0, none⟩ = some (.slice A n c) ∧ w2.frozen? ⟨b, 0, none⟩ = false :=
  ⟨(World.cell?_of_block (w := w) (h.block hg hW)).trans h.cell, (World.frozen?_of_block (w := w) (h.block hg hW)).trans h.free⟩
/-- Behind the store. -/
theorem Bv.step (h : Bv w b lo A n c xs) (hg : W.grownBy w2 (Value.slice A n c).ownBlock) {o : Obj} (hW : W.heap = (w.alloc o).heap)
    (ho : w2.ownsRow lo 2 1 (.slice (some ⟨g, 0, none⟩) (n + 1) cap) (n + 1) ((xs ++ [y]).map (Value.int .i64))) (hat : (Value.slice A n c).ownBlock = some g ∨ g = W.heap.size) :
    Bv (w2.setCell ⟨b, 0, none⟩ (.slice (some ⟨g, 0, none⟩) (n + 1) cap)) b lo (some ⟨g, 0, none⟩) (n + 1) cap (xs ++ [y]) := by
  obtain ⟨h1, h2⟩ := h.after hg hW
  have hne : g ≠ b := by
    rcases hat with e | e
    · intro e2; subst e2; exact h.apart e
    · have := h.lt; rw [hW] at e; simp at e; omega
  refine ⟨by simp [h.len], World.cell?_setCell_same _ _ _ h1, ?_, ho.kept (row := some b) ⟨rfl, rfl, rfl, by simp, fun k _ hk => Below.heap_setCell w2 ⟨b, 0, none⟩ _ k (fun e => hk (by rw [e]))⟩ (.inr (by simp [Value.ownBlock]; exact hne)), by simp [Value.ownBlock]; exact hne⟩
  rw [← h2]; simp [go_sem]
theorem Bv.below (h : Bv w b lo A n c xs) {w0 : World} {B : Nat} (hB : B ≤ b) (hlo : B ≤ lo) (hbe : Below B w0 w) (hg : W.grownBy w2 (Value.slice A n c).ownBlock) {o : Obj} (hW : W.heap = (w.alloc o).heap ∧ W.os = w.os ∧ W.tape = w.tape ∧ W.output = w.output) (u : Value) :
    Below B w0 (w2.setCell ⟨b, 0, none⟩ u) := by
  have hlt := h.lt
  have hw : Below B w0 W := ⟨hW.2.1.trans hbe.os, hW.2.2.1.trans hbe.tape, hW.2.2.2.trans hbe.output, by rw [hW.1]; have := hbe.size; simp; omega, fun k hk => by
    rw [hW.1]; exact (Below.heap_alloc w o k (by omega)).trans (hbe.block k hk)⟩
  exact (hw.grown hg (by rw [hW.1]; simp; omega) (fun k e => by have := (h.own.lt k e).1; omega)).setCell (p := ⟨b, 0, none⟩) hB _
theorem Bv.of_heap (h : Bv w b lo A n c xs) (e : w'.heap = w.heap) : Bv w' b lo A n c xs := by
  have hb : ∀ k : Nat, w'.heap[k]? = w.heap[k]? := fun k => by rw [e]
  refine ⟨h.len, (World.cell?_of_block (w := w) (hb b)).trans h.cell, (World.frozen?_of_block (w := w) (hb b)).trans h.free, ?_, h.apart⟩
  have := h.own
  unfold World.ownsRow at this ⊢
  rw [e]; exact this
theorem Bv.later (h : Bv w b lo A n c xs) (hb : Below w.heap.size w w') : Bv w' b lo A n c xs :=
  ⟨h.len, (hb.cell (p := ⟨b, 0, none⟩) h.lt).trans h.cell, (hb.frozen (p := ⟨b, 0, none⟩) h.lt).trans h.free, own_later h.own hb, h.apart⟩
theorem Bv.ow (h : Bv w b lo A n c xs) {lo' : Nat} (hlo : lo' ≤ lo) : Ow w lo' w.heap.size (.slice A n c) xs := by
  have := h.own
  have e := h.len
  subst e
  exact ⟨own_base this hlo, fun k hk => (this.lt k hk).2⟩
/-- A number of the list, read. -/
theorem Bv.at (h : Bv w b lo A n c xs) {j : Nat} (hj : j < n) : ∃ g, A = some ⟨g, 0, none⟩ ∧ w.cell? ⟨g, j, none⟩ = some (.int .i64 (gx xs j)) := by
  obtain ⟨g, cap, e⟩ := Go.Joins.ownsRow_form h.own (by omega)
  cases e
  have hl := h.len
  exact ⟨g, rfl, by rw [h.own.cellAt j (by omega), map_gx _ _ (by omega)]⟩
/-- 'Branch{[]int64{y}}' in a variable of its own: the row's block, the variable's block behind it. -/
theorem Bv.lit {t : TypeId} (w : World) (y : Int) (hlo : lo ≤ w.heap.size) : Bv ((w.alloc (.cells #[.int .i64 y] 2)).alloc (.cells #[.slice (some ⟨w.heap.size, 0, none⟩) 1 1] t)) (w.heap.size + 1) lo (some ⟨w.heap.size, 0, none⟩) 1 1 [y] :=
  ⟨rfl, by simp [go_sem], by simp [go_sem], (World.ownsRow_lit (base := lo) (e := 2) (size := 1) w #[.int .i64 y] 1 hlo (by decide) rfl).alloc _, by simp [Value.ownBlock]⟩
end
end K
end Go.Proofs.Ytogkblncdpbhnaa
