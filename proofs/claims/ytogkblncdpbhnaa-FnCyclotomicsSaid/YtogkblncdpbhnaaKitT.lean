/-
  WORDS FOR MEMORY: a row appended to a row of rows inside a region that draws its order.
-/
import Derived.Test.YtogkblncdpbhnaaKitS
import Derived.Deep.RegionHeld3
namespace Go.Proofs.Ytogkblncdpbhnaa
open Go.RowKit Go.ChangeShapes Go.WideShapes Go.Joins Go.Deep
set_option linter.unusedVariables false
namespace K
open Pl
theorem cell_alloc {w : World} {a : Addr} {v : Value} (h : w.cell? a = some v) (o : Obj) : (w.alloc o).cell? a = some v := (World.cell?_alloc_lt w o a (World.block_lt_of_cell? w a h)).trans h
theorem low_cell {W w2 : World} {row : Option Nat} {lo : Nat} {a : Addr} {u : Value} (hg : W.grownBy w2 row) (hrow : ∀ k, row = some k → lo ≤ k) (ha : a.block < lo) (hc : W.cell? a = some u) : w2.cell? a = some u :=
  hg.cell hc (fun e => by have := hrow _ e.symm; omega)
/-- 'rows = append(rows, row)' as a step of a region that draws its order. -/
theorem step_append_r {w : World} {ops : Array Oper} {o : Oper} {a : Act} {K : Act → World → Prop} {Q : Exit → Act → World → Prop} {E : Prop} (hgd : o.guard = none) (s x : Operand)
    (ho : o.op = .call { callee := .builtin .append, args := #[s, x], argTypes := #[26, 26] })
    (lo : Nat) (v : Value) (n : Nat) (us : List Value) (hs : a.eval s = v) (hown : w.ownsRow lo 24 1 v n us)
    (g : Nat) (A : Option Addr) (m cc c : Nat) (hx : a.eval x = .slice (some ⟨g, 0, none⟩) 1 c) (hc : w.cell? ⟨g, 0, none⟩ = some (.slice A m cc)) (hn : n < 1000000000000) (hbase : lo ≤ w.heap.size)
    (h : ∀ g' cap w', w'.ownsRow lo 24 1 (.slice (some ⟨g', 0, none⟩) (n + 1) cap) (n + 1) (us ++ [.slice A m cc]) → w.grownBy w' v.ownBlock → (v.ownBlock = some g' ∨ g' = w.heap.size) → g' < w'.heap.size → K (a.put o.dst (.slice (some ⟨g', 0, none⟩) (n + 1) cap)) w') :
    if Region.wanted o (yielded ops a.tmps) = true then Oper.wp Try.prog o a w K Q else E := by
  obtain ⟨i0, hi, hz0, hz1, hz2⟩ := info_parts infoRow
  refine step_append_lies (P := Try.prog) w hgd s x 26 ho lo 24 i0 (.slice none 0 0) 1 24 Try.underlying26 hi hz0 hz1 hz2 rfl (by decide) v n _ hs hown ⟨g, 0, none⟩ 1 c [.slice A m cc] hx rfl ?_ ?_ (by omega) (by unfold maxLen; omega) (by omega) hbase _ rfl ?_
  · intro j u hj
    match j, hj with
    | 0, hj => simp at hj; subst hj; simpa [Addr.add] using hc
  · intro u hu; simp at hu; subst hu; rfl
  · intro g' cap w' h1 h2 h3 h4
    exact h g' cap w' h1 h2 h3 h4
/-- A row of two numbers, made and appended. -/
theorem OwU.two {w w1 w2 : World} {lo hi g cap : Nat} {v : Value} {us : List Value} {xss : List (List Int)} {a b : Int} (h : OwU w lo hi v us xss) (hhi : hi ≤ w.heap.size) (hlo : lo ≤ w.heap.size)
    (hW : w1.heap = ((w.alloc (.cells #[.int .i64 a, .int .i64 b] 2)).alloc (.cells #[.slice (some ⟨w.heap.size, 0, none⟩) 2 2] 24)).heap ∧ w1.os = w.os ∧ w1.tape = w.tape ∧ w1.output = w.output)
    (ho : w2.ownsRow lo 24 1 (.slice (some ⟨g, 0, none⟩) (xss.length + 1) cap) (xss.length + 1) (us ++ [.slice (some ⟨w.heap.size, 0, none⟩) 2 2])) (hg : w1.grownBy w2 v.ownBlock) (hat : v.ownBlock = some g ∨ g = w1.heap.size) :
    OwU w2 lo w2.heap.size (.slice (some ⟨g, 0, none⟩) (xss.length + 1) cap) (us ++ [.slice (some ⟨w.heap.size, 0, none⟩) 2 2]) (xss ++ [[a, b]]) ∧ (∀ B w0, Below B w0 w → B ≤ lo → Below B w0 w2) := by
  have hb : Below w.heap.size w w1 := ⟨hW.2.1, hW.2.2.1, hW.2.2.2, by rw [hW.1]; simp; omega, fun k hk => by
    rw [hW.1, Below.heap_alloc _ _ k (by simp; omega), Below.heap_alloc _ _ k hk]⟩
  have hu : Ow w1 w.heap.size w1.heap.size (.slice (some ⟨w.heap.size, 0, none⟩) 2 2) [a, b] := by
    have e : (w.alloc (.cells #[.int .i64 a, .int .i64 b] 2)).ownsRow w.heap.size 2 1 (.slice (some ⟨w.heap.size, 0, none⟩) 2 2) 2 [.int .i64 a, .int .i64 b] := World.ownsRow_lit w #[.int .i64 a, .int .i64 b] 2 (Nat.le_refl _) (by decide) rfl
    have e2 := e.alloc (.cells #[.slice (some ⟨w.heap.size, 0, none⟩) 2 2] 24)
    refine ⟨?_, fun k hk => by simp [Value.ownBlock] at hk; rw [hW.1]; simp; omega⟩
    unfold World.ownsRow at e2 ⊢
    rw [hW.1]; exact e2
  refine ⟨OwU.snoc h hhi hlo hb hu ho hg ?_, fun B w0 h0 hB => ?_⟩
  · rcases hat with e | e
    · exact .inl (by rw [e]; rfl)
    · exact .inr (by rw [e]; rfl)
  · exact (h0.trans (hb.mono (by omega))).grown hg (by have := hb.size; omega) (fun k e => by have := (h.row.lt k e).1; omega)
end K
end Go.Proofs.Ytogkblncdpbhnaa
