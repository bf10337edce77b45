/-
  WORDS FOR MEMORY: append, and where the new row lies; append inside a region that draws its order; a list in a variable's cell.
-/
import Derived.Test.YtcdpfomiiebibaaKitR
import Derived.Deep.RegionLaw
import Derived.Deep.AppendLies
namespace Go.Proofs.Ytcdpfomiiebibaa
open Go.RowKit Go.ChangeShapes Go.WideShapes Go.Joins Go.Deep
set_option linter.unusedVariables false
namespace K
open Pl
section
variable {w w' : World} {lo hi : Nat} {v : Value} {us : List Value} {xs : List Int} {xss : List (List Int)} {row : Option Nat}
theorem chg_of_grown (hg : w.grownBy w' row) (hne : ∀ k, row = some k → k < lo ∨ hi ≤ k) : ∃ l m, Chg l m w w' ∧ (hi ≤ l ∨ m ≤ lo) := by
  cases row with
  | none => exact ⟨0, 0, ⟨hg.os, hg.tape, hg.output, hg.size, fun k hk _ => hg.block k hk (by simp)⟩, .inr (Nat.zero_le _)⟩
  | some k =>
    refine ⟨k, k + 1, Chg.of_grown hg (fun k' e => by cases e; omega), ?_⟩
    have := hne k rfl; omega
theorem OwU.grown (h : OwU w lo hi v us xss) (hg : w.grownBy w' row) (hne : ∀ k, row = some k → k < lo ∨ hi ≤ k) : OwU w' lo hi v us xss := by
  obtain ⟨l, m, hc, hd⟩ := chg_of_grown hg hne
  exact h.keep hc hd
theorem Ow.grown (h : Ow w lo hi v xs) (hg : w.grownBy w' row) (hne : ∀ k, row = some k → k < lo ∨ hi ≤ k) : Ow w' lo hi v xs := by
  obtain ⟨l, m, hc, hd⟩ := chg_of_grown hg hne
  exact h.keep hc hd
end
/-- 'xs = append(xs, y)': as 'wp_append_int', and where the new row lies. -/
theorem wp_append_int_at {w : World} {ops : Array Oper} {rest : List Oper} {o : Oper} {a : Act} {Q : Exit → Act → World → Prop} (hgd : o.guard = none) (s x : Operand)
    (ho : o.op = .call { callee := .builtin .append, args := #[s, x], argTypes := #[26, 26] })
    (lo : Nat) (v : Value) (xs : List Int) (hs : a.eval s = v) (hown : w.ownsRow lo 2 1 v xs.length (xs.map (Value.int .i64)))
    (g : Nat) (y : Int) (c : Nat) (hx : a.eval x = .slice (some ⟨g, 0, none⟩) 1 c) (hc : w.cell? ⟨g, 0, none⟩ = some (.int .i64 y)) (hn : xs.length < 1000000000000) (hbase : lo ≤ w.heap.size)
    (h : ∀ v' w', w'.ownsRow lo 2 1 v' (xs ++ [y]).length ((xs ++ [y]).map (Value.int .i64)) → w.grownBy w' v.ownBlock → (v'.ownBlock = v.ownBlock ∨ v'.ownBlock = some w.heap.size) → wpList Try.prog ops Q rest (a.put o.dst v') w') : wpList Try.prog ops Q (o :: rest) a w := by
  obtain ⟨i0, hi, hz0, hz1, hz2⟩ := info_parts info64
  refine wpList_append_own_at (P := Try.prog) w hgd s x 26 ho lo 2 i0 (.int .i64 0) 1 8 Try.underlying26 hi hz0 hz1 hz2 rfl (by decide) v xs.length _ hs hown ⟨g, 0, none⟩ 1 c [.int .i64 y] hx rfl ?_ ?_ (by unfold maxLen; omega) (by omega) hbase ?_
  · intro j u hj
    match j, hj with
    | 0, hj => simp at hj; subst hj; simpa [Addr.add] using hc
  · intro u hu; simp at hu; subst hu; rfl
  · intro v' w' h1 h2 _ h4
    exact h v' w' (by simpa using h1) h2 h4
/-- The same as a step of a region that draws its order. -/
theorem step_append_i {w : World} {ops : Array Oper} {o : Oper} {a : Act} {K : Act → World → Prop} {Q : Exit → Act → World → Prop} {E : Prop} (hgd : o.guard = none) (s x : Operand)
    (ho : o.op = .call { callee := .builtin .append, args := #[s, x], argTypes := #[26, 26] })
    (lo : Nat) (v : Value) (n : Nat) (xs : List Int) (hs : a.eval s = v) (hown : w.ownsRow lo 2 1 v n (xs.map (Value.int .i64)))
    (g : Nat) (y : Int) (c : Nat) (hx : a.eval x = .slice (some ⟨g, 0, none⟩) 1 c) (hc : w.cell? ⟨g, 0, none⟩ = some (.int .i64 y)) (hn : n < 1000000000000) (hbase : lo ≤ w.heap.size)
    (h : ∀ g' cap w', w'.ownsRow lo 2 1 (.slice (some ⟨g', 0, none⟩) (n + 1) cap) (n + 1) ((xs ++ [y]).map (Value.int .i64)) → w.grownBy w' v.ownBlock → (v.ownBlock = some g' ∨ g' = w.heap.size) → g' < w'.heap.size → K (a.put o.dst (.slice (some ⟨g', 0, none⟩) (n + 1) cap)) w') :
    if Region.wanted o (yielded ops a.tmps) = true then Oper.wp Try.prog o a w K Q else E := by
  obtain ⟨i0, hi, hz0, hz1, hz2⟩ := info_parts info64
  refine step_append_lies (P := Try.prog) w hgd s x 26 ho lo 2 i0 (.int .i64 0) 1 8 Try.underlying26 hi hz0 hz1 hz2 rfl (by decide) v n _ hs hown ⟨g, 0, none⟩ 1 c [.int .i64 y] hx rfl ?_ ?_ (by omega) (by unfold maxLen; omega) (by omega) hbase _ rfl ?_
  · intro j u hj
    match j, hj with
    | 0, hj => simp at hj; subst hj; simpa [Addr.add] using hc
  · intro u hu; simp at hu; subst hu; rfl
  · intro g' cap w' h1 h2 h3 h4
    exact h g' cap w' (by simpa using h1) h2 h3 h4
end K
end Go.Proofs.Ytcdpfomiiebibaa
