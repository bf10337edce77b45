/-
  WORDS FOR MEMORY, rows of rows: a slice of slices of int64 that reads as a list of lists; what a call owns of that kind.
-/
import Derived.Test.YtogkblncdpbhnaaKit
import Derived.Maps.AppendAt
namespace Go.Proofs.Ytogkblncdpbhnaa
open Go.RowKit Go.ChangeShapes Go.WideShapes Go.Joins Go.Deep
set_option linter.unusedVariables false
namespace K
open Pl
/-- Row i of some values, of some lists. -/
def ux (us : List Value) (i : Nat) : Value := us.getD i (.slice none 0 0)
def gxx (xss : List (List Int)) (i : Nat) : List Int := xss.getD i []
theorem ux_eq (us : List Value) (i : Nat) (h : i < us.length) : ux us i = us[i] := by simp [ux, List.getD, h]
theorem gxx_eq (xss : List (List Int)) (i : Nat) (h : i < xss.length) : gxx xss i = xss[i] := by simp [gxx, List.getD, h]
theorem gxx_mem (xss : List (List Int)) (i : Nat) (h : i < xss.length) : gxx xss i ∈ xss := by rw [gxx_eq xss i h]; exact List.getElem_mem h
theorem ux_get? (us : List Value) (i : Nat) (h : i < us.length) : us[i]? = some (ux us i) := by rw [ux_eq us i h]; exact List.getElem?_eq_getElem h
theorem ux_append (us vs : List Value) (i : Nat) : ux (us ++ vs) i = if i < us.length then ux us i else ux vs (i - us.length) := by
  unfold ux
  split
  · rename_i h; simp [List.getD, List.getElem?_append_left h]
  · rename_i h; simp [List.getD, List.getElem?_append_right (Nat.le_of_not_lt h)]
theorem gxx_append (us vs : List (List Int)) (i : Nat) : gxx (us ++ vs) i = if i < us.length then gxx us i else gxx vs (i - us.length) := by
  unfold gxx
  split
  · rename_i h; simp [List.getD, List.getElem?_append_left h]
  · rename_i h; simp [List.getD, List.getElem?_append_right (Nat.le_of_not_lt h)]
theorem ux_set (us : List Value) (i j : Nat) (u : Value) (h : i < us.length) : ux (us.set i u) j = if i = j then u else ux us j := by
  unfold ux
  by_cases e : i = j
  · subst e; simp [List.getD, h]
  · simp [List.getD, List.getElem?_set_ne e, e]
theorem gxx_set (xss : List (List Int)) (i j : Nat) (y : List Int) (h : i < xss.length) : gxx (xss.set i y) j = if i = j then y else gxx xss j := by
  unfold gxx
  by_cases e : i = j
  · subst e; simp [List.getD, h]
  · simp [List.getD, List.getElem?_set_ne e, e]
theorem gxx_ext {a b : List (List Int)} (h : a.length = b.length) (e : ∀ i, i < a.length → gxx a i = gxx b i) : a = b := by
  apply List.ext_getElem h
  intro i h1 h2
  rw [← gxx_eq a i h1, ← gxx_eq b i h2]; exact e i h1

theorem own_keep {w w' : World} {lo lo' hi hi' : Nat} {e : TypeId} {s n : Nat} {v : Value} {xs : List Value} (h : w.ownsRow lo e s v n xs) (ht : ∀ k, v.ownBlock = some k → k < hi) (hc : Chg lo' hi' w w') (hd : hi ≤ lo' ∨ hi' ≤ lo) : w'.ownsRow lo e s v n xs := by
  obtain ⟨h1, h2⟩ := h
  refine ⟨h1, ?_⟩
  rcases h2 with h2 | ⟨g, cap, cur, hv, hg, hh, r⟩
  · exact .inl h2
  · have hg1 : g < w.heap.size := (Array.getElem?_eq_some_iff.1 hh).1
    have hg2 : g < hi := ht g (by rw [hv]; rfl)
    exact .inr ⟨g, cap, cur, hv, hg, (hc.block g hg1 (by omega)).trans hh, r⟩
theorem Ow.nil (w : World) (lo hi : Nat) : Ow w lo hi (.slice none 0 0) [] := ⟨World.ownsRow_nil _ _ _ _, fun k hk => by simp [Value.ownBlock] at hk⟩
theorem Ow.wide {w : World} {lo hi lo' hi' : Nat} {v : Value} {xs : List Int} (h : Ow w lo hi v xs) (h1 : lo' ≤ lo) (h2 : hi ≤ hi') : Ow w lo' hi' v xs := ⟨own_base h.1 h1, fun k hk => Nat.lt_of_lt_of_le (h.2 k hk) h2⟩
theorem Ow.kept {w w' : World} {lo hi : Nat} {v : Value} {xs : List Int} {row : Option Nat} (h : Ow w lo hi v xs) (hg : w.grownBy w' row) (hne : v.ownBlock = none ∨ v.ownBlock ≠ row) : Ow w' lo hi v xs := ⟨h.1.kept hg hne, h.2⟩
theorem Ow.shape {w : World} {lo hi : Nat} {v : Value} {xs : List Int} (h : Ow w lo hi v xs) : ∃ A c, v = .slice A xs.length c ∧ xs.length ≤ c ∧ c ≤ 9223372036854775807 := own_shape h.1
theorem Ow.low {w : World} {lo hi k : Nat} {v : Value} {xs : List Int} (h : Ow w lo hi v xs) (hk : v.ownBlock = some k) : lo ≤ k ∧ k < hi ∧ k < w.heap.size := ⟨(h.1.lt k hk).1, h.2 k hk, (h.1.lt k hk).2⟩
/-- A row taken by itself: what turns it alone. -/
theorem Ow.split {w : World} {lo hi : Nat} {v : Value} {xs : List Int} (h : Ow w lo hi v xs) :
    ∃ l m, Ow w l m v xs ∧ (∀ w', Chg l m w w' → w.grownBy w' v.ownBlock) ∧ (∀ w' ys, Ow w' l m v ys → Ow w' lo hi v ys) := by
  rcases h.1.2 with ⟨rfl, h0⟩ | ⟨g, cap, cur, rfl, hlo, r⟩
  · obtain rfl : xs = [] := List.eq_nil_of_length_eq_zero h0
    refine ⟨0, 0, Ow.nil _ _ _, fun w' c => ⟨c.os, c.tape, c.output, c.size, fun k hk _ => c.block k hk (by omega)⟩, fun w' ys hy => ?_⟩
    refine ⟨?_, fun k hk => by simp [Value.ownBlock] at hk⟩
    rcases hy.1.2 with ⟨_, h1⟩ | ⟨_, _, _, e, _⟩
    · exact ⟨hy.1.1, .inl ⟨rfl, h1⟩⟩
    · cases e
  · have hg := h.2 g rfl
    refine ⟨g, g + 1, ⟨⟨h.1.1, .inr ⟨g, cap, cur, rfl, Nat.le_refl _, r⟩⟩, fun k hk => by simp [Value.ownBlock] at hk; omega⟩, fun w' c => ⟨c.os, c.tape, c.output, c.size, fun k hk hne => c.block k hk (by
      intro hh; exact hne (by simp [Value.ownBlock]; omega))⟩, fun w' ys hy => ⟨own_base hy.1 hlo, fun k hk => by simp [Value.ownBlock] at hk; omega⟩⟩

/-- What a call owns: a row of rows, the rows' values us. -/
structure OwU (w : World) (lo hi : Nat) (v : Value) (us : List Value) (xss : List (List Int)) : Prop where
  len : us.length = xss.length
  row : w.ownsRow lo 24 1 v xss.length us
  top : ∀ k, v.ownBlock = some k → k < hi
  each : ∀ i, i < xss.length → Ow w lo hi (ux us i) (gxx xss i)
  apart : ∀ i j k, i < j → j < xss.length → (ux us i).ownBlock = some k → (ux us j).ownBlock ≠ some k
  off : ∀ i k, i < xss.length → v.ownBlock = some k → (ux us i).ownBlock ≠ some k
def OwR (w : World) (lo hi : Nat) (v : Value) (xss : List (List Int)) : Prop := ∃ us, OwU w lo hi v us xss
/-- A value that reads as a list of lists. -/
structure IsU (w : World) (B : Nat) (v : Value) (us : List Value) (xss : List (List Int)) : Prop where
  len : us.length = xss.length
  sh : ∃ A c, v = .slice A xss.length c ∧ xss.length ≤ c ∧ c ≤ maxLen ∧ (0 < xss.length → ∃ ad, A = some ad ∧ ad.block < B ∧ ∀ j, j < xss.length → w.cell? (ad.add j) = some (ux us j))
  each : ∀ i, i < xss.length → Is w B (ux us i) (gxx xss i)
def IsR (w : World) (B : Nat) (v : Value) (xss : List (List Int)) : Prop := ∃ us, IsU w B v us xss
section
variable {w w' : World} {lo hi lo' hi' B B' : Nat} {v : Value} {us : List Value} {xss : List (List Int)}
theorem OwU.keep (h : OwU w lo hi v us xss) (hc : Chg lo' hi' w w') (hd : hi ≤ lo' ∨ hi' ≤ lo) : OwU w' lo hi v us xss :=
  ⟨h.len, own_keep h.row h.top hc hd, h.top, fun i hi => (h.each i hi).keep hc hd, h.apart, h.off⟩
theorem OwU.later (h : OwU w lo hi v us xss) (hb : Below w.heap.size w w') : OwU w' lo hi v us xss := h.keep (Chg.of_below hb) (.inr (Nat.zero_le _))
theorem OwU.alloc (h : OwU w lo hi v us xss) (o : Obj) : OwU (w.alloc o) lo hi v us xss := ⟨h.len, h.row.alloc o, h.top, fun i hi => (h.each i hi).alloc o, h.apart, h.off⟩
theorem OwU.wide (h : OwU w lo hi v us xss) (h1 : lo' ≤ lo) (h2 : hi ≤ hi') : OwU w lo' hi' v us xss :=
  ⟨h.len, own_base h.row h1, fun k hk => Nat.lt_of_lt_of_le (h.top k hk) h2, fun i hi => (h.each i hi).wide h1 h2, h.apart, h.off⟩
theorem OwR.keep (h : OwR w lo hi v xss) (hc : Chg lo' hi' w w') (hd : hi ≤ lo' ∨ hi' ≤ lo) : OwR w' lo hi v xss := h.elim fun us h => ⟨us, h.keep hc hd⟩
theorem OwR.later (h : OwR w lo hi v xss) (hb : Below w.heap.size w w') : OwR w' lo hi v xss := h.elim fun us h => ⟨us, h.later hb⟩
theorem OwR.alloc (h : OwR w lo hi v xss) (o : Obj) : OwR (w.alloc o) lo hi v xss := h.elim fun us h => ⟨us, h.alloc o⟩
theorem OwR.wide (h : OwR w lo hi v xss) (h1 : lo' ≤ lo) (h2 : hi ≤ hi') : OwR w lo' hi' v xss := h.elim fun us h => ⟨us, h.wide h1 h2⟩
theorem IsU.below (h : IsU w B v us xss) (hb : Below B w w') : IsU w' B v us xss := by
  obtain ⟨A, c, e, h1, h2, h3⟩ := h.sh
  refine ⟨h.len, ⟨A, c, e, h1, h2, fun hn => ?_⟩, fun i hi => (h.each i hi).below hb⟩
  obtain ⟨ad, e1, e2, e3⟩ := h3 hn
  exact ⟨ad, e1, e2, fun j hj => (hb.cell (by rw [block_of_add]; exact e2)).trans (e3 j hj)⟩
theorem IsU.more (h : IsU w B v us xss) (hB : B ≤ B') : IsU w B' v us xss := by
  obtain ⟨A, c, e, h1, h2, h3⟩ := h.sh
  refine ⟨h.len, ⟨A, c, e, h1, h2, fun hn => ?_⟩, fun i hi => (h.each i hi).more hB⟩
  obtain ⟨ad, e1, e2, e3⟩ := h3 hn
  exact ⟨ad, e1, by omega, e3⟩
theorem IsR.below (h : IsR w B v xss) (hb : Below B w w') : IsR w' B v xss := h.elim fun us h => ⟨us, h.below hb⟩
theorem IsR.more (h : IsR w B v xss) (hB : B ≤ B') : IsR w B' v xss := h.elim fun us h => ⟨us, h.more hB⟩
theorem OwU.isB (h : OwU w lo hi v us xss) : IsU w hi v us xss := by
  refine ⟨h.len, ?_, fun i hi => (h.each i hi).isB⟩
  have hcells := fun g hg => h.row.cells (g := g) hg
  have htop := h.top
  rcases h.row.2 with ⟨rfl, h0⟩ | ⟨g, cap, cur, rfl, _, _, hc, hm, _⟩
  · exact ⟨none, 0, by rw [h0], by omega, by unfold maxLen; omega, fun h => by omega⟩
  · exact ⟨_, cap, rfl, hc, hm, fun _ => ⟨_, rfl, htop g rfl, fun j hj => hcells g rfl j _ (ux_get? us j (by have := h.len; omega))⟩⟩
theorem OwU.is (h : OwU w lo hi v us xss) : IsU w w.heap.size v us xss := by
  have hlt : ∀ k, v.ownBlock = some k → k < w.heap.size := fun k hk => (h.row.lt k hk).2
  have h2 : OwU w lo w.heap.size v us xss := ⟨h.len, h.row, hlt, fun i hi => ⟨(h.each i hi).1, fun k hk => ((h.each i hi).1.lt k hk).2⟩, h.apart, h.off⟩
  exact h2.isB
theorem OwR.is (h : OwR w lo hi v xss) : IsR w w.heap.size v xss := h.elim fun us h => ⟨us, h.is⟩
theorem OwR.isB (h : OwR w lo hi v xss) : IsR w hi v xss := h.elim fun us h => ⟨us, h.isB⟩
theorem OwU.nil (w : World) (lo hi : Nat) : OwU w lo hi (.slice none 0 0) [] [] :=
  ⟨rfl, World.ownsRow_nil _ _ _ _, fun k hk => by simp [Value.ownBlock] at hk, fun i h => by simp at h, fun i j k _ h => by simp at h, fun i k h => by simp at h⟩
theorem OwR.nil (w : World) (lo hi : Nat) : OwR w lo hi (.slice none 0 0) [] := ⟨[], OwU.nil w lo hi⟩
/-- '[][]int64{}'. -/
theorem OwU.lit (w : World) (hlo : lo ≤ w.heap.size) : OwU (w.alloc (.cells #[] 24)) lo (w.heap.size + 1) (.slice (some ⟨w.heap.size, 0, none⟩) 0 0) [] [] :=
  ⟨rfl, World.ownsRow_lit w #[] 0 hlo (by decide) rfl, fun k hk => by simp [Value.ownBlock] at hk; omega, fun i h => by simp at h, fun i j k _ h => by simp at h, fun i k h => by simp at h⟩
/-- One row more. -/
theorem OwU.snoc {w1 w2 : World} {v' u : Value} {ys : List Int} (h : OwU w lo hi v us xss) (hhi : hi ≤ w.heap.size) (hlo : lo ≤ w.heap.size) (hB : Below w.heap.size w w1) (hu : Ow w1 w.heap.size w1.heap.size u ys)
    (ho : w2.ownsRow lo 24 1 v' (xss.length + 1) (us ++ [u])) (hg : w1.grownBy w2 v.ownBlock) (hat : v'.ownBlock = v.ownBlock ∨ v'.ownBlock = some w1.heap.size) : OwU w2 lo w2.heap.size v' (us ++ [u]) (xss ++ [ys]) := by
  have hs1 := hB.size
  have hs2 := hg.size
  have hl := h.len
  have hvb : ∀ k, v.ownBlock = some k → k < hi := h.top
  refine ⟨by simp [hl], by simpa using ho, fun k hk => (ho.lt k hk).2, ?_, ?_, ?_⟩
  · intro i hi'
    simp at hi'
    rw [ux_append, gxx_append, hl]
    split
    · rename_i hlt
      refine Ow.wide (((h.each i hlt).later hB).kept hg ?_) (Nat.le_refl _) (by omega)
      cases hk : v.ownBlock with
      | none => cases (ux us i).ownBlock <;> simp
      | some k => exact .inr (h.off i k hlt hk)
    · obtain rfl : i = xss.length := by omega
      rw [Nat.sub_self]
      show Ow w2 lo w2.heap.size u ys
      refine Ow.wide (hu.kept hg ?_) hlo (by omega)
      cases hk : v.ownBlock with
      | none => cases u.ownBlock <;> simp
      | some k =>
        right; intro e
        have := (hu.low e).1
        have := hvb k hk
        omega
  · intro i j k hij hj hk
    simp at hj
    rw [ux_append, hl, if_pos (by omega)] at hk
    rw [ux_append, hl]
    split
    · rename_i hlt; exact h.apart i j k hij hlt hk
    · obtain rfl : j = xss.length := by omega
      rw [Nat.sub_self]
      show u.ownBlock ≠ some k
      intro e
      have := (hu.low e).1
      have := ((h.each i (by omega)).low hk).2.1
      omega
  · intro i k hi' hk
    simp at hi'
    rw [ux_append, hl]
    split
    · rename_i hlt
      rcases hat with e | e
      · exact h.off i k hlt (by rw [← e]; exact hk)
      · intro e2
        have := ((h.each i hlt).low e2).2.1
        rw [e] at hk; simp at hk; omega
    · obtain rfl : i = xss.length := by omega
      rw [Nat.sub_self]
      show u.ownBlock ≠ some k
      intro e2
      have h3 := hu.low e2
      rcases hat with e | e
      · have := hvb k (by rw [← e]; exact hk); omega
      · rw [e] at hk; simp at hk; omega
/-- A row stored at a place of the row of rows. -/
theorem OwU.set {w1 : World} {g n cap i : Nat} {u : Value} {ys : List Int} (h : OwU w lo hi (.slice (some ⟨g, 0, none⟩) n cap) us xss) (hn : n = xss.length) (hhi : hi ≤ w.heap.size) (hlo : lo ≤ w.heap.size) (hB : Below w.heap.size w w1) (hu : Ow w1 w.heap.size w1.heap.size u ys)
    (hi' : i < n) : OwU (w1.setCell ⟨g, i, none⟩ u) lo w1.heap.size (.slice (some ⟨g, 0, none⟩) n cap) (us.set i u) (xss.set i ys) := by
  subst hn
  have hs1 := hB.size
  have hl := h.len
  have hgh : g < hi := h.top g rfl
  have hrow1 := own_keep h.row h.top (Chg.of_below hB) (.inr (Nat.zero_le _))
  have hst := hrow1.stored i u
  refine ⟨by simp [hl], by simpa using hst.1, fun k hk => by simp [Value.ownBlock] at hk; omega, ?_, ?_, ?_⟩
  · intro j hj
    simp at hj
    rw [ux_set _ _ _ _ (by omega), gxx_set _ _ _ _ hi']
    split
    · refine Ow.wide (hu.kept hst.2 ?_) hlo (by simp)
      right; intro e
      have := (hu.low e).1
      omega
    · exact Ow.wide (((h.each j hj).later hB).kept hst.2 (.inr (h.off j g hj rfl))) (Nat.le_refl _) (by omega)
  · intro a b k hab hb hk
    simp at hb
    rw [ux_set _ _ _ _ (by omega)] at hk ⊢
    by_cases e1 : i = a
    · rw [if_pos e1] at hk
      rw [if_neg (by omega)]
      intro e2
      have := (hu.low hk).1
      have := ((h.each b hb).low e2).2.1
      omega
    · rw [if_neg e1] at hk
      by_cases e2 : i = b
      · rw [if_pos e2]
        intro e3
        have := (hu.low e3).1
        have := ((h.each a (by omega)).low hk).2.1
        omega
      · rw [if_neg e2]; exact h.apart a b k hab hb hk
  · intro j k hj hk
    simp at hj
    rw [ux_set _ _ _ _ (by omega)]
    split
    · intro e
      have := (hu.low e).1
      have := h.top k hk
      omega
    · exact h.off j k hj hk
/-- A row of the row of rows has turned. -/
theorem OwU.turn {i : Nat} {ys : List Int} (h : OwU w lo hi v us xss) (hi' : i < xss.length) (hg : w.grownBy w' (ux us i).ownBlock) (hr : Ow w' lo hi (ux us i) ys) : OwU w' lo hi v us (xss.set i ys) := by
  have hl := h.len
  refine ⟨by simp [hl], ?_, h.top, ?_, fun a b k hab hb hk => h.apart a b k hab (by simpa using hb) hk, fun a k ha hk => h.off a k (by simpa using ha) hk⟩
  · rw [List.length_set]
    refine h.row.kept hg ?_
    cases hk : v.ownBlock with
    | none => exact .inl rfl
    | some k => exact .inr fun e => h.off i k hi' hk e.symm
  · intro j hj
    simp at hj
    rw [gxx_set _ _ _ _ hi']
    split
    · rename_i e; rw [← e]; exact hr
    · rename_i e
      refine (h.each j hj).kept hg ?_
      cases hk : (ux us j).ownBlock with
      | none => exact .inl rfl
      | some k =>
        right
        intro e2
        rcases Nat.lt_or_ge i j with hlt | hge
        · exact h.apart i j k hlt hj e2.symm hk
        · exact h.apart j i k (by omega) hi' hk e2.symm
end
theorem infoRow : (Try.prog.info? 24).map (fun i => (i.zero, i.size, i.bytes)) = some (some (.slice none 0 0), 1, 24) := by kernel_rfl
/-- 'rows = append(rows, row)'. -/
theorem wp_append_row {w : World} {ops : Array Oper} {rest : List Oper} {o : Oper} {a : Act} {Q : Exit → Act → World → Prop} (hgd : o.guard = none) (s x : Operand)
    (ho : o.op = .call { callee := .builtin .append, args := #[s, x], argTypes := #[26, 26] })
    (lo : Nat) (v : Value) (n : Nat) (us : List Value) (hs : a.eval s = v) (hown : w.ownsRow lo 24 1 v n us)
    (g : Nat) (A : Option Addr) (m cc c : Nat) (hx : a.eval x = .slice (some ⟨g, 0, none⟩) 1 c) (hc : w.cell? ⟨g, 0, none⟩ = some (.slice A m cc)) (hn : n < 1000000000000) (hbase : lo ≤ w.heap.size)
    (h : ∀ v' w', w'.ownsRow lo 24 1 v' (n + 1) (us ++ [.slice A m cc]) → w.grownBy w' v.ownBlock → (v'.ownBlock = v.ownBlock ∨ v'.ownBlock = some w.heap.size) → wpList Try.prog ops Q rest (a.put o.dst v') w') : wpList Try.prog ops Q (o :: rest) a w := by
  obtain ⟨i0, hi, hz0, hz1, hz2⟩ := info_parts infoRow
  refine wpList_append_own_at (P := Try.prog) w hgd s x 26 ho lo 24 i0 (.slice none 0 0) 1 24 Try.underlying26 hi hz0 hz1 hz2 rfl (by decide) v n _ hs hown ⟨g, 0, none⟩ 1 c [.slice A m cc] hx rfl ?_ ?_ (by unfold maxLen; omega) (by omega) hbase ?_
  · intro j u hj
    match j, hj with
    | 0, hj => simp at hj; subst hj; simpa [Addr.add] using hc
  · intro u hu; simp at hu; subst hu; rfl
  · intro v' w' h1 h2 _ h4
    exact h v' w' h1 h2 h4
end K
end Go.Proofs.Ytogkblncdpbhnaa
