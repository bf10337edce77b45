/-
  WORDS FOR MEMORY: rows appended to rows; a list whose capacity has been cut.
-/
import Derived.Test.YtcnoaclijhcckaaKitT
namespace Go.Proofs.Ytcnoaclijhcckaa
open Go.RowKit Go.ChangeShapes Go.WideShapes Go.Joins Go.Deep
set_option linter.unusedVariables false
namespace K
open Pl
/-- Rows behind rows. -/
theorem OwU.many {w w1 w2 : World} {lo hi : Nat} {v v' v2 : Value} {us us2 : List Value} {xss yss : List (List Int)} (h : OwU w lo hi v us xss) (hhi : hi ≤ w.heap.size) (hlo : lo ≤ w.heap.size) (hB : Below w.heap.size w w1) (hu : OwU w1 w.heap.size w1.heap.size v2 us2 yss)
    (ho : w2.ownsRow lo 24 1 v' (xss.length + yss.length) (us ++ us2)) (hg : w1.grownBy w2 v.ownBlock) (hat : v'.ownBlock = v.ownBlock ∨ v'.ownBlock = some w1.heap.size) : OwU w2 lo w2.heap.size v' (us ++ us2) (xss ++ yss) := by
  have hs1 := hB.size
  have hs2 := hg.size
  have hl := h.len
  have hl2 := hu.len
  have hvb : ∀ k, v.ownBlock = some k → k < hi := h.top
  refine ⟨by simp [hl, hl2], by simpa using ho, fun k hk => (ho.lt k hk).2, ?_, ?_, ?_⟩
  · intro i hi'
    simp at hi'
    rw [ux_append, gxx_append, hl]
    split
    · rename_i hlt
      refine Ow.wide (((h.each i hlt).later hB).kept hg ?_) (Nat.le_refl _) (by omega)
      cases hk : v.ownBlock with
      | none => cases (ux us i).ownBlock <;> simp
      | some k => exact .inr (h.off i k hlt hk)
    · rename_i hge
      refine Ow.wide ((hu.each (i - xss.length) (by omega)).kept hg ?_) hlo (by omega)
      cases hk : v.ownBlock with
      | none => cases (ux us2 (i - xss.length)).ownBlock <;> simp
      | some k =>
        right; intro e
        have := ((hu.each (i - xss.length) (by omega)).low e).1
        have := hvb k hk
        omega
  · intro i j k hij hj hk
    simp at hj
    rw [ux_append, hl] at hk ⊢
    by_cases hlt : j < xss.length
    · rw [if_pos (by omega)] at hk
      rw [if_pos hlt]
      exact h.apart i j k hij hlt hk
    · rw [if_neg hlt]
      by_cases hlt2 : i < xss.length
      · rw [if_pos hlt2] at hk
        intro e
        have := ((hu.each (j - xss.length) (by omega)).low e).1
        have := ((h.each i hlt2).low hk).2.1
        omega
      · rw [if_neg hlt2] at hk
        exact hu.apart (i - xss.length) (j - xss.length) k (by omega) (by omega) hk
  · intro i k hi' hk
    simp at hi'
    rw [ux_append, hl]
    split
    · rename_i hlt
      rcases hat with e | e
      · exact h.off i k hlt (by rw [← e]; exact hk)
      · intro e2
        have := ((h.each i hlt).low e2).2.1
        rw [e] at hk; simp at hk; omega
    · rename_i hge
      intro e2
      have h3 := (hu.each (i - xss.length) (by omega)).low e2
      rcases hat with e | e
      · have := hvb k (by rw [← e]; exact hk); omega
      · rw [e] at hk; simp at hk; omega
/-- 'rows = append(rows, more...)'. -/
theorem wp_append_rows {w : World} {ops : Array Oper} {rest : List Oper} {o : Oper} {a : Act} {Q : Exit → Act → World → Prop} (hgd : o.guard = none) (s x : Operand)
    (ho : o.op = .call { callee := .builtin .append, args := #[s, x], argTypes := #[28, 28] })
    (lo : Nat) (v : Value) (n : Nat) (us : List Value) (hs : a.eval s = v) (hown : w.ownsRow lo 24 1 v n us)
    (ad : Addr) (m c : Nat) (us2 : List Value) (yss : List (List Int)) (hx : a.eval x = .slice (some ad) m c) (hl : us2.length = m) (hc : ∀ j, j < m → w.cell? (ad.add j) = some (ux us2 j)) (h1 : ∀ u ∈ us2, u.oneCell' = true) (hn : n + m < 1000000000000) (hbase : lo ≤ w.heap.size)
    (h : ∀ v' w', w'.ownsRow lo 24 1 v' (n + m) (us ++ us2) → w.grownBy w' v.ownBlock → (v'.ownBlock = v.ownBlock ∨ v'.ownBlock = some w.heap.size) → wpList Try.prog ops Q rest (a.put o.dst v') w') : wpList Try.prog ops Q (o :: rest) a w := by
  obtain ⟨i0, hi, hz0, hz1, hz2⟩ := info_parts infoRow
  refine wpList_append_own_at (P := Try.prog) w hgd s x 28 ho lo 24 i0 (.slice none 0 0) 1 24 Try.underlying28 hi hz0 hz1 hz2 rfl (by decide) v n _ hs hown ad m c us2 hx (by simp [hl]) ?_ h1 (by unfold maxLen; omega) (by omega) hbase ?_
  · intro j u hj
    obtain ⟨hj1, hj2⟩ := List.getElem?_eq_some_iff.1 hj
    rw [hc j (by omega), ux_eq us2 j hj1, hj2]
  · intro v' w' h1 h2 _ h4
    exact h v' w' h1 h2 h4
theorem OwU.oneCells {w : World} {lo hi : Nat} {v : Value} {us : List Value} {xss : List (List Int)} (h : OwU w lo hi v us xss) : ∀ u ∈ us, u.oneCell' = true := by
  intro u hu
  obtain ⟨i, hi', rfl⟩ := List.getElem_of_mem hu
  have hl := h.len
  obtain ⟨A, c, e, _⟩ := (h.each i (by omega)).shape
  rw [← ux_eq us i hi', e]; rfl
/-- A list of the call's own, whose capacity may have been cut: it is read and written, not appended to. -/
def OwC (w : World) (lo hi : Nat) (v : Value) (xs : List Int) : Prop := ∃ A n c c', v = .slice A n c ∧ n ≤ c ∧ c ≤ c' ∧ Ow w lo hi (.slice A n c') xs
section
variable {w w' : World} {lo hi lo' hi' : Nat} {v : Value} {xs : List Int}
theorem OwC.of_ow (h : Ow w lo hi v xs) : OwC w lo hi v xs := by
  obtain ⟨A, c, rfl, h1, h2⟩ := h.shape
  exact ⟨A, _, c, c, rfl, h1, Nat.le_refl _, h⟩
theorem OwC.keep (h : OwC w lo hi v xs) (hc : Chg lo' hi' w w') (hd : hi ≤ lo' ∨ hi' ≤ lo) : OwC w' lo hi v xs := by
  obtain ⟨A, n, c, c', e, h1, h2, h3⟩ := h
  exact ⟨A, n, c, c', e, h1, h2, h3.keep hc hd⟩
theorem OwC.later (h : OwC w lo hi v xs) (hb : Below w.heap.size w w') : OwC w' lo hi v xs := h.keep (Chg.of_below hb) (.inr (Nat.zero_le _))
theorem OwC.alloc (h : OwC w lo hi v xs) (o : Obj) : OwC (w.alloc o) lo hi v xs := by
  obtain ⟨A, n, c, c', e, h1, h2, h3⟩ := h
  exact ⟨A, n, c, c', e, h1, h2, h3.alloc o⟩
theorem OwC.wide (h : OwC w lo hi v xs) (h1 : lo' ≤ lo) (h2 : hi ≤ hi') : OwC w lo' hi' v xs := by
  obtain ⟨A, n, c, c', e, h3, h4, h5⟩ := h
  exact ⟨A, n, c, c', e, h3, h4, h5.wide h1 h2⟩
theorem OwC.is (h : OwC w lo hi v xs) : Is w w.heap.size v xs := by
  obtain ⟨A, n, c, c', rfl, h1, h2, h3⟩ := h
  obtain ⟨A2, n2, c2, e, g1, g2, g3⟩ := h3.is
  cases e
  exact ⟨A, n, c, rfl, h1, by omega, g3⟩
theorem OwC.isB (h : OwC w lo hi v xs) : Is w hi v xs := by
  obtain ⟨A, n, c, c', rfl, h1, h2, h3⟩ := h
  obtain ⟨A2, n2, c2, e, g1, g2, g3⟩ := h3.isB
  cases e
  exact ⟨A, n, c, rfl, h1, by omega, g3⟩
end
end K
end Go.Proofs.Ytcnoaclijhcckaa
