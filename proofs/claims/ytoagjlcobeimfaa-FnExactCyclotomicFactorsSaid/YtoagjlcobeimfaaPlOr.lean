/-
  PLAIN LAWS, CHAPTER 2: the factors of a polynomial that is cyclotomic in sum.
-/
import Derived.Test.YtoagjlcobeimfaaPlOy
import Derived.Test.YtoagjlcobeimfaaPlD
namespace Go.Proofs.Ytoagjlcobeimfaa.Pl
open Go
set_option linter.unusedVariables false
/-! ### repeated division -/
theorem qOut_keep (q : List Int) : ∀ (k : Nat) (rest out : List Int) (j : Nat), k ≤ j → k ≤ out.length → gx (qOut q k rest out).2 j = gx out j
  | 0, _, _, _, _, _ => rfl
  | k + 1, rest, out, j, hj, hl => by
    show gx (qOut q k _ (out.set k _)).2 j = _
    rw [qOut_keep q k _ _ j (by omega) (by rw [List.length_set]; omega), gx_set _ _ _ _ (by omega), if_neg (by omega)]
theorem qwF_short {p q : List Int} (h : p.length < q.length) : qwF p q = ([], false) := by unfold qwF; rw [if_pos h]
theorem qwF_len {p q : List Int} (h : (qwF p q).2 = true) : q.length ≤ p.length ∧ (qwF p q).1.length = p.length - q.length + 1 := by
  by_cases hl : p.length < q.length
  · rw [qwF_short hl] at h; cases h
  · refine ⟨by omega, ?_⟩
    unfold qwF; rw [if_neg hl]
    show (qOut q _ p _).2.length = _
    rw [(qOut_len q _ p _).2, List.length_replicate]
theorem qwF_last {p q : List Int} (h : (qwF p q).2 = true) (hq : 1 ≤ q.length) : gx (qwF p q).1 ((qwF p q).1.length - 1) = gx p (p.length - 1) := by
  obtain ⟨h1, h2⟩ := qwF_len h
  rw [h2, Nat.add_sub_cancel]
  have hl : ¬ p.length < q.length := by omega
  unfold qwF; rw [if_neg hl]
  show gx (qOut q (p.length - q.length + 1) p (List.replicate (p.length - q.length + 1) 0)).2 (p.length - q.length) = _
  generalize hk : p.length - q.length = k
  show gx (qOut q k (qIn _ k q q.length 0 p) ((List.replicate (k + 1) 0).set k (gx p (k + (q.length - 1))))).2 k = _
  rw [qOut_keep q k _ _ k (Nat.le_refl _) (by simp), gx_set _ _ _ _ (by simp), if_pos rfl, show k + (q.length - 1) = p.length - 1 by omega]
/-- What is left behind all divisions by q, and how many went. -/
def dvR : Nat → List Int → List Int → List Int × Nat
  | 0, _, rest => (rest, 0)
  | f + 1, q, rest => if (qwF rest q).2 = true then ((dvR f q (qwF rest q).1).1, (dvR f q (qwF rest q).1).2 + 1) else (rest, 0)
theorem dvR_yes {f : Nat} {q rest : List Int} (h : (qwF rest q).2 = true) : dvR (f + 1) q rest = ((dvR f q (qwF rest q).1).1, (dvR f q (qwF rest q).1).2 + 1) := by
  show (if (qwF rest q).2 = true then _ else _) = _
  rw [if_pos h]
theorem dvR_no {f : Nat} {q rest : List Int} (h : (qwF rest q).2 = false) : dvR f q rest = (rest, 0) := by
  cases f with
  | zero => rfl
  | succ f => show (if (qwF rest q).2 = true then _ else _) = _; rw [if_neg (by rw [h]; decide)]
theorem dvR_facts {q : List Int} (hq : 2 ≤ q.length) : ∀ (f : Nat) (rest : List Int), 1 ≤ rest.length → (dvR f q rest).2 + (dvR f q rest).1.length ≤ rest.length ∧ 1 ≤ (dvR f q rest).1.length ∧ gx (dvR f q rest).1 ((dvR f q rest).1.length - 1) = gx rest (rest.length - 1)
  | 0, rest, h => ⟨by show 0 + rest.length ≤ _; omega, h, rfl⟩
  | f + 1, rest, h => by
    cases hb : (qwF rest q).2 with
    | true =>
      obtain ⟨h1, h2⟩ := qwF_len hb
      have h3 := qwF_last hb (by omega)
      have ih := dvR_facts hq f (qwF rest q).1 (by omega)
      rw [dvR_yes hb]
      refine ⟨?_, ih.2.1, ih.2.2.trans h3⟩
      show (dvR f q (qwF rest q).1).2 + 1 + (dvR f q (qwF rest q).1).1.length ≤ _
      have := ih.1
      omega
    | false => rw [dvR_no hb]; exact ⟨by show 0 + rest.length ≤ _; omega, h, rfl⟩
/-! ### all factors -/
noncomputable def cfD (n : Nat) (rest : List Int) : List Int × Nat := if totN n < rest.length then dvR 60 (phi n) rest else (rest, 0)
def cfA (n e : Nat) (rows : List (Nat × Nat)) : List (Nat × Nat) := if e = 0 then rows else rows ++ [(n, e)]
noncomputable def cfR : Nat → Nat → List Int → List (Nat × Nat) → List Int × List (Nat × Nat)
  | 0, _, rest, rows => (rest, rows)
  | f + 1, n, rest, rows => if rest.length ≤ 1 then (rest, rows) else cfR f (n + 1) (cfD n rest).1 (cfA n (cfD n rest).2 rows)
theorem cfR_stop {f n : Nat} {rest : List Int} {rows : List (Nat × Nat)} (h : rest.length ≤ 1) : cfR f n rest rows = (rest, rows) := by
  cases f with
  | zero => rfl
  | succ f => show (if rest.length ≤ 1 then _ else _) = _; rw [if_pos h]
theorem cfR_go {f n : Nat} {rest : List Int} {rows : List (Nat × Nat)} (h : ¬ rest.length ≤ 1) : cfR (f + 1) n rest rows = cfR f (n + 1) (cfD n rest).1 (cfA n (cfD n rest).2 rows) := by
  show (if rest.length ≤ 1 then _ else _) = _; rw [if_neg h]
theorem cfR_add : ∀ (a b n : Nat) (rest : List Int) (rows : List (Nat × Nat)), cfR (a + b) n rest rows = cfR b (n + a) (cfR a n rest rows).1 (cfR a n rest rows).2
  | 0, b, n, rest, rows => by rw [Nat.zero_add]; rfl
  | a + 1, b, n, rest, rows => by
    rw [show a + 1 + b = (a + b) + 1 by omega]
    by_cases h : rest.length ≤ 1
    · rw [cfR_stop h, cfR_stop h, cfR_stop h]
    · rw [cfR_go h, cfR_go h, cfR_add a b, show n + 1 + a = n + (a + 1) by omega]
/-- The facts that stay. -/
structure CfI (p rest : List Int) (rows : List (Nat × Nat)) : Prop where
  len : rest.length + rows.length ≤ p.length
  pos : 1 ≤ rest.length
  last : gx rest (rest.length - 1) = gx p (p.length - 1)
theorem CfI.step {p rest : List Int} {rows : List (Nat × Nat)} (h : CfI p rest rows) {n : Nat} (hn : 1 ≤ totN n) : CfI p (cfD n rest).1 (cfA n (cfD n rest).2 rows) := by
  unfold cfD
  split
  · have hq : 2 ≤ (phi n).length := by rw [phi_len]; omega
    obtain ⟨h1, h2, h3⟩ := dvR_facts hq 60 rest h.pos
    have := h.len
    refine ⟨?_, h2, h3.trans h.last⟩
    unfold cfA
    split
    · omega
    · rw [List.length_append]; simp; omega
  · unfold cfA; rw [if_pos rfl]; exact h
end Go.Proofs.Ytoagjlcobeimfaa.Pl
