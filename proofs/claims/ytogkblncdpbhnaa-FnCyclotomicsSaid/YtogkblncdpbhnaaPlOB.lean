/-
  PLAIN LAWS, CHAPTER 2: the factors of a polynomial that is cyclotomic in sum.
  PLAIN LAWS, CHAPTER 2: totients, by the kernel.
-/
import Derived.Test.YtogkblncdpbhnaaPlOy
import Derived.Test.YtogkblncdpbhnaaPlD
namespace Go.Proofs.Ytogkblncdpbhnaa.Pl
open Go
set_option linter.unusedVariables false
/-! ### repeated division -/
theorem qOut_keep (q : List Int) : ∀ (k : Nat) (rest out : List Int) (j : Nat), k ≤ j → k ≤ out.length → gx (qOut q k rest out).2 j = gx out j
  | 0, _, _, _, _, _ => rfl
  | k + 1, rest, out, j, hj, hl => by
    show gx (qOut q k _ (out.set k _)).2 j = _
    rw [qOut_keep q k _ _ j (by omega) (by rw [List.length_set]; omega), gx_set _ _ _ _ (by omega), if_neg (by omega)]
theorem qwF_short {p q : List Int} (h : p.length < q.length) : qwF p q = ([], false) := by unfold qwF; rw [if_pos h]
theorem qwF_len {p q : List Int} (h : (qwF p q).2 = true) : q.length ≤ p.length ∧ (qwF p q).1.length = p.length - q.length + 1 := by
  by_cases hl : p.length < q.length
  · rw [qwF_short hl] at h; cases h
  · refine ⟨by omega, ?_⟩
    unfold qwF; rw [if_neg hl]
    show (qOut q _ p _).2.length = _
    rw [(qOut_len q _ p _).2, List.length_replicate]
theorem qwF_last {p q : List Int} (h : (qwF p q).2 = true) (hq : 1 ≤ q.length) : gx (qwF p q).1 ((qwF p q).1.length - 1) = gx p (p.length - 1) := by
  obtain ⟨h1, h2⟩ := qwF_len h
  rw [h2, Nat.add_sub_cancel]
  have hl : ¬ p.length < q.length := by omega
  unfold qwF; rw [if_neg hl]
  show gx (qOut q (p.length - q.length + 1) p (List.replicate (p.length - q.length + 1) 0)).2 (p.length - q.length) = _
  generalize hk : p.length - q.length = k
  show gx (qOut q k (qIn _ k q q.length 0 p) ((List.replicate (k + 1) 0).set k (gx p (k + (q.length - 1))))).2 k = _
  rw [qOut_keep q k _ _ k (Nat.le_refl _) (by simp), gx_set _ _ _ _ (by simp), if_pos rfl, show k + (q.length - 1) = p.length - 1 by omega]
/-- What is left behind all divisions by q, and how many went. -/
def dvR : Nat → List Int → List Int → List Int × Nat
  | 0, _, rest => (rest, 0)
  | f + 1, q, rest => if (qwF rest q).2 = true then ((dvR f q (qwF rest q).1).1, (dvR f q (qwF rest q).1).2 + 1) else (rest, 0)
theorem dvR_yes {f : Nat} {q rest : List Int} (h : (qwF rest q).2 = true) : dvR (f + 1) q rest = ((dvR f q (qwF rest q).1).1, (dvR f q (qwF rest q).1).2 + 1) := by
  show (if (qwF rest q).2 = true then _ else _) = _
  rw [if_pos h]
theorem dvR_no {f : Nat} {q rest : List Int} (h : (qwF rest q).2 = false) : dvR f q rest = (rest, 0) := by
  cases f with
  | zero => rfl
  | succ f => show (if (qwF rest q).2 = true then _ else _) = _; rw [if_neg (by rw [h]; decide)]
theorem dvR_facts {q : List Int} (hq : 2 ≤ q.length) : ∀ (f : Nat) (rest : List Int), 1 ≤ rest.length → (dvR f q rest).2 + (dvR f q rest).1.length ≤ rest.length ∧ 1 ≤ (dvR f q rest).1.length ∧ gx (dvR f q rest).1 ((dvR f q rest).1.length - 1) = gx rest (rest.length - 1)
  | 0, rest, h => ⟨by show 0 + rest.length ≤ _; omega, h, rfl⟩
  | f + 1, rest, h => by
    cases hb : (qwF rest q).2 with
    | true =>
      obtain ⟨h1, h2⟩ := qwF_len hb
      have h3 := qwF_last hb (by omega)
      have ih := dvR_facts hq f (qwF rest q).1 (by omega)
      rw [dvR_yes hb]
      refine ⟨?_, ih.2.1, ih.2.2.trans h3⟩
      show (dvR f q (qwF rest q).1).2 + 1 + (dvR f q (qwF rest q).1).1.length ≤ _
      have := ih.1
      omega
    | false => rw [dvR_no hb]; exact ⟨by show 0 + rest.length ≤ _; omega, h, rfl⟩
/-! ### all factors -/
noncomputable def cfD (n : Nat) (rest : List Int) : List Int × Nat := if totN n < rest.length then dvR 60 (phi n) rest else (rest, 0)
def cfA (n e : Nat) (rows : List (Nat × Nat)) : List (Nat × Nat) := if e = 0 then rows else rows ++ [(n, e)]
noncomputable def cfR : Nat → Nat → List Int → List (Nat × Nat) → List Int × List (Nat × Nat)
  | 0, _, rest, rows => (rest, rows)
  | f + 1, n, rest, rows => if rest.length ≤ 1 then (rest, rows) else cfR f (n + 1) (cfD n rest).1 (cfA n (cfD n rest).2 rows)
theorem cfR_stop {f n : Nat} {rest : List Int} {rows : List (Nat × Nat)} (h : rest.length ≤ 1) : cfR f n rest rows = (rest, rows) := by
  cases f with
  | zero => rfl
  | succ f => show (if rest.length ≤ 1 then _ else _) = _; rw [if_pos h]
theorem cfR_go {f n : Nat} {rest : List Int} {rows : List (Nat × Nat)} (h : ¬ rest.length ≤ 1) : cfR (f + 1) n rest rows = cfR f (n + 1) (cfD n rest).1 (cfA n (cfD n rest).2 rows) := by
  show (if rest.length ≤ 1 then _ else _) = _; rw [if_neg h]
theorem cfR_add : ∀ (a b n : Nat) (rest : List Int) (rows : List (Nat × Nat)), cfR (a + b) n rest rows = cfR b (n + a) (cfR a n rest rows).1 (cfR a n rest rows).2
  | 0, b, n, rest, rows => by rw [Nat.zero_add]; rfl
  | a + 1, b, n, rest, rows => by
    rw [show a + 1 + b = (a + b) + 1 by omega]
    by_cases h : rest.length ≤ 1
    · rw [cfR_stop h, cfR_stop h, cfR_stop h]
    · rw [cfR_go h, cfR_go h, cfR_add a b, show n + 1 + a = n + (a + 1) by omega]
/-- The facts that stay. -/
structure CfI (p rest : List Int) (rows : List (Nat × Nat)) : Prop where
  len : rest.length + rows.length ≤ p.length
  pos : 1 ≤ rest.length
  last : gx rest (rest.length - 1) = gx p (p.length - 1)
theorem CfI.step {p rest : List Int} {rows : List (Nat × Nat)} (h : CfI p rest rows) {n : Nat} (hn : 1 ≤ totN n) : CfI p (cfD n rest).1 (cfA n (cfD n rest).2 rows) := by
  unfold cfD
  split
  · have hq : 2 ≤ (phi n).length := by rw [phi_len]; omega
    obtain ⟨h1, h2, h3⟩ := dvR_facts hq 60 rest h.pos
    have := h.len
    refine ⟨?_, h2, h3.trans h.last⟩
    unfold cfA
    split
    · omega
    · rw [List.length_append]; simp; omega
  · unfold cfA; rw [if_pos rfl]; exact h
end Go.Proofs.Ytogkblncdpbhnaa.Pl
namespace Go.Proofs.Ytogkblncdpbhnaa.Pl
open Go
set_option linter.unusedVariables false
/-- The reference's totient, step by step. -/
def t2 : Nat → Nat → Nat → Nat → Option Nat
  | 0, _, out, rest => bif Nat.ble rest 1 then some out else none
  | f + 1, p, out, rest => bif Nat.ble rest 1 then some out else bif Nat.beq (rest % p) 0 then t2 f (p + 1) (out / p * (p - 1)) (expG 12 p rest).1 else t2 f (p + 1) out rest
def okN (o : Option Nat) (k : Nat) : Bool := match o with | some a => Nat.beq a k && Nat.ble 1 k | none => false
def chkT (lo : Nat) : Nat → Bool
  | 0 => true
  | k + 1 => cond (okN (t2 1000 2 (lo + k) (lo + k)) (totN (lo + k))) (chkT lo k) false
def chkU (lo : Nat) : Nat → Bool
  | 0 => true
  | k + 1 => cond (Nat.ble 51 (totN (lo + k))) (chkU lo k) false
theorem chkT_get {lo : Nat} : ∀ {k : Nat}, chkT lo k = true → ∀ j, j < k → t2 1000 2 (lo + j) (lo + j) = some (totN (lo + j)) ∧ 1 ≤ totN (lo + j)
  | 0, _, j, hj => absurd hj (Nat.not_lt_zero _)
  | k + 1, h, j, hj => by
    have h' : cond (okN (t2 1000 2 (lo + k) (lo + k)) (totN (lo + k))) (chkT lo k) false = true := h
    cases h1 : okN (t2 1000 2 (lo + k) (lo + k)) (totN (lo + k)) <;> rw [h1] at h'
    · cases h'
    · rcases Nat.lt_or_eq_of_le (Nat.le_of_lt_succ hj) with hl | rfl
      · exact chkT_get (k := k) h' j hl
      · unfold okN at h1
        split at h1
        · rename_i a e
          rw [Bool.and_eq_true] at h1
          rw [e, Nat.eq_of_beq_eq_true h1.1]
          exact ⟨rfl, Nat.le_of_ble_eq_true h1.2⟩
        · cases h1
theorem chkU_get {lo : Nat} : ∀ {k : Nat}, chkU lo k = true → ∀ j, j < k → 51 ≤ totN (lo + j)
  | 0, _, j, hj => absurd hj (Nat.not_lt_zero _)
  | k + 1, h, j, hj => by
    have h' : cond (Nat.ble 51 (totN (lo + k))) (chkU lo k) false = true := h
    cases h1 : Nat.ble 51 (totN (lo + k)) <;> rw [h1] at h'
    · cases h'
    · rcases Nat.lt_or_eq_of_le (Nat.le_of_lt_succ hj) with hl | rfl
      · exact chkU_get (k := k) h' j hl
      · exact Nat.le_of_ble_eq_true h1
set_option maxRecDepth 100000 in
theorem chkT1 : chkT 1 250 = true := by decide +kernel
set_option maxRecDepth 100000 in
theorem chkT2 : chkT 251 250 = true := by decide +kernel
set_option maxRecDepth 100000 in
theorem chkT3 : chkT 501 250 = true := by decide +kernel
set_option maxRecDepth 100000 in
theorem chkT4 : chkT 751 250 = true := by decide +kernel
set_option maxRecDepth 100000 in
theorem chkU1 : chkU 1001 1000 = true := by decide +kernel
theorem t2_all (n : Nat) (h1 : 1 ≤ n) (h2 : n ≤ 1000) : t2 1000 2 n n = some (totN n) ∧ 1 ≤ totN n := by
  rcases Nat.lt_or_ge n 251 with h | h
  · have := chkT_get chkT1 (n - 1) (by omega); rwa [show 1 + (n - 1) = n by omega] at this
  · rcases Nat.lt_or_ge n 501 with h' | h'
    · have := chkT_get chkT2 (n - 251) (by omega); rwa [show 251 + (n - 251) = n by omega] at this
    · rcases Nat.lt_or_ge n 751 with h3 | h3
      · have := chkT_get chkT3 (n - 501) (by omega); rwa [show 501 + (n - 501) = n by omega] at this
      · have := chkT_get chkT4 (n - 751) (by omega); rwa [show 751 + (n - 751) = n by omega] at this
theorem totN_big (n : Nat) (h1 : 1001 ≤ n) (h2 : n ≤ 2000) : 51 ≤ totN n := by
  have := chkU_get chkU1 (n - 1001) (by omega); rwa [show 1001 + (n - 1001) = n by omega] at this
theorem totN_pos (n : Nat) (h1 : 1 ≤ n) (h2 : n ≤ 2000) : 1 ≤ totN n := by
  rcases Nat.lt_or_ge n 1001 with h | h
  · exact (t2_all n h1 (by omega)).2
  · have := totN_big n h h2; omega
/-- Behind 1000 nothing is found. -/
theorem cfR_big : ∀ (f n : Nat) (rest : List Int) (rows : List (Nat × Nat)), 1001 ≤ n → n + f ≤ 2001 → rest.length ≤ 51 → cfR f n rest rows = (rest, rows)
  | 0, _, _, _, _, _, _ => rfl
  | f + 1, n, rest, rows, h1, h2, h3 => by
    by_cases h : rest.length ≤ 1
    · exact cfR_stop h
    · have e : cfD n rest = (rest, 0) := by
        unfold cfD; rw [if_neg (by have := totN_big n h1 (by omega); omega)]
      rw [cfR_go h, e]
      exact cfR_big f (n + 1) rest rows (by omega) (by omega) h3
theorem CfI.many {p : List Int} : ∀ (f n : Nat) (rest : List Int) (rows : List (Nat × Nat)), CfI p rest rows → 1 ≤ n → n + f ≤ 2001 → CfI p (cfR f n rest rows).1 (cfR f n rest rows).2
  | 0, _, _, _, h, _, _ => h
  | f + 1, n, rest, rows, h, h1, h2 => by
    by_cases hr : rest.length ≤ 1
    · rw [cfR_stop hr]; exact h
    · rw [cfR_go hr]
      exact CfI.many f (n + 1) _ _ (h.step (totN_pos n h1 (by omega))) (by omega) (by omega)
theorem CfI.start {p : List Int} (h : 1 ≤ p.length) : CfI p p [] := ⟨by simp, h, rfl⟩
theorem cfR_two {p : List Int} (h : 1 ≤ p.length) (h2 : p.length ≤ 51) : cfR 2000 1 p [] = cfR 1000 1 p [] := by
  rw [show 2000 = 1000 + 1000 from rfl, cfR_add]
  have := CfI.many 1000 1 p [] (CfI.start h) (Nat.le_refl _) (by omega)
  rw [cfR_big 1000 _ _ _ (by omega) (by omega) (by have := this.len; omega)]
end Go.Proofs.Ytogkblncdpbhnaa.Pl
