/-
  PLAIN LAWS, CHAPTER 2: quotients, step by step; no program in sight.
-/
import Derived.Test.YtogkblncdpbhnaaPlC
namespace Go.Proofs.Ytogkblncdpbhnaa.Pl
set_option linter.unusedVariables false
/-- t t^k q off the rest, the coefficients of q from i on, r of them. -/
def dvIn (t : Int) (k : Nat) (q : List Int) : Nat → Nat → List Int → Option (List Int)
  | 0, _, rest => some rest
  | r + 1, i, rest => match plusPr (gx rest (k + i)) (-t) (gx q i) with
    | none => none
    | some s => dvIn t k q r (i + 1) (rest.set (k + i) s)
/-- The same over the places that are not nought alone. -/
def dvPl (t : Int) (k : Nat) (q : List Int) : List Nat → List Int → Option (List Int)
  | [], rest => some rest
  | i :: is, rest => match plusPr (gx rest (k + i)) (-t) (gx q i) with
    | none => none
    | some s => dvPl t k q is (rest.set (k + i) s)
/-- The places of q from i on, r of them, that are not nought. -/
def plc (q : List Int) (i r : Nat) : List Nat := (List.range' i r).filter fun j => gx q j != 0
theorem set_gx (xs : List Int) (j : Nat) : xs.set j (gx xs j) = xs := by
  apply List.ext_getElem (by simp)
  intro i h1 h2
  rw [List.getElem_set]
  split
  · rename_i e; subst e; exact gx_eq xs j h2
  · rfl
theorem dvIn_pl (t : Int) (k : Nat) (q : List Int) : ∀ (r i : Nat) (rest : List Int), dvIn t k q r i rest = dvPl t k q (plc q i r) rest := by
  intro r
  induction r with
  | zero => intro i rest; rfl
  | succ r ih =>
    intro i rest
    unfold plc
    rw [List.range'_succ, List.filter_cons]
    by_cases h : gx q i = 0
    · have e : (gx q i != 0) = false := by simp [h]
      rw [e]
      simp only [Bool.false_eq_true, if_false]
      rw [dvIn, show plusPr (gx rest (k + i)) (-t) (gx q i) = some (gx rest (k + i)) by unfold plusPr; rw [if_pos (.inr h)]]
      simp only
      rw [set_gx]; exact ih (i + 1) rest
    · have e : (gx q i != 0) = true := by simp [h]
      rw [e]
      simp only [if_true]
      rw [dvIn, dvPl]
      cases plusPr (gx rest (k + i)) (-t) (gx q i) with
      | none => rfl
      | some s => exact ih (i + 1) _
/-- What is left to do at places k - 1 down to 0. -/
def dvOut (q : List Int) : Nat → List Int → List Int → List Int × Int
  | 0, rest, out => if trimL rest = [] then (out, 0) else ([], 5)
  | k + 1, rest, out =>
    if (gx rest (k + (q.length - 1))).tmod (gx q (q.length - 1)) ≠ 0 then ([], 5)
    else if (gx rest (k + (q.length - 1))).tdiv (gx q (q.length - 1)) = 0 then dvOut q k rest (out.set k 0)
    else match dvIn ((gx rest (k + (q.length - 1))).tdiv (gx q (q.length - 1))) k q q.length 0 rest with
      | none => ([], 3)
      | some rest' => dvOut q k rest' (out.set k ((gx rest (k + (q.length - 1))).tdiv (gx q (q.length - 1))))
def quoP (p q : List Int) : List Int × Int :=
  if q.length = 0 then ([], 5)
  else if p.length = 0 then ([], 0)
  else if p.length < q.length then ([], 5)
  else dvOut q (p.length - q.length + 1) p (List.replicate (p.length - q.length + 1) 0)
def divP (p q : List Int) : List Int × Int := if isPoly p && isPoly q then quoP p q else ([], 1)
theorem dvOut_len (q : List Int) : ∀ (k : Nat) (rest out : List Int), (dvOut q k rest out).1.length ≤ out.length := by
  intro k
  induction k with
  | zero => intro rest out; rw [dvOut]; split <;> simp
  | succ k ih =>
    intro rest out
    rw [dvOut]
    split
    · simp
    · split
      · have := ih rest (out.set k 0); simpa using this
      · cases dvIn ((gx rest (k + (q.length - 1))).tdiv (gx q (q.length - 1))) k q q.length 0 rest with
        | none => simp
        | some r' => have := ih r' (out.set k ((gx rest (k + (q.length - 1))).tdiv (gx q (q.length - 1)))); simpa using this
theorem divP_len (p q : List Int) : (divP p q).1.length ≤ 1000000000 := by
  unfold divP
  split
  · rename_i h
    simp only [Bool.and_eq_true] at h
    have h1 := (isPoly_true.1 h.1).1
    unfold quoP
    split
    · simp
    · split
      · simp
      · split
        · simp
        · have := dvOut_len q (p.length - q.length + 1) p (List.replicate (p.length - q.length + 1) 0)
          simp at this; omega
  · simp
/-- The step's three ways. -/
theorem dvOut_odd {q rest out : List Int} {k : Nat} (h : (gx rest (k + (q.length - 1))).tmod (gx q (q.length - 1)) ≠ 0) : dvOut q (k + 1) rest out = ([], 5) := by
  rw [dvOut, if_pos h]
theorem dvOut_skip {q rest out : List Int} {k : Nat} (h : (gx rest (k + (q.length - 1))).tmod (gx q (q.length - 1)) = 0) (h0 : (gx rest (k + (q.length - 1))).tdiv (gx q (q.length - 1)) = 0) :
    dvOut q (k + 1) rest out = dvOut q k rest (out.set k 0) := by
  rw [dvOut, if_neg (by simpa using h), if_pos h0]
def dvThen (q : List Int) (k : Nat) (out : List Int) : Option (List Int) → List Int × Int
  | none => ([], 3)
  | some rest' => dvOut q k rest' out
theorem dvOut_go {q rest out : List Int} {k : Nat} (t : Int) (ht : (gx rest (k + (q.length - 1))).tdiv (gx q (q.length - 1)) = t) (h : (gx rest (k + (q.length - 1))).tmod (gx q (q.length - 1)) = 0) (h0 : t ≠ 0) :
    dvOut q (k + 1) rest out = dvThen q k (out.set k t) (dvIn t k q q.length 0 rest) := by
  subst ht
  rw [dvOut, if_neg (by simpa using h), if_neg h0]
  cases dvIn ((gx rest (k + (q.length - 1))).tdiv (gx q (q.length - 1))) k q q.length 0 rest <;> rfl
theorem dvIn_none {t : Int} {k i : Nat} {q : List Int} (r : Nat) (rest : List Int) (h : ppB (gx rest (k + i)) (-t) (gx q i) = false) : dvIn t k q (r + 1) i rest = none := by
  rw [dvIn, pp_none h]
theorem dvIn_some {t : Int} {k i : Nat} {q : List Int} (r : Nat) (rest : List Int) (h : ppB (gx rest (k + i)) (-t) (gx q i) = true) : dvIn t k q (r + 1) i rest = dvIn t k q r (i + 1) (rest.set (k + i) (ppV (gx rest (k + i)) (-t) (gx q i))) := by
  rw [dvIn, pp_some h]
theorem dvPl_none {t : Int} {k i : Nat} {is : List Nat} {q : List Int} (rest : List Int) (h : ppB (gx rest (k + i)) (-t) (gx q i) = false) : dvPl t k q (i :: is) rest = none := by
  rw [dvPl, pp_none h]
theorem dvPl_some {t : Int} {k i : Nat} {is : List Nat} {q : List Int} (rest : List Int) (h : ppB (gx rest (k + i)) (-t) (gx q i) = true) : dvPl t k q (i :: is) rest = dvPl t k q is (rest.set (k + i) (ppV (gx rest (k + i)) (-t) (gx q i))) := by
  rw [dvPl, pp_some h]
theorem plc_step_zero {q : List Int} {i : Nat} (h : gx q i = 0) : plc q 0 (i + 1) = plc q 0 i := by
  unfold plc
  rw [List.range'_concat, List.filter_append]
  simp [h]
theorem plc_step {q : List Int} {i : Nat} (h : gx q i ≠ 0) : plc q 0 (i + 1) = plc q 0 i ++ [i] := by
  unfold plc
  rw [List.range'_concat, List.filter_append]
  simp [h]
theorem plc_mem {q : List Int} {r j : Nat} (h : j ∈ plc q 0 r) : j < r ∧ gx q j ≠ 0 := by
  unfold plc at h
  rw [List.mem_filter] at h
  have := List.mem_range'_1.1 h.1
  exact ⟨by omega, by simpa using h.2⟩
theorem tdiv_coef (c l : Int) (h : -1000000000000 ≤ c ∧ c ≤ 1000000000000) : -1000000000000 ≤ c.tdiv l ∧ c.tdiv l ≤ 1000000000000 := by
  have h1 : (c.tdiv l).natAbs ≤ c.natAbs := by rw [Int.natAbs_tdiv]; exact Nat.div_le_self _ _
  omega
/-- Trimmed to nothing: all are nought. -/
theorem trimL_eq_nil (p : List Int) : trimL p = [] ↔ ∀ j, gx p j = 0 := by
  obtain ⟨k, h1, h2, h3, h4⟩ := trimL_prefix p
  constructor
  · intro h j
    rw [h2] at h
    have hk : k = 0 := by
      have := congrArg List.length h
      rw [List.length_take, List.length_nil] at this; omega
    exact h4 j (by omega)
  · intro h
    rw [h2]
    rcases h3 with h3 | h3
    · rw [h3]; rfl
    · exact absurd (h _) h3
end Go.Proofs.Ytogkblncdpbhnaa.Pl
