/-
  PLAIN LAWS, CHAPTER 2: integer polynomials as lists of coefficients; no program in sight.
-/
import Derived.Test.YtogkblncdpbhnaaPlA
namespace Go.Proofs.Ytogkblncdpbhnaa.Pl
set_option linter.unusedVariables false

def isCoef (n : Int) : Bool := inR n (-1000000000000) 1000000000000
theorem isCoef_true {n : Int} : isCoef n = true ↔ -1000000000000 ≤ n ∧ n ≤ 1000000000000 := inR_true
theorem isCoef_false {n : Int} : isCoef n = false ↔ ¬ (-1000000000000 ≤ n ∧ n ≤ 1000000000000) := inR_false
theorem isCoef_zero : isCoef 0 = true := by decide
/-- Is p a polynomial? -/
def isPoly (p : List Int) : Bool := decide (p.length ≤ 2001) && (decide (p.length = 0) || decide (gx p (p.length - 1) ≠ 0)) && p.all isCoef
theorem isPoly_true {p : List Int} : isPoly p = true ↔ p.length ≤ 2001 ∧ (p.length = 0 ∨ gx p (p.length - 1) ≠ 0) ∧ ∀ c ∈ p, isCoef c = true := by
  simp [isPoly, Bool.and_eq_true, Bool.or_eq_true, and_assoc]
theorem isPoly_long {p : List Int} (h : 2001 < p.length) : isPoly p = false := by
  rw [Bool.eq_false_iff]; intro e; have := (isPoly_true.1 e).1; omega
theorem isPoly_last {p : List Int} (h : 0 < p.length) (e : gx p (p.length - 1) = 0) : isPoly p = false := by
  rw [Bool.eq_false_iff]; intro e'; rcases (isPoly_true.1 e').2.1 with h' | h'
  · omega
  · exact h' e
theorem isPoly_coef {p : List Int} (k : Nat) (h : k < p.length) (e : isCoef (gx p k) = false) : isPoly p = false := by
  rw [Bool.eq_false_iff]; intro e'
  have := (isPoly_true.1 e').2.2 _ (gx_mem p k h)
  rw [e] at this; cases this
theorem isPoly_yes {p : List Int} (h : p.length ≤ 2001) (e : p.length = 0 ∨ gx p (p.length - 1) ≠ 0) (a : ∀ k, k < p.length → isCoef (gx p k) = true) : isPoly p = true := by
  refine isPoly_true.2 ⟨h, e, fun c hc => ?_⟩
  obtain ⟨k, hk, rfl⟩ := List.getElem_of_mem hc
  rw [← gx_eq p k hk]; exact a k hk
theorem isPoly_gx {p : List Int} (h : isPoly p = true) (k : Nat) : -1000000000000 ≤ gx p k ∧ gx p k ≤ 1000000000000 := by
  by_cases hk : k < p.length
  · exact isCoef_true.1 ((isPoly_true.1 h).2.2 _ (gx_mem p k hk))
  · rw [gx_out p k (by omega)]; omega

/-! ### the value -/
/-- The coefficients still to come, the last one first. -/
def evGo (x : Int) : List Int → Int → Option Int
  | [], v => some v
  | c :: cs, v => if isCoef (v * x + c) then evGo x cs (v * x + c) else none
def evP (p : List Int) (x : Int) : Int × Int :=
  if isPoly p then (if inR x (-1000) 1000 then (match evGo x p.reverse 0 with | none => (0, 3) | some v => (v, 0)) else (0, 2)) else (0, 1)

theorem evGo_step (x : Int) (p : List Int) (k : Nat) (h : k < p.length) (v : Int) : evGo x (p.take (k + 1)).reverse v = if isCoef (v * x + gx p k) then evGo x (p.take k).reverse (v * x + gx p k) else none := by
  rw [take_rev p k h]; rfl
def out2 : Option Int → Int × Int
  | none => (0, 3)
  | some v => (v, 0)
theorem evP_run {p : List Int} {x : Int} (h : isPoly p = true) (hx : inR x (-1000) 1000 = true) : evP p x = out2 (evGo x p.reverse 0) := by
  unfold evP
  rw [h, hx]
  simp only [if_true]
  cases evGo x p.reverse 0 <;> rfl
theorem mul_bd3 (v x : Int) (h1 : -1000000000000 ≤ v) (h2 : v ≤ 1000000000000) (h3 : -1000 ≤ x) (h4 : x ≤ 1000) : -1000000000000000 ≤ v * x ∧ v * x ≤ 1000000000000000 := by
  have h : (v * x).natAbs ≤ 1000000000000 * 1000 := by
    rw [Int.natAbs_mul]; exact Nat.mul_le_mul (by omega) (by omega)
  omega

/-! ### without zeros at the end -/
def trimL (p : List Int) : List Int := (p.reverse.dropWhile (· == 0)).reverse
theorem trimL_nil : trimL [] = [] := rfl
theorem trimL_snoc_zero (p : List Int) : trimL (p ++ [0]) = trimL p := by simp [trimL]
theorem trimL_snoc (p : List Int) (c : Int) (h : c ≠ 0) : trimL (p ++ [c]) = p ++ [c] := by
  simp [trimL, beq_eq_false_iff_ne.2 h]
theorem trimL_take_zero (p : List Int) (k : Nat) (hk : k < p.length) (h : gx p k = 0) : trimL (p.take (k + 1)) = trimL (p.take k) := by
  rw [take_snoc p k hk, h, trimL_snoc_zero]
theorem trimL_take_stop (p : List Int) (k : Nat) (hk : k < p.length) (h : gx p k ≠ 0) : trimL (p.take (k + 1)) = p.take (k + 1) := by
  rw [take_snoc p k hk, trimL_snoc _ _ h]
theorem trimL_prefix (p : List Int) : ∃ k, k ≤ p.length ∧ trimL p = p.take k ∧ (k = 0 ∨ gx p (k - 1) ≠ 0) ∧ ∀ j, k ≤ j → gx p j = 0 := by
  have core : ∀ n, n ≤ p.length → ∃ k, k ≤ n ∧ trimL (p.take n) = p.take k ∧ (k = 0 ∨ gx p (k - 1) ≠ 0) ∧ ∀ j, k ≤ j → j < n → gx p j = 0 := by
    intro n
    induction n with
    | zero => intro _; exact ⟨0, Nat.le_refl _, by simp [trimL], .inl rfl, fun j _ h => by omega⟩
    | succ n ih =>
      intro hn
      by_cases h : gx p n = 0
      · obtain ⟨k, h1, h2, h3, h4⟩ := ih (by omega)
        refine ⟨k, by omega, by rw [trimL_take_zero p n hn h, h2], h3, fun j hj hjn => ?_⟩
        by_cases e : j = n
        · rw [e]; exact h
        · exact h4 j hj (by omega)
      · exact ⟨n + 1, Nat.le_refl _, trimL_take_stop p n hn h, .inr (by simpa using h), fun j hj hjn => by omega⟩
  obtain ⟨k, h1, h2, h3, h4⟩ := core p.length (Nat.le_refl _)
  rw [List.take_length] at h2
  refine ⟨k, h1, h2, h3, fun j hj => ?_⟩
  by_cases hjl : j < p.length
  · exact h4 j hj hjl
  · exact gx_out p j (by omega)
theorem gx_trimL (p : List Int) (j : Nat) : gx (trimL p) j = gx p j := by
  obtain ⟨k, h1, h2, h3, h4⟩ := trimL_prefix p
  rw [h2]
  by_cases hj : j < k
  · exact gx_take p k j hj
  · rw [h4 j (by omega), gx_out _ _ (by simp; omega)]
theorem trimL_isPoly (p : List Int) (hl : p.length ≤ 2001) : isPoly (trimL p) = p.all isCoef := by
  obtain ⟨k, h1, h2, h3, h4⟩ := trimL_prefix p
  rw [Bool.eq_iff_iff, isPoly_true, List.all_eq_true]
  constructor
  · rintro ⟨_, _, h⟩ c hc
    obtain ⟨j, hj, rfl⟩ := List.getElem_of_mem hc
    by_cases hjk : j < k
    · have : (trimL p)[j]'(by rw [h2]; simp; omega) ∈ trimL p := List.getElem_mem _
      have e := h _ this
      simp only [h2, List.getElem_take] at e
      exact e
    · rw [← gx_eq p j hj, h4 j (by omega)]; rfl
  · intro h
    rw [h2]
    refine ⟨by simp; omega, ?_, fun c hc => h c (List.mem_of_mem_take hc)⟩
    have hlen : (p.take k).length = k := by simp; omega
    rw [hlen]
    rcases h3 with h3 | h3
    · exact .inl h3
    · by_cases hk0 : k = 0
      · exact .inl hk0
      · exact .inr (by rw [gx_take p k (k - 1) (by omega)]; exact h3)

theorem trimL_len' (p : List Int) : (trimL p).length ≤ p.length := by
  obtain ⟨k, h1, h2, _⟩ := trimL_prefix p
  rw [h2]; simp; omega

/-! ### sums -/
def addK (p : List Int) (k : Int) (q : List Int) : List Int := (List.range (max p.length q.length)).map fun i => gx p i + k * gx q i
def sumP (p : List Int) (k : Int) (q : List Int) : List Int × Int := if (addK p k q).all isCoef then (trimL (addK p k q), 0) else ([], 3)
def sumF (p : List Int) (k : Int) (q : List Int) : List Int × Int := if isPoly p && isPoly q then sumP p k q else ([], 1)
theorem addK_len (p : List Int) (k : Int) (q : List Int) : (addK p k q).length = max p.length q.length := by simp [addK]
theorem gx_addK (p : List Int) (k : Int) (q : List Int) (j : Nat) (h : j < max p.length q.length) : gx (addK p k q) j = gx p j + k * gx q j := by
  rw [gx_eq _ _ (by rw [addK_len]; exact h)]; simp [addK]

/-- The first i sums made. -/
def addk (xs : List Int) (k : Int) (ys : List Int) (N i : Nat) : List Int := (List.range N).map fun j => gx xs j + if j < i then k * gx ys j else 0
theorem addk_len (xs : List Int) (k : Int) (ys : List Int) (N i : Nat) : (addk xs k ys N i).length = N := by simp [addk]
theorem gx_addk (xs : List Int) (k : Int) (ys : List Int) (N i j : Nat) (h : j < N) : gx (addk xs k ys N i) j = gx xs j + if j < i then k * gx ys j else 0 := by
  rw [gx_eq _ _ (by rw [addk_len]; exact h)]; simp [addk]
theorem addk_zero (xs : List Int) (k : Int) (ys : List Int) (N : Nat) (h : xs.length ≤ N) : addk xs k ys N 0 = xs ++ List.replicate (N - xs.length) 0 := by
  apply List.ext_getElem (by simp [addk]; omega)
  intro j h1 h2
  simp only [addk, List.getElem_map, List.getElem_range, List.getElem_append]
  by_cases hj : j < xs.length
  · simp [hj, gx_eq xs j hj]
  · simp [hj, gx_out xs j (by omega)]
theorem addk_step (xs : List Int) (k : Int) (ys : List Int) (N i : Nat) : (addk xs k ys N i).set i (gx xs i + k * gx ys i) = addk xs k ys N (i + 1) := by
  apply List.ext_getElem (by simp [addk])
  intro j h1 h2
  rw [List.getElem_set]
  by_cases e : i = j
  · subst e; simp [addk]
  · simp only [e, if_false, addk, List.getElem_map, List.getElem_range]
    by_cases h3 : j < i
    · rw [if_pos h3, if_pos (by omega)]
    · rw [if_neg h3, if_neg (by omega)]
theorem addk_all (xs : List Int) (k : Int) (ys : List Int) : addk xs k ys (max xs.length ys.length) ys.length = addK xs k ys := by
  unfold addk addK
  apply List.map_congr_left
  intro j hj
  by_cases h : j < ys.length
  · rw [if_pos h]
  · rw [if_neg h, gx_out ys j (by omega), Int.mul_zero]
theorem addk_coef {xs ys : List Int} {k : Int} (hx : isPoly xs = true) (hy : isPoly ys = true) (hk : k = 1 ∨ k = -1) (j : Nat) :
    (-1000000000000 ≤ gx xs j ∧ gx xs j ≤ 1000000000000) ∧ -1000000000000 ≤ k * gx ys j ∧ k * gx ys j ≤ 1000000000000 := by
  have h1 := isPoly_gx hx j
  have h2 := isPoly_gx hy j
  rcases hk with rfl | rfl <;> omega
theorem sumP_all {xs ys : List Int} {k : Int} (h : ∀ j, j < max xs.length ys.length → isCoef (gx (addK xs k ys) j) = true) : sumP xs k ys = (trimL (addK xs k ys), 0) := by
  unfold sumP
  rw [if_pos]
  rw [List.all_eq_true]
  intro c hc
  obtain ⟨j, hj, rfl⟩ := List.getElem_of_mem hc
  rw [← gx_eq _ j hj]
  rw [addK_len] at hj
  exact h j hj
theorem sumP_bad {xs ys : List Int} {k : Int} (j : Nat) (hj : j < max xs.length ys.length) (h : isCoef (gx (addK xs k ys) j) = false) : sumP xs k ys = ([], 3) := by
  unfold sumP
  rw [if_neg]
  rw [List.all_eq_true]
  intro e
  have := e _ (gx_mem (addK xs k ys) j (by rw [addK_len]; exact hj))
  rw [h] at this; cases this
/-- As the reference has it: the trimmed sum is a polynomial or none. -/
theorem sumP_fit {xs ys : List Int} {k : Int} (hx : xs.length ≤ 2001) (hy : ys.length ≤ 2001) : sumP xs k ys = if isPoly (trimL (addK xs k ys)) then (trimL (addK xs k ys), 0) else ([], 3) := by
  rw [trimL_isPoly _ (by rw [addK_len]; omega)]; rfl
theorem sumF_len (xs : List Int) (k : Int) (ys : List Int) : (sumF xs k ys).1.length ≤ 1000000000 := by
  unfold sumF
  split
  · rename_i h
    simp only [Bool.and_eq_true] at h
    have h1 := (isPoly_true.1 h.1).1
    have h2 := (isPoly_true.1 h.2).1
    unfold sumP
    split
    · have := trimL_len' (addK xs k ys)
      rw [addK_len] at this
      simp only; omega
    · simp
  · simp

/-! ### the other order -/
theorem gx_reverse (p : List Int) (j : Nat) (h : j < p.length) : gx p.reverse j = gx p (p.length - 1 - j) := by
  rw [gx_eq _ _ (by simpa using h), List.getElem_reverse, gx_eq p _ (by omega)]
def revP (p : List Int) : List Int × Int := if isPoly p then (trimL p.reverse, 0) else ([], 1)
def symP (p : List Int) : Bool × Int := if isPoly p then (p == p.reverse, 0) else (false, 1)

theorem trimL_len (p : List Int) : (trimL p).length ≤ p.length := by
  obtain ⟨k, h1, h2, _⟩ := trimL_prefix p
  rw [h2]; simp; omega
theorem revP_len (p : List Int) : (revP p).1.length ≤ 1000000000 := by
  unfold revP
  split
  · rename_i h
    have h1 := trimL_len p.reverse
    have h2 := (isPoly_true.1 h).1
    simp at h1 ⊢; omega
  · simp

/-! ### products -/
/-- s + a b, or nothing where it may be too large. -/
def plusPr (s a b : Int) : Option Int :=
  if a = 0 ∨ b = 0 then some s
  else if 2000000000000 / (b.natAbs : Int) < (a.natAbs : Int) then none
  else if isCoef (s + a * b) then some (s + a * b) else none
/-- The inner loop: coefficient c of t ^ k, the coefficients of p from i on. -/
def prIn (c : Int) (k : Nat) (p : List Int) : Nat → Nat → List Int → Option (List Int)
  | 0, _, out => some out
  | n + 1, i, out => match plusPr (gx out (i + k)) (gx p i) c with
    | none => none
    | some s => prIn c k p n (i + 1) (out.set (i + k) s)
def prOut (p q : List Int) : Nat → Nat → List Int → Option (List Int)
  | 0, _, out => some out
  | n + 1, k, out => if gx q k = 0 then prOut p q n (k + 1) out else
    match prIn (gx q k) k p p.length 0 out with
    | none => none
    | some out' => prOut p q n (k + 1) out'
def prodP (p q : List Int) : List Int × Int :=
  if p.length = 0 ∨ q.length = 0 then ([], 0)
  else if 2001 < p.length + q.length - 1 then ([], 3)
  else match prOut p q q.length 0 (List.replicate (p.length + q.length - 1) 0) with
    | none => ([], 3)
    | some out => (out, 0)
def mulP (p q : List Int) : List Int × Int := if isPoly p && isPoly q then prodP p q else ([], 1)

/-! ### powers in place of the variable -/
def spread (p : List Int) (k : Nat) : List Int := if p.length = 0 then [] else (List.range ((p.length - 1) * k + 1)).map fun j => if j % k = 0 then gx p (j / k) else 0
def subP (p : List Int) (k : Int) : List Int × Int :=
  if isPoly p then (if inR k 1 2000 then (if 2000 < ((p.length : Int) - 1) * k then ([], 3) else (spread p k.toNat, 0)) else ([], 2)) else ([], 1)
/-- The first i coefficients in their places. -/
def spr (p : List Int) (k N i : Nat) : List Int := (List.range N).map fun j => if j % k = 0 ∧ j / k < i then gx p (j / k) else 0
theorem spr_len (p : List Int) (k N i : Nat) : (spr p k N i).length = N := by simp [spr]
theorem spr_zero (p : List Int) (k N : Nat) : spr p k N 0 = List.replicate N 0 := by
  apply List.ext_getElem (by simp [spr])
  intro j h1 h2
  simp [spr]
theorem spr_step (p : List Int) (k N i : Nat) (hk : 0 < k) : (spr p k N i).set (i * k) (gx p i) = spr p k N (i + 1) := by
  apply List.ext_getElem (by simp [spr])
  intro j h1 h2
  rw [List.getElem_set]
  by_cases e : i * k = j
  · subst e
    simp [spr, Nat.mul_div_cancel _ hk]
  · simp only [e, if_false, spr, List.getElem_map, List.getElem_range]
    by_cases hm : j % k = 0
    · have hne : j / k ≠ i := by
        intro e2
        have := Nat.div_add_mod j k
        rw [hm, e2, Nat.mul_comm] at this
        omega
      by_cases h3 : j / k < i
      · rw [if_pos ⟨hm, h3⟩, if_pos ⟨hm, by omega⟩]
      · rw [if_neg (by omega), if_neg (by omega)]
    · rw [if_neg (by omega), if_neg (by omega)]
theorem spr_all (p : List Int) (k : Nat) (hk : 0 < k) (h0 : 0 < p.length) : spr p k ((p.length - 1) * k + 1) p.length = spread p k := by
  unfold spread
  rw [if_neg (by omega)]
  unfold spr
  apply List.map_congr_left
  intro j hj
  have hj' := List.mem_range.1 hj
  have : j / k < p.length := by
    have h1 : j / k ≤ p.length - 1 := by
      rw [Nat.div_le_iff_le_mul_add_pred hk]
      rw [Nat.mul_comm]
      omega
    omega
  by_cases hm : j % k = 0
  · rw [if_pos ⟨hm, this⟩, if_pos hm]
  · rw [if_neg (by omega), if_neg hm]
theorem spread_len (p : List Int) (k : Nat) : (spread p k).length ≤ (p.length - 1) * k + 1 := by
  unfold spread; split <;> simp
theorem subP_len (p : List Int) (k : Int) : (subP p k).1.length ≤ 2001 := by
  unfold subP
  split
  · split
    · rename_i h1 h2
      split
      · simp
      · rename_i h3
        have hb := inR_true.1 h2
        have h4 := spread_len p k.toNat
        simp only
        by_cases h0 : p.length = 0
        · unfold spread; rw [if_pos h0]; simp
        · have h5 : (((p.length - 1) * k.toNat : Nat) : Int) ≤ 2000 := by
            rw [Int.natCast_mul, Int.natCast_sub (by omega), Int.toNat_of_nonneg (by omega)]
            simpa using h3
          omega
    · simp
  · simp
end Go.Proofs.Ytogkblncdpbhnaa.Pl
