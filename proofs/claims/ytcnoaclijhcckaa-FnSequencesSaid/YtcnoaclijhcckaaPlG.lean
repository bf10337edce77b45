/-
  PLAIN LAWS, CHAPTER 4: sequences of branches out of the steps of runs; no program in sight.
-/
import Derived.Test.YtcnoaclijhcckaaPlF
namespace Go.Proofs.Ytcnoaclijhcckaa.Pl
set_option linter.unusedVariables false
/-! ### rows {q, r} written out -/
def rep (s : List Int) : List Int := List.replicate (gx s 0).toNat (gx s 1)
def reps (l : List (List Int)) : List Int := l.flatMap rep
theorem reps_nil : reps [] = [] := rfl
theorem reps_append (a b : List (List Int)) : reps (a ++ b) = reps a ++ reps b := by simp [reps]
theorem rep_len (s : List Int) : (rep s).length = (gx s 0).toNat := by simp [rep]
theorem steps_pair (a b : Nat) : ∀ s ∈ steps a b, ∃ q r : Int, s = [q, r] ∧ 0 ≤ q ∧ 1 ≤ r ∧ q ≤ max a b ∧ r ≤ b := steps_shape b a b (Nat.le_refl _)
/-- The numbers of steps. -/
theorem reps_steps_len (a b : Nat) : (reps (steps a b)).length ≤ a * b := by
  have h := steps_qrr b a b (Nat.le_refl _)
  have h2 := steps_pair a b
  have key : ∀ l : List (List Int), (∀ s ∈ l, ∃ q r : Int, s = [q, r] ∧ 0 ≤ q ∧ 1 ≤ r ∧ q ≤ max a b ∧ r ≤ b) → ((reps l).length : Int) ≤ qrr l := by
    intro l
    induction l with
    | nil => intro _; simp [reps, qrr]
    | cons s t ih =>
      intro hl
      obtain ⟨q, r, rfl, h0, h1, _, _⟩ := hl s (by simp)
      have i := ih fun s hs => hl s (by simp [hs])
      have e : qrr ([q, r] :: t) = q * r * r + qrr t := by simp [qrr]
      have e2 : (reps ([q, r] :: t)).length = q.toNat + (reps t).length := by simp [reps, rep, gx]
      rw [e, e2]
      have h3 : q * 1 ≤ q * (r * r) := Int.mul_le_mul_of_nonneg_left (by have := Int.mul_le_mul h1 h1 (by omega) (by omega : (0:Int) ≤ r); omega) h0
      rw [Int.mul_assoc]
      omega
  have := key _ h2
  rw [h] at this
  exact_mod_cast this
/-! ### runs of a branch -/
def kk (xs : List Int) (i : Nat) : Nat := (gx xs i - (if i ≤ 1 then 0 else gx xs (i - 1))).toNat
def ee (xs : List Int) (i : Nat) : Nat := (dg xs i).toNat
/-- The rows of runs 1 to i. -/
def rws (xs : List Int) (i : Nat) : List (List Int) := (List.range' 1 i).flatMap fun j => steps (kk xs j) (ee xs j)
theorem rws_zero (xs : List Int) : rws xs 0 = [] := rfl
theorem rws_succ (xs : List Int) (i : Nat) : rws xs (i + 1) = rws xs i ++ steps (kk xs (i + 1)) (ee xs (i + 1)) := by
  unfold rws; rw [List.range'_concat, List.flatMap_append, Nat.one_mul, Nat.add_comm 1 i]; simp
def sqn (xs : List Int) (i : Nat) : List Int := reps (rws xs i)
theorem sqn_zero (xs : List Int) : sqn xs 0 = [] := rfl
theorem sqn_succ (xs : List Int) (i : Nat) : sqn xs (i + 1) = sqn xs i ++ reps (steps (kk xs (i + 1)) (ee xs (i + 1))) := by
  unfold sqn; rw [rws_succ, reps_append]
def seqB (xs : List Int) : List Int := if xs.length = 1 then [1] else sqn xs (xs.length - 1)
theorem kk_bd {xs : List Int} (h : isBr xs = true) (i : Nat) (h1 : 1 ≤ i) (h2 : i < xs.length) : 1 ≤ kk xs i ∧ kk xs i ≤ 2000 ∧ 1 ≤ ee xs i ∧ ee xs i ≤ 64 ∧ ((kk xs i : Nat) : Int) = gx xs i - (if i ≤ 1 then 0 else gx xs (i - 1)) ∧ ((ee xs i : Nat) : Int) = dg xs i := by
  have r := isBr_range h
  have a := isBr_asc h i h1 h2
  have d := isBr_dg h i h1
  have r1 := r i h2
  unfold kk ee
  split
  · omega
  · have := r (i - 1) (by omega); omega
theorem steps_two (a b : Nat) (ha : 1 ≤ a) (hb : 1 ≤ b) : reps (steps a b) ≠ [] := by
  rw [steps_pos a b hb]
  by_cases h : a / b = 0
  · have hlt : a < b := (Nat.div_eq_zero_iff_lt hb).1 h
    rw [Nat.mod_eq_of_lt hlt, steps_pos b a ha]
    have : 1 ≤ b / a := (Nat.le_div_iff_mul_le ha).2 (by omega)
    intro e
    have e2 := congrArg List.length e
    simp [reps, rep, gx, h] at e2
    omega
  · have hq : 1 ≤ a / b := Nat.pos_of_ne_zero h
    generalize a / b = q at *
    intro e
    have e2 := congrArg List.length e
    simp [reps, rep, gx] at e2
    omega
theorem sqn_ne {xs : List Int} (h : isBr xs = true) (i : Nat) (h1 : 1 ≤ i) (h2 : i < xs.length) : sqn xs i ≠ [] := by
  obtain ⟨j, rfl⟩ : ∃ j, i = j + 1 := ⟨i - 1, by omega⟩
  have b := kk_bd h (j + 1) h1 h2
  rw [sqn_succ]
  intro e
  exact steps_two _ _ b.1 b.2.2.1 (List.append_eq_nil_iff.1 e).2
theorem sqn_len {xs : List Int} (h : isBr xs = true) : ∀ i, i < xs.length → (sqn xs i).length ≤ i * 128000
  | 0, _ => by simp [sqn_zero]
  | i + 1, hi => by
    have := sqn_len h i (by omega)
    have b := kk_bd h (i + 1) (by omega) hi
    have l := reps_steps_len (kk xs (i + 1)) (ee xs (i + 1))
    have : kk xs (i + 1) * ee xs (i + 1) ≤ 2000 * 64 := Nat.mul_le_mul b.2.1 b.2.2.2.1
    rw [sqn_succ, List.length_append]; omega
theorem seqB_len {xs : List Int} (h : isBr xs = true) : 1 ≤ (seqB xs).length ∧ (seqB xs).length ≤ 1000000 := by
  have hl := isBr_len_le h
  have h0 := (isBr_true.1 h).1
  unfold seqB
  split
  · simp
  · have := sqn_len h (xs.length - 1) (by omega)
    have h3 := sqn_ne h (xs.length - 1) (by omega) (by omega)
    have : (sqn xs (xs.length - 1)).length ≠ 0 := fun e => h3 (List.eq_nil_of_length_eq_zero e)
    omega
/-- How many numbers rows {q, r} stand for. -/
def cntR (l : List (List Int)) : Int := (l.map fun s => gx s 0).sum
theorem cntR_snoc (l : List (List Int)) (s : List Int) : cntR (l ++ [s]) = cntR l + gx s 0 := by simp [cntR]
theorem rws_pair {xs : List Int} (i : Nat) : ∀ s ∈ rws xs i, ∃ q r : Int, s = [q, r] ∧ 0 ≤ q ∧ 1 ≤ r := by
  intro s hs
  unfold rws at hs
  obtain ⟨j, _, hj⟩ := List.mem_flatMap.1 hs
  obtain ⟨q, r, e, h0, h1, _⟩ := steps_pair _ _ s hj
  exact ⟨q, r, e, h0, h1⟩
theorem reps_len_cnt (l : List (List Int)) (h : ∀ s ∈ l, ∃ q r : Int, s = [q, r] ∧ 0 ≤ q ∧ 1 ≤ r) : ((reps l).length : Int) = cntR l := by
  induction l with
  | nil => rfl
  | cons s t ih =>
    obtain ⟨q, r, rfl, h0, _⟩ := h s (by simp)
    have := ih fun s hs => h s (by simp [hs])
    have e2 : (reps ([q, r] :: t)).length = q.toNat + (reps t).length := by simp [reps, rep, gx]
    have e3 : cntR ([q, r] :: t) = q + cntR t := by simp [cntR, gx]
    rw [e2, e3]; omega
theorem cnt_seq {xs : List Int} (h : isBr xs = true) : max (cntR (rws xs (xs.length - 1))) 1 = ((seqB xs).length : Int) := by
  have h0 := (isBr_true.1 h).1
  rw [← reps_len_cnt _ (rws_pair _)]
  unfold seqB
  split
  · rename_i e; rw [e]; rfl
  · have h3 := sqn_ne h (xs.length - 1) (by omega) (by omega)
    have : (sqn xs (xs.length - 1)).length ≠ 0 := fun e => h3 (List.eq_nil_of_length_eq_zero e)
    show max ((sqn xs (xs.length - 1)).length : Int) 1 = _
    omega
def ones (n : Nat) : List Int := List.replicate n 1
theorem ones_succ (n : Nat) : ones (n + 1) = ones n ++ [1] := by simp [ones, List.replicate_succ']
/-! ### results -/
def lngC (xs : List Int) (more : Int) : Int := if isBr xs then (if inR more 0 400 then (if 400 < ((seqB xs).length : Int) + more then 3 else 0) else 2) else 1
def lngB (xs : List Int) (more : Int) : List Int × Int := if lngC xs more = 0 then (seqB xs ++ ones more.toNat, 0) else ([], lngC xs more)
theorem lngB_len (xs : List Int) (more : Int) : (lngB xs more).1.length ≤ 1000000000 := by
  unfold lngB; split
  · rename_i h
    unfold lngC at h
    split at h
    · split at h
      · rename_i h1 h2; have := seqB_len h1; have := inR_true.1 h2; simp [ones]; omega
      · cases h
    · cases h
  · simp
def cbpB (xs : List Int) : Int × Int := if isBr xs then (((seqB xs).length : Int), 0) else (0, 1)
/-- A sum over numbers. -/
def sumW (f : Int → Int) (l : List Int) : Int := (l.map f).sum
theorem sumW_snoc (f : Int → Int) (l : List Int) (m : Int) : sumW f (l ++ [m]) = sumW f l + f m := by simp [sumW]
def sumR (f : Int → Int) (l : List (List Int)) : Int := (l.map fun s => gx s 0 * f (gx s 1)).sum
theorem sumR_snoc (f : Int → Int) (l : List (List Int)) (s : List Int) : sumR f (l ++ [s]) = sumR f l + gx s 0 * f (gx s 1) := by simp [sumR]
theorem sumW_replicate (f : Int → Int) (n : Nat) (m : Int) : sumW f (List.replicate n m) = n * f m := by simp [sumW]
theorem sumW_append (f : Int → Int) (a b : List Int) : sumW f (a ++ b) = sumW f a + sumW f b := by simp [sumW]
theorem sumW_reps (f : Int → Int) (l : List (List Int)) (h : ∀ s ∈ l, ∃ q r : Int, s = [q, r] ∧ 0 ≤ q ∧ 1 ≤ r) : sumW f (reps l) = sumR f l := by
  induction l with
  | nil => rfl
  | cons s t ih =>
    obtain ⟨q, r, rfl, h0, _⟩ := h s (by simp)
    have i := ih fun s hs => h s (by simp [hs])
    have e : reps ([q, r] :: t) = List.replicate q.toNat r ++ reps t := by simp [reps, rep, gx]
    have e3 : sumR f ([q, r] :: t) = q * f r + sumR f t := by simp [sumR, gx]
    rw [e, sumW_append, sumW_replicate, i, e3, Int.toNat_of_nonneg h0]
def dlt (m : Int) : Int := m * (m - 1) / 2
def big1 (m : Int) : Int := if 1 < m then 1 else 0
theorem sum_seq {xs : List Int} (f : Int → Int) (hf : f 1 = 0) (h : isBr xs = true) : sumW f (seqB xs) = sumR f (rws xs (xs.length - 1)) := by
  unfold seqB
  split
  · rename_i e; rw [e]; simp [sumW, hf, rws_zero, sumR]
  · exact sumW_reps f _ (rws_pair _)
def delB (xs : List Int) : Int × Int := if isBr xs then (sumW dlt (seqB xs), 0) else (0, 1)
def milB (xs : List Int) : Int × Int := (2 * (delB xs).1, (delB xs).2)
def bluB (xs : List Int) : Int × Int := if isBr xs then (sumW big1 (seqB xs), 0) else (0, 1)
/-- Each number of a sequence is in 1..64. -/
theorem reps_bd {l : List (List Int)} {m : Int} (h : ∀ s ∈ l, 1 ≤ gx s 1 ∧ gx s 1 ≤ m) : ∀ x ∈ reps l, 1 ≤ x ∧ x ≤ m := by
  intro x hx
  unfold reps at hx
  obtain ⟨s, hs, hx⟩ := List.mem_flatMap.1 hx
  unfold rep at hx
  rw [List.eq_of_mem_replicate hx]
  exact h s hs
theorem rws_bd {xs : List Int} (h : isBr xs = true) (i : Nat) (hi : i < xs.length) : ∀ s ∈ rws xs i, ∃ q r : Int, s = [q, r] ∧ 0 ≤ q ∧ q ≤ 2000 ∧ 1 ≤ r ∧ r ≤ 64 := by
  intro s hs
  unfold rws at hs
  obtain ⟨j, hj1, hj⟩ := List.mem_flatMap.1 hs
  have hj2 := List.mem_range'_1.1 hj1
  have b := kk_bd h j hj2.1 (by omega)
  obtain ⟨q, r, e, h0, h1, h2, h3⟩ := steps_pair _ _ s hj
  exact ⟨q, r, e, h0, by omega, h1, by omega⟩
theorem seqB_bd {xs : List Int} (h : isBr xs = true) : ∀ x ∈ seqB xs, 1 ≤ x ∧ x ≤ 64 := by
  have h0 := (isBr_true.1 h).1
  unfold seqB
  split
  · intro x hx; simp at hx; omega
  · refine reps_bd fun s hs => ?_
    obtain ⟨q, r, rfl, _, _, h1, h2⟩ := rws_bd h (xs.length - 1) (by omega) s hs
    exact ⟨h1, h2⟩
theorem sumW_bd {f : Int → Int} {m : Int} {l : List Int} (hm : 0 ≤ m) (h : ∀ x ∈ l, 0 ≤ f x ∧ f x ≤ m) : 0 ≤ sumW f l ∧ sumW f l ≤ l.length * m := by
  induction l with
  | nil => simp [sumW]
  | cons x t ih =>
    have i := ih fun y hy => h y (by simp [hy])
    have := h x (by simp)
    have e : sumW f (x :: t) = f x + sumW f t := by simp [sumW]
    rw [e, List.length_cons, Int.natCast_add, Int.add_mul]
    omega
theorem dlt_bd {m : Int} (h1 : 1 ≤ m) (h2 : m ≤ 64) : 0 ≤ dlt m ∧ dlt m ≤ 2016 := by
  unfold dlt
  have a : 0 ≤ m * (m - 1) := Int.mul_nonneg (by omega) (by omega)
  have b : m * (m - 1) ≤ 64 * (m - 1) := Int.mul_le_mul_of_nonneg_right h2 (by omega)
  omega
end Go.Proofs.Ytcnoaclijhcckaa.Pl
