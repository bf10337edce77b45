/-
  PLAIN LAWS, CHAPTER 3: pairs of a branch; no program in sight.
-/
import Derived.Test.YtcnoaclijhcckaaPlF
namespace Go.Proofs.Ytcnoaclijhcckaa.Pl
set_option linter.unusedVariables false
/-- The numbers n(i), the first k. -/
def ratL (xs : List Int) (k : Nat) : List Int := (List.range k).map fun j => if j = 0 then 0 else dg xs j / dg xs (j + 1)
theorem ratL_one (xs : List Int) : ratL xs 1 = [0] := rfl
theorem ratL_snoc (xs : List Int) (k : Nat) (h : 1 ≤ k) : ratL xs (k + 1) = ratL xs k ++ [dg xs k / dg xs (k + 1)] := by
  simp [ratL, List.range_succ]; omega
theorem ratL_len (xs : List Int) (k : Nat) : (ratL xs k).length = k := by simp [ratL]
theorem gx_ratL (xs : List Int) (k j : Nat) (h : j < k) (h1 : 1 ≤ j) : gx (ratL xs k) j = dg xs j / dg xs (j + 1) := by
  rw [gx_eq _ _ (by rw [ratL_len]; exact h)]; simp [ratL]; omega
/-- The Puiseux pairs, the first k. -/
def puiL (xs : List Int) (k : Nat) : List (List Int) := (List.range k).map fun j => [gx xs (j + 1) / dg xs (j + 2), dg xs (j + 1) / dg xs (j + 2)]
theorem puiL_snoc (xs : List Int) (k : Nat) : puiL xs (k + 1) = puiL xs k ++ [[gx xs (k + 1) / dg xs (k + 2), dg xs (k + 1) / dg xs (k + 2)]] := by simp [puiL, List.range_succ]
theorem puiL_len (xs : List Int) (k : Nat) : (puiL xs k).length = k := by simp [puiL]
/-- What a term adds. -/
def stp (xs : List Int) (i : Nat) : Int := gx xs i - (if i ≤ 1 then 0 else gx xs (i - 1))
theorem stp_one {xs : List Int} {i : Nat} (h : ¬ (1 : Int) < (i : Int)) : stp xs i = gx xs i := by unfold stp; rw [if_pos (by omega)]; omega
theorem stp_more {xs : List Int} {i : Nat} (h : (1 : Int) < (i : Int)) : stp xs i = gx xs i - gx xs (i - 1) := by unfold stp; rw [if_neg (by omega)]
theorem stp_bd {xs : List Int} (h : isBr xs = true) (i : Nat) (h1 : 1 ≤ i) (h2 : i < xs.length) : 1 ≤ stp xs i ∧ stp xs i ≤ 2000 := by
  have r := isBr_range h
  have a := isBr_asc h i h1 h2
  have r1 := r i h2
  unfold stp
  split
  · omega
  · have := r (i - 1) (by omega); omega
/-- The Newton pairs, the first k. -/
def newL (xs : List Int) (k : Nat) : List (List Int) := (List.range k).map fun j => [stp xs (j + 1) / dg xs (j + 2), dg xs (j + 1) / dg xs (j + 2)]
theorem newL_snoc (xs : List Int) (k : Nat) : newL xs (k + 1) = newL xs k ++ [[stp xs (k + 1) / dg xs (k + 2), dg xs (k + 1) / dg xs (k + 2)]] := by simp [newL, List.range_succ]
theorem newL_len (xs : List Int) (k : Nat) : (newL xs k).length = k := by simp [newL]
def puiB (xs : List Int) : List (List Int) × Int := if isBr xs then (puiL xs (xs.length - 1), 0) else ([], 1)
def newB (xs : List Int) : List (List Int) × Int := if isBr xs then (newL xs (xs.length - 1), 0) else ([], 1)
theorem puiB_pairs (xs : List Int) : ∀ s ∈ (puiB xs).1, s.length ≤ 2 := by
  unfold puiB; split
  · intro s hs; obtain ⟨j, _, rfl⟩ := List.mem_map.1 hs; simp
  · simp
theorem newB_pairs (xs : List Int) : ∀ s ∈ (newB xs).1, s.length ≤ 2 := by
  unfold newB; split
  · intro s hs; obtain ⟨j, _, rfl⟩ := List.mem_map.1 hs; simp
  · simp
theorem puiB_len (xs : List Int) : (puiB xs).1.length ≤ 1000000000 := by
  unfold puiB; split
  · rename_i h; have := isBr_len_le h; simp [puiL_len]; omega
  · simp
theorem newB_len (xs : List Int) : (newB xs).1.length ≤ 1000000000 := by
  unfold newB; split
  · rename_i h; have := isBr_len_le h; simp [newL_len]; omega
  · simp
end Go.Proofs.Ytcnoaclijhcckaa.Pl
