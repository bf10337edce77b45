/-
  WALKS, CHAPTER 4: branches of sequences, by the program.
-/
import Derived.Test.YtcnoaclijhcckaaPlK
import Derived.Test.YtcnoaclijhcckaaWlkD1
import Derived.Test.YtcnoaclijhcckaaWlkC5
import Derived.Test.YtcnoaclijhcckaaWlkL3
namespace Go.Proofs.Ytcnoaclijhcckaa
open Go.RowKit
set_option linter.unusedVariables false
namespace WE
open K Pl WA WC WD WL
theorem is_cut {w : World} {B m n c : Nat} {A : Option Addr} {xs : List Int} (h : Rd w B A n xs) (hm : m ≤ n) (hc : n ≤ c) (hcm : c ≤ maxLen) : Is w B (.slice A m c) (xs.take m) := by
  refine ⟨A, m, c, rfl, by omega, hcm, ⟨by simp [h.len]; omega, fun hp => ?_⟩⟩
  obtain ⟨ad, e, hb, hcs⟩ := h.pos (by omega)
  refine ⟨ad, e, hb, fun j hj => ?_⟩
  rw [hcs j (by omega), gx_take xs m j hj]
theorem pfx_take (xs ys : List Int) : (xs.take ys.length == ys) = decide (ys <+: xs) := by
  rw [Bool.eq_iff_iff, beq_iff_eq, decide_eq_true_eq, List.prefix_iff_eq_take]
  exact eq_comm
set_option maxHeartbeats 400000 in
theorem begins_any (B B' : Nat) (v v' : Value) (xs ys : List Int) (w : World) (h : Is w B v xs) (h' : Is w B' v' ys) (hB : B ≤ w.heap.size) (hB' : B' ≤ w.heap.size) :
    Calls Try.prog 62 #[v, v'] w fun e w' => e = .returned (.bool (decide (ys <+: xs))) ∧ Below w.heap.size w w' := by
  have Hq := Lib.hid h'
  obtain ⟨A, n, c, rfl, hnc, hcm, hrd⟩ := h
  obtain ⟨A', m, c', rfl, hmc, hcm', hrd'⟩ := h'
  have Hlen := Lib.hid hrd.len; have Hlen' := Lib.hid hrd'.len
  by_cases hmn : m ≤ n
  · have Hs := Lib.hid (is_cut hrd hmn hnc hcm)
    have Hr := Lib.hid (pfx_take xs ys)
    rw [Hlen'.out] at Hr
    have hge : (m : Int) ≤ (n : Int) := by omega
    have hmc2 : (m : Int) ≤ (c : Int) := by omega
    have hm0 : (0 : Int) ≤ (m : Int) := by omega
    unfold maxLen at hcm hcm'
    clear hrd hrd'
    go_enter Try.func62, Try.ntmps62
    go_wp2_with fail
    refine (Equal_any B B' _ _ (xs.take m) ys _ Hs.out Hq.out hB hB').mono ?_
    rintro e w1 ⟨rfl, hb⟩
    go_wp2
    go_ret
    exact ⟨ret_b Hr.out, hb⟩
  · have Hr := Lib.hid (show decide (ys <+: xs) = false from decide_eq_false fun hp => by
      have := hp.length_le; rw [Hlen.out, Hlen'.out] at this; omega)
    have hge : ¬ (m : Int) ≤ (n : Int) := by omega
    unfold maxLen at hcm hcm'
    clear hrd hrd'
    go_enter Try.func62, Try.ntmps62
    go_wp2
    go_ret
    exact ⟨ret_b Hr.out.symm, Below.refl _ _⟩
set_option maxHeartbeats 400000 in
theorem isPointList_any (B : Nat) (v : Value) (xs : List Int) (w : World) (h : Is w B v xs) (hB : B ≤ w.heap.size) : Calls Try.prog 45 #[v] w fun e w' => e = .returned (.bool (ptsB xs)) ∧ w = w' := by
  have Hh := Lib.hid h
  obtain ⟨A, n, c, rfl, hnc, hcm, hrd⟩ := h
  have Hlen := Lib.hid hrd.len
  unfold maxLen at hcm
  clear hrd
  by_cases h1 : 1 ≤ n
  · by_cases h4 : n ≤ 400
    · have Hr := Lib.hid (show ptsB xs = wiB xs 1 64 by unfold ptsB; rw [Hlen.out]; simp [h1, h4])
      have h1' : (0 : Int) < (n : Int) := by omega
      have h4' : (n : Int) ≤ 400 := by omega
      go_enter Try.func45, Try.ntmps45
      go_wp2_with fail
      refine (within_any B _ xs _ _ _ Hh.out hB).mono ?_
      rintro e w1 ⟨rfl, rfl⟩
      go_wp2
      go_ret
      exact ⟨ret_b Hr.out.symm, rfl⟩
    · have Hr := Lib.hid (show ptsB xs = false by unfold ptsB; rw [Hlen.out]; simp [h4])
      have h1' : (0 : Int) < (n : Int) := by omega
      have h4' : ¬ (n : Int) ≤ 400 := by omega
      go_enter Try.func45, Try.ntmps45
      go_wp2
      go_ret
      exact ⟨ret_b Hr.out.symm, rfl⟩
  · have Hr := Lib.hid (show ptsB xs = false by unfold ptsB; rw [Hlen.out]; simp [h1])
    have h1' : ¬ (0 : Int) < (n : Int) := by omega
    go_enter Try.func45, Try.ntmps45
    go_wp2
    go_ret
    exact ⟨ret_b Hr.out.symm, rfl⟩
end WE
end Go.Proofs.Ytcnoaclijhcckaa
