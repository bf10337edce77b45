/-
  WALKS, THE STATEMENTS' OWN HELPERS OVER BRANCHES: szBranch, toBranch, eqBranch, markBranch, heldBranch.
-/
import Derived.Test.YtcnoaclijhcckaaKitV
import Derived.Test.YtcnoaclijhcckaaWlkL1
namespace Go.Proofs.Ytcnoaclijhcckaa
open Go.RowKit
set_option linter.unusedVariables false
namespace WL
open K Pl
theorem Chg.setCell {lo hi : Nat} {w : World} {p : Addr} (h : lo ≤ p.block ∧ p.block < hi) (u : Value) : Chg lo hi w (w.setCell p u) :=
  ⟨rfl, rfl, rfl, by simp, fun k hk hn => Below.heap_setCell w p u k (fun e => hn (by rw [e]; exact h))⟩
theorem own_later_chg {w w' w2 : World} {lo hi lo' hi' B : Nat} {v : Value} {xs : List Int} (h : Ow w lo hi v xs) (hc : Chg lo' hi' w w') (hd : hi' ≤ lo) (hB : B ≤ lo) (hh : hi ≤ w'.heap.size) : Ow w' B w'.heap.size v xs :=
  (h.keep hc (.inr hd)).wide hB hh
/-- What is left of a size. -/
def szl (l : Int) (n : Nat) : Int := if l < n then -1 else l - n
theorem szl_big {l : Int} {n : Nat} (h : l < n) : szl l n = -1 := if_pos h
theorem szl_small {l : Int} {n : Nat} (h : ¬ l < n) : szl l n = l - n := if_neg h
theorem szl_bd {l : Int} {n : Nat} (h : 0 ≤ l ∧ l ≤ 1048576) : -1 ≤ szl l n ∧ szl l n ≤ 1048576 := by unfold szl; split <;> omega
end WL
end Go.Proofs.Ytcnoaclijhcckaa
