/-
  WALKS, THE STATEMENTS' OWN HELPERS OVER BRANCHES: szBranch, toBranch, eqBranch, markBranch, heldBranch.
-/
import Derived.Test.YtbkbcpcdnclffaaKitV
import Derived.Test.YtbkbcpcdnclffaaWlkL1
namespace Go.Proofs.Ytbkbcpcdnclffaa
open Go.RowKit
set_option linter.unusedVariables false
namespace WL
open K Pl
theorem Chg.setCell {lo hi : Nat} {w : World} {p : Addr} (h : lo ≤ p.block ∧ p.block < hi) (u : Value) : Chg lo hi w (w.setCell p u) :=
  ⟨rfl, rfl, rfl, by simp, fun k hk hn => Below.heap_setCell w p u k (fun e => hn (by rw [e]; exact h))⟩
theorem own_later_chg {w w' w2 : World} {lo hi lo' hi' B : Nat} {v : Value} {xs : List Int} (h : Ow w lo hi v xs) (hc : Chg lo' hi' w w') (hd : hi' ≤ lo) (hB : B ≤ lo) (hh : hi ≤ w'.heap.size) : Ow w' B w'.heap.size v xs :=
  (h.keep hc (.inr hd)).wide hB hh
/-- What is left of a size. -/
def szl (l : Int) (n : Nat) : Int := if l < n then -1 else l - n
theorem szl_big {l : Int} {n : Nat} (h : l < n) : szl l n = -1 := if_pos h
theorem szl_small {l : Int} {n : Nat} (h : ¬ l < n) : szl l n = l - n := if_neg h
theorem szl_bd {l : Int} {n : Nat} (h : 0 ≤ l ∧ l ≤ 1048576) : -1 ≤ szl l n ∧ szl l n ≤ 1048576 := by unfold szl; split <;> omega
theorem szInt64S_any (B : Nat) (v : Value) (xs : List Int) (l : Int) (w : World) (h : Is w B v xs) (hl : 0 ≤ l ∧ l ≤ 1048576) : Calls Try.prog 39 #[v, .int .i64 l] w fun e w' => e = .returned (.int .i64 (szl l xs.length)) ∧ w = w' := by
  obtain ⟨A, n, c, rfl, hnc, hcm, hrd⟩ := h
  have Hlen := Lib.hid hrd.len
  unfold maxLen at hcm
  rw [Hlen.out]
  clear hrd
  by_cases hb : l < n
  · have Hr := Lib.hid (szl_big hb)
    have hlt : l - (n : Int) < 0 := by omega
    go_enter Try.func39, Try.ntmps39
    go_wp2
    go_ret
    exact ⟨ret_i Hr.out.symm, rfl⟩
  · have Hr := Lib.hid (szl_small hb)
    have hlt : ¬ l - (n : Int) < 0 := by omega
    go_enter Try.func39, Try.ntmps39
    go_wp2
    go_ret
    exact ⟨ret_i Hr.out.symm, rfl⟩
end WL
end Go.Proofs.Ytbkbcpcdnclffaa
