/-
  WALKS, THE STATEMENTS' OWN HELPERS OVER BRANCHES: szBranch, toBranch, eqBranch, markBranch, heldBranch.
-/
import Derived.Test.YtgjkbmeafdgfeaaKitV
import Derived.Test.YtgjkbmeafdgfeaaWlkL1
namespace Go.Proofs.Ytgjkbmeafdgfeaa
open Go.RowKit
set_option linter.unusedVariables false
namespace WL
open K Pl
theorem Chg.setCell {lo hi : Nat} {w : World} {p : Addr} (h : lo ≤ p.block ∧ p.block < hi) (u : Value) : Chg lo hi w (w.setCell p u) :=
  ⟨rfl, rfl, rfl, by simp, fun k hk hn => Below.heap_setCell w p u k (fun e => hn (by rw [e]; exact h))⟩
theorem own_later_chg {w w' w2 : World} {lo hi lo' hi' B : Nat} {v : Value} {xs : List Int} (h : Ow w lo hi v xs) (hc : Chg lo' hi' w w') (hd : hi' ≤ lo) (hB : B ≤ lo) (hh : hi ≤ w'.heap.size) : Ow w' B w'.heap.size v xs :=
  (h.keep hc (.inr hd)).wide hB hh
/-- What is left of a size. -/
def szl (l : Int) (n : Nat) : Int := if l < n then -1 else l - n
theorem szl_big {l : Int} {n : Nat} (h : l < n) : szl l n = -1 := if_pos h
theorem szl_small {l : Int} {n : Nat} (h : ¬ l < n) : szl l n = l - n := if_neg h
theorem szl_bd {l : Int} {n : Nat} (h : 0 ≤ l ∧ l ≤ 1048576) : -1 ≤ szl l n ∧ szl l n ≤ 1048576 := by unfold szl; split <;> omega
set_option maxHeartbeats 400000 in
theorem eqBranch_any (B B' : Nat) (v v' : Value) (xs ys : List Int) (w : World) (h : Is w B v xs) (h' : Is w B' v' ys) (hB : B ≤ w.heap.size) (hB' : B' ≤ w.heap.size) :
    Calls Try.prog 6 #[.agg #[v], .agg #[v']] w fun e w' => e = .returned (.bool (xs == ys)) ∧ Below w.heap.size w w' := by
  have Hh := Lib.hid h
  have Hh' := Lib.hid h'
  have hb2 : ∀ o1 o2, Below w.heap.size w ((w.alloc o1).alloc o2) := fun o1 o2 => ((Below.refl _ _).alloc (Nat.le_refl _) _).alloc (by simp) _
  obtain ⟨A, n, c, rfl, _, _, _⟩ := h
  obtain ⟨A', n', c', rfl, _, _, _⟩ := h'
  cases hR : (xs == ys)
  all_goals
    go_enter Try.func6, Try.ntmps6
    go_wp2_with fail
    refine (eqInt64S_any B B' _ _ xs ys _ (Hh.out.below ((hb2 _ _).mono hB)) (Hh'.out.below ((hb2 _ _).mono hB')) (by simp; omega) (by simp; omega)).mono ?_
    rintro e w1 ⟨rfl, hb⟩
    rw [hR]
    have hw1 := (hb2 _ _).trans (hb.mono (by simp; omega))
    clear hb
    go_wp2_with fail
    go_ret
    exact ⟨rfl, hw1⟩
theorem markBranch_any (lo hi : Nat) (v : Value) (xs : List Int) (k : Int) (w : World) (h : Ow w lo hi v xs) (hhi : hi ≤ w.heap.size) (hk : 0 ≤ k) (hk' : k + xs.length ≤ 4611686018427387904) :
    Calls Try.prog 7 #[.agg #[v], .int .i64 k] w fun e w' => e = .returned (.int .i64 (k + xs.length)) ∧ Ow w' lo hi v (marks k xs.length) ∧ Chg lo hi w w' := by
  have Hh := Lib.hid h
  obtain ⟨A, c, rfl, _, _⟩ := h.shape
  go_enter Try.func7, Try.ntmps7
  go_wp2_with fail
  refine (markInt64S_any lo hi _ xs k _ (Hh.out.alloc _) hk hk').mono ?_
  rintro e w1 ⟨rfl, ow, hc⟩
  have hc2 : Chg lo hi w w1 := (Chg.of_below ((Below.refl _ _).alloc (Nat.le_refl _) _)).wide (.inr rfl) (Nat.zero_le _) |>.trans hc
  clear hc
  go_wp2_with fail
  go_ret
  exact ⟨rfl, ow, hc2⟩
theorem heldBranch_any (B : Nat) (v : Value) (n : Nat) (k : Int) (w : World) (h : Is w B v (marks k n)) (hB : B ≤ w.heap.size) (hk : 0 ≤ k) (hk' : k + n ≤ 4611686018427387904) :
    Calls Try.prog 8 #[.agg #[v], .int .i64 k] w fun e w' => e = .returned (.int .i64 (k + n)) ∧ Below w.heap.size w w' := by
  have Hh := Lib.hid h
  have hb1 : ∀ o, Below w.heap.size w (w.alloc o) := fun o => (Below.refl _ _).alloc (Nat.le_refl _) o
  obtain ⟨A, m, c, rfl, _, _, _⟩ := h
  go_enter Try.func8, Try.ntmps8
  go_wp2_with fail
  refine (heldInt64S_any B _ n k _ (Hh.out.below ((hb1 _).mono hB)) (by simp; omega) hk hk').mono ?_
  rintro e w1 ⟨rfl, hb⟩
  have hw1 := (hb1 _).trans (hb.mono (by simp))
  have hk2 : ¬ k + (n : Int) < 0 := by omega
  clear hb
  go_wp2_with fail
  go_ret
  exact ⟨rfl, hw1⟩
end WL
end Go.Proofs.Ytgjkbmeafdgfeaa
