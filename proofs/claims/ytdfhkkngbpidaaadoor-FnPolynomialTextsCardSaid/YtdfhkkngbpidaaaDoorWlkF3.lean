/-
  WALKS, DRAWS: parts of fractions, fractions' numbers.
-/
import Derived.Test.YtdfhkkngbpidaaaDoorWlkF2
namespace Go.Proofs.YtdfhkkngbpidaaaDoor
open Go.RowKit
set_option linter.unusedVariables false
namespace WF
open K Pl WA
theorem own_dr {w w' : World} {b lo n : Nat} {e : TypeId} {s : Nat} {v : Value} {xs : List Value} (h : w.ownsRow lo e s v n xs) (hc : Chg b (b + 1) w w') (hb : b < lo) : w'.ownsRow lo e s v n xs :=
  own_keep (hi := w.heap.size) h (fun q hq => (h.lt q hq).2) hc (.inr hb)
theorem chg_grow {b : Nat} {w w6 w7 : World} {row : Option Nat} (h : Chg b (b + 1) w w6) (o : Obj) (hg : (w6.alloc o).grownBy w7 row) (hrow : ∀ k, row = some k → w.heap.size ≤ k) : Chg b (b + 1) w w7 := by
  have h2 := h.trans (Chg.al w6 o)
  exact ⟨hg.os.trans h2.os, hg.tape.trans h2.tape, hg.output.trans h2.output, Nat.le_trans h2.size hg.size, fun k hk hn => (hg.block k (Nat.lt_of_lt_of_le hk h2.size) (fun e => by have := hrow k e.symm; omega)).trans (h2.block k hk hn)⟩
theorem src_grow {b B lo : Nat} {w6 w7 : World} {row : Option Nat} (h : Src w6 B b) (o : Obj) (hg : (w6.alloc o).grownBy w7 row) (hb : b < lo) (hrow : ∀ k, row = some k → lo ≤ k) : Src w7 B b := by
  have h2 := Src.al h o
  exact h2.keep (Chg.of_grown (lo := lo) (hi := w7.heap.size + lo + (row.getD 0) + 1) hg (fun k e => ⟨hrow k e, by rw [e]; simp; omega⟩)) (.inl hb) (.inl (by have := h.lt; omega))
end WF
end Go.Proofs.YtdfhkkngbpidaaaDoor
