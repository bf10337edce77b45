/-
  WALKS, CHAPTER 2: the reversed polynomial; is a polynomial symmetric.
-/
import Derived.Test.YtoagjlcobeimfaaWlkB2
import Derived.Test.YtoagjlcobeimfaaWlkL3
namespace Go.Proofs.Ytoagjlcobeimfaa
open Go.RowKit
set_option linter.unusedVariables false
namespace WB
open K Pl WA WL
theorem rd_take {w : World} {B n k : Nat} {A : Option Addr} {xs : List Int} (h : Rd w B A n xs) (hk : k ≤ n) : Rd w B A k (xs.take k) :=
  ⟨by have := h.len; simp; omega, fun h0 => by
    obtain ⟨ad, e, hb, hc⟩ := h.pos (by omega)
    exact ⟨ad, e, hb, fun j hj => by rw [gx_take xs k j hj]; exact hc j (by omega)⟩⟩
end WB
end Go.Proofs.Ytoagjlcobeimfaa
