/-
  WALKS, DRAWS: a pick, an integer, two numbers, parts.
-/
import Derived.Test.YtdfhkkngbpidaaaDoorWlkF1
import Derived.Test.YtdfhkkngbpidaaaDoorWlkA2
import Derived.Test.YtdfhkkngbpidaaaDoorKitS
namespace Go.Proofs.YtdfhkkngbpidaaaDoor
open Go.RowKit
set_option linter.unusedVariables false
namespace WF
open K Pl WA
theorem Chg.al {lo hi : Nat} (w : World) (o : Obj) : Chg lo hi w (w.alloc o) := ⟨rfl, rfl, rfl, by simp, fun k hk _ => Below.heap_alloc w o k hk⟩
theorem Src.al {w : World} {B b : Nat} (h : Src w B b) (o : Obj) : Src (w.alloc o) B b := h.later ((Below.refl _ _).alloc (Nat.le_refl _) o)
/-- What a draw leaves: the source; nothing old has turned but it. -/
def Dr (B b : Nat) (w w' : World) : Prop := Src w' B b ∧ Chg b (b + 1) w w'
set_option maxHeartbeats 800000 in
theorem l01Pick_any (B b g n : Nat) (xs : List Int) (w : World) (h : Src w B b) (hn1 : 1 ≤ n) (hn9 : n ≤ 1000) (hown : w.ownsRow (b + 1) 2 1 (.slice (some ⟨g, 0, none⟩) n n) n (xs.map (Value.int .i64))) :
    Calls Tryd.prog 35 #[.pointer (some ⟨b, 0, none⟩), .slice (some ⟨g, 0, none⟩) n n] w fun e w' => ∃ r, e = .returned (.int .i64 r) ∧ r ∈ xs ∧ Dr B b w w' := by
  have hlen : xs.length = n := by have := hown.1; simpa using this
  go_enter Tryd.func35, Tryd.ntmps35
  go_wp2_with fail
  refine (l01Next_any B b (n : Int) _ h (by omega)).mono ?_
  rintro e w1 ⟨r, rfl, hr, hs, hc⟩
  have hr1 := hr.1
  have hr2 := hr.2.1 (by omega)
  obtain ⟨k, rfl⟩ := Int.eq_ofNat_of_zero_le hr1
  have hk : k < n := by omega
  have hown1 := own_keep (hi := w.heap.size) hown (fun q hq => (hown.lt q hq).2) hc (.inr (Nat.le_refl _))
  have hc1 : w1.cell? ⟨g, k, none⟩ = some (.int .i64 (gx xs k)) := by
    have := hown1.cellAt k (by omega)
    rwa [map_gx xs k (by omega)] at this
  have hi : 0 ≤ (k : Int) ∧ (k : Int) < (n : Int) := by omega
  clear hr hr1 hr2
  go_wp2
  go_ret
  exact ⟨_, rfl, gx_mem xs k (by omega), hs, hc⟩
theorem lit_own {w : World} {b : Nat} (hb : b < w.heap.size) (a : Array Value) (n : Nat) (hn : a.size = n) (hn9 : n ≤ 1000) :
    (w.alloc (.cells a 2)).ownsRow (b + 1) 2 1 (.slice (some ⟨w.heap.size, 0, none⟩) n n) n a.toList :=
  World.ownsRow_lit (base := b + 1) (e := 2) (size := 1) w a n hb (by unfold maxLen; omega) (by omega)
end WF
end Go.Proofs.YtdfhkkngbpidaaaDoor
