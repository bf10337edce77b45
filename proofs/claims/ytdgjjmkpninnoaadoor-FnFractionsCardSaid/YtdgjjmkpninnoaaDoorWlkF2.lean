/-
  WALKS, DRAWS: a pick, an integer, two numbers, parts.
-/
import Derived.Test.YtdgjjmkpninnoaaDoorWlkF1
import Derived.Test.YtdgjjmkpninnoaaDoorWlkA2
import Derived.Test.YtdgjjmkpninnoaaDoorKitS
namespace Go.Proofs.YtdgjjmkpninnoaaDoor
open Go.RowKit
set_option linter.unusedVariables false
namespace WF
open K Pl WA
theorem Chg.al {lo hi : Nat} (w : World) (o : Obj) : Chg lo hi w (w.alloc o) := ⟨rfl, rfl, rfl, by simp, fun k hk _ => Below.heap_alloc w o k hk⟩
theorem Src.al {w : World} {B b : Nat} (h : Src w B b) (o : Obj) : Src (w.alloc o) B b := h.later ((Below.refl _ _).alloc (Nat.le_refl _) o)
/-- What a draw leaves: the source; nothing old has turned but it. -/
def Dr (B b : Nat) (w w' : World) : Prop := Src w' B b ∧ Chg b (b + 1) w w'
set_option maxHeartbeats 800000 in
theorem l01Pick_any (B b g n : Nat) (xs : List Int) (w : World) (h : Src w B b) (hn1 : 1 ≤ n) (hn9 : n ≤ 1000) (hown : w.ownsRow (b + 1) 2 1 (.slice (some ⟨g, 0, none⟩) n n) n (xs.map (Value.int .i64))) :
    Calls Tryd.prog 38 #[.pointer (some ⟨b, 0, none⟩), .slice (some ⟨g, 0, none⟩) n n] w fun e w' => ∃ r, e = .returned (.int .i64 r) ∧ r ∈ xs ∧ Dr B b w w' := by
  have hlen : xs.length = n := by have := hown.1; simpa using this
  go_enter Tryd.func38, Tryd.ntmps38
  go_wp2_with fail
  refine (l01Next_any B b (n : Int) _ h (by omega)).mono ?_
  rintro e w1 ⟨r, rfl, hr, hs, hc⟩
  have hr1 := hr.1
  have hr2 := hr.2.1 (by omega)
  obtain ⟨k, rfl⟩ := Int.eq_ofNat_of_zero_le hr1
  have hk : k < n := by omega
  have hown1 := own_keep (hi := w.heap.size) hown (fun q hq => (hown.lt q hq).2) hc (.inr (Nat.le_refl _))
  have hc1 : w1.cell? ⟨g, k, none⟩ = some (.int .i64 (gx xs k)) := by
    have := hown1.cellAt k (by omega)
    rwa [map_gx xs k (by omega)] at this
  have hi : 0 ≤ (k : Int) ∧ (k : Int) < (n : Int) := by omega
  clear hr hr1 hr2
  go_wp2
  go_ret
  exact ⟨_, rfl, gx_mem xs k (by omega), hs, hc⟩
theorem lit_own {w : World} {b : Nat} (hb : b < w.heap.size) (a : Array Value) (n : Nat) (hn : a.size = n) (hn9 : n ≤ 1000) :
    (w.alloc (.cells a 2)).ownsRow (b + 1) 2 1 (.slice (some ⟨w.heap.size, 0, none⟩) n n) n a.toList :=
  World.ownsRow_lit (base := b + 1) (e := 2) (size := 1) w a n hb (by unfold maxLen; omega) (by omega)
set_option maxHeartbeats 1600000 in
theorem l01Draw_any (B b : Nat) (w : World) (h : Src w B b) :
    Calls Tryd.prog 31 #[.pointer (some ⟨b, 0, none⟩)] w fun e w' => ∃ r : Int, e = .returned (.int .i64 r) ∧ (-4611686018427387904 ≤ r ∧ r ≤ 1000000001) ∧ Dr B b w w' := by
  go_enter Tryd.func31, Tryd.ntmps31
  go_wp2_with fail
  refine (l01Next_any B b 24 _ h (by omega)).mono ?_
  rintro e w1 ⟨r1, rfl, hr1, hs1, hc1⟩
  by_cases hz : r1 = 0
  · have hzb : (r1 == 0) = true := by simp [hz]
    clear hz hr1
    go_wp2_with fail
    refine (l01Pick_any B b w1.heap.size 5 [1000000000, -1000000000, 1000000001, -1000000001, -4611686018427387904] _ (Src.al hs1 _) (by omega) (by omega) (lit_own hs1.here _ 5 rfl (by omega))).mono ?_
    rintro e w2 ⟨r, rfl, hr, hs2, hc2⟩
    go_wp2
    go_ret
    exact ⟨r, rfl, by simp at hr; omega, hs2, (hc1.trans (Chg.al _ _)).trans hc2⟩
  · have hzb : (r1 == 0) = false := by rw [beq_eq_false_iff_ne]; exact hz
    clear hz hr1
    go_wp2_with fail
    refine (l01Next_any B b 41 _ hs1 (by omega)).mono ?_
    rintro e w2 ⟨r2, rfl, hr2, hs2, hc2⟩
    have b2 := hr2.1; have b2' := hr2.2.1 (by omega)
    clear hr2
    go_wp2_with fail
    refine (l01Next_any B b 401 _ hs2 (by omega)).mono ?_
    rintro e w3 ⟨r3, rfl, hr3, hs3, hc3⟩
    have b3 := hr3.1; have b3' := hr3.2.1 (by omega)
    clear hr3
    go_wp2_with fail
    refine (l01Next_any B b 2000001 _ hs3 (by omega)).mono ?_
    rintro e w4 ⟨r4, rfl, hr4, hs4, hc4⟩
    have b4 := hr4.1; have b4' := hr4.2.1 (by omega)
    clear hr4
    go_wp2_with fail
    refine (l01Pick_any B b w4.heap.size 3 [r2 - 20, r3 - 200, r4 - 1000000] _ (Src.al hs4 _) (by omega) (by omega) (lit_own hs4.here _ 3 rfl (by omega))).mono ?_
    rintro e w5 ⟨r, rfl, hr, hs5, hc5⟩
    go_wp2
    go_ret
    exact ⟨r, rfl, by simp at hr; omega, hs5, ((((hc1.trans hc2).trans hc3).trans hc4).trans (Chg.al _ _)).trans hc5⟩
end WF
end Go.Proofs.YtdgjjmkpninnoaaDoor
