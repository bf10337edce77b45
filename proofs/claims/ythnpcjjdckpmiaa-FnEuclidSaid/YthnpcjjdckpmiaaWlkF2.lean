/-
  WALKS, DRAWS: a pick, an integer, two numbers, parts.
-/
import Derived.Test.YthnpcjjdckpmiaaWlkF1
import Derived.Test.YthnpcjjdckpmiaaWlkA2
import Derived.Test.YthnpcjjdckpmiaaKitS
namespace Go.Proofs.Ythnpcjjdckpmiaa
open Go.RowKit
set_option linter.unusedVariables false
namespace WF
open K Pl WA
theorem Chg.al {lo hi : Nat} (w : World) (o : Obj) : Chg lo hi w (w.alloc o) := ⟨rfl, rfl, rfl, by simp, fun k hk _ => Below.heap_alloc w o k hk⟩
theorem Src.al {w : World} {B b : Nat} (h : Src w B b) (o : Obj) : Src (w.alloc o) B b := h.later ((Below.refl _ _).alloc (Nat.le_refl _) o)
/-- What a draw leaves: the source; nothing old has turned but it. -/
def Dr (B b : Nat) (w w' : World) : Prop := Src w' B b ∧ Chg b (b + 1) w w'
set_option maxHeartbeats 800000 in
theorem l01Pick_any (B b g n : Nat) (xs : List Int) (w : World) (h : Src w B b) (hn1 : 1 ≤ n) (hn9 : n ≤ 1000) (hown : w.ownsRow (b + 1) 2 1 (.slice (some ⟨g, 0, none⟩) n n) n (xs.map (Value.int .i64))) :
    Calls Try.prog 35 #[.pointer (some ⟨b, 0, none⟩), .slice (some ⟨g, 0, none⟩) n n] w fun e w' => ∃ r, e = .returned (.int .i64 r) ∧ r ∈ xs ∧ Dr B b w w' := by
  have hlen : xs.length = n := by have := hown.1; simpa using this
  go_enter Try.func35, Try.ntmps35
  go_wp2_with fail
  refine (l01Next_any B b (n : Int) _ h (by omega)).mono ?_
  rintro e w1 ⟨r, rfl, hr, hs, hc⟩
  have hr1 := hr.1
  have hr2 := hr.2.1 (by omega)
  obtain ⟨k, rfl⟩ := Int.eq_ofNat_of_zero_le hr1
  have hk : k < n := by omega
  have hown1 := own_keep (hi := w.heap.size) hown (fun q hq => (hown.lt q hq).2) hc (.inr (Nat.le_refl _))
  have hc1 : w1.cell? ⟨g, k, none⟩ = some (.int .i64 (gx xs k)) := by
    have := hown1.cellAt k (by omega)
    rwa [map_gx xs k (by omega)] at this
  have hi : 0 ≤ (k : Int) ∧ (k : Int) < (n : Int) := by omega
  clear hr hr1 hr2
  go_wp2
  go_ret
  exact ⟨_, rfl, gx_mem xs k (by omega), hs, hc⟩
theorem lit_own {w : World} {b : Nat} (hb : b < w.heap.size) (a : Array Value) (n : Nat) (hn : a.size = n) (hn9 : n ≤ 1000) :
    (w.alloc (.cells a 2)).ownsRow (b + 1) 2 1 (.slice (some ⟨w.heap.size, 0, none⟩) n n) n a.toList :=
  World.ownsRow_lit (base := b + 1) (e := 2) (size := 1) w a n hb (by unfold maxLen; omega) (by omega)
set_option maxHeartbeats 1600000 in
theorem l01Draw_any (B b : Nat) (w : World) (h : Src w B b) :
    Calls Try.prog 36 #[.pointer (some ⟨b, 0, none⟩)] w fun e w' => ∃ r : Int, e = .returned (.int .i64 r) ∧ (-4611686018427387904 ≤ r ∧ r ≤ 1000000001) ∧ Dr B b w w' := by
  go_enter Try.func36, Try.ntmps36
  go_wp2_with fail
  refine (l01Next_any B b 24 _ h (by omega)).mono ?_
  rintro e w1 ⟨r1, rfl, hr1, hs1, hc1⟩
  by_cases hz : r1 = 0
  · have hzb : (r1 == 0) = true := by simp [hz]
    clear hz hr1
    go_wp2_with fail
    refine (l01Pick_any B b w1.heap.size 5 [1000000000, -1000000000, 1000000001, -1000000001, -4611686018427387904] _ (Src.al hs1 _) (by omega) (by omega) (lit_own hs1.here _ 5 rfl (by omega))).mono ?_
    rintro e w2 ⟨r, rfl, hr, hs2, hc2⟩
    go_wp2
    go_ret
    exact ⟨r, rfl, by simp at hr; omega, hs2, (hc1.trans (Chg.al _ _)).trans hc2⟩
  · have hzb : (r1 == 0) = false := by rw [beq_eq_false_iff_ne]; exact hz
    clear hz hr1
    go_wp2_with fail
    refine (l01Next_any B b 41 _ hs1 (by omega)).mono ?_
    rintro e w2 ⟨r2, rfl, hr2, hs2, hc2⟩
    have b2 := hr2.1; have b2' := hr2.2.1 (by omega)
    clear hr2
    go_wp2_with fail
    refine (l01Next_any B b 401 _ hs2 (by omega)).mono ?_
    rintro e w3 ⟨r3, rfl, hr3, hs3, hc3⟩
    have b3 := hr3.1; have b3' := hr3.2.1 (by omega)
    clear hr3
    go_wp2_with fail
    refine (l01Next_any B b 2000001 _ hs3 (by omega)).mono ?_
    rintro e w4 ⟨r4, rfl, hr4, hs4, hc4⟩
    have b4 := hr4.1; have b4' := hr4.2.1 (by omega)
    clear hr4
    go_wp2_with fail
    refine (l01Pick_any B b w4.heap.size 3 [r2 - 20, r3 - 200, r4 - 1000000] _ (Src.al hs4 _) (by omega) (by omega) (lit_own hs4.here _ 3 rfl (by omega))).mono ?_
    rintro e w5 ⟨r, rfl, hr, hs5, hc5⟩
    go_wp2
    go_ret
    exact ⟨r, rfl, by simp at hr; omega, hs5, ((((hc1.trans hc2).trans hc3).trans hc4).trans (Chg.al _ _)).trans hc5⟩
set_option maxHeartbeats 1600000 in
theorem l01Two_any (B : Nat) (v : Value) (n : Nat) (w : World) (h : IsY w B v n) (hB : B ≤ w.heap.size) :
    Calls Try.prog 21 #[v] w fun e w' => ∃ a b : Int, e = .returned (.tuple #[.int .i64 a, .int .i64 b]) ∧ (-4611686018427387904 ≤ a ∧ a ≤ 1000000001) ∧ (-4611686018427387904 ≤ b ∧ b ≤ 1000000001) ∧ Below w.heap.size w w' := by
  go_enter Try.func21, Try.ntmps21
  go_wp2_with fail
  refine (l01From_any B v n _ h hB).mono ?_
  rintro e w1 ⟨rfl, hs1, hb1⟩
  have hfin : ∀ w', Chg w.heap.size (w.heap.size + 1) w1 w' → Below w.heap.size w w' := fun w' hc => hb1.trans (hc.below hb1.size (.inl (Nat.le_refl _)))
  generalize hS : w.heap.size = s at *
  clear hb1
  go_wp2_with fail
  refine (l01Pick_any B s w1.heap.size 3 [20, 100, 10000] _ (Src.al hs1 _) (by omega) (by omega) (lit_own hs1.here _ 3 rfl (by omega))).mono ?_
  rintro e w2 ⟨p2, rfl, hp2, hs2, hc2⟩
  have hq2 : 20 ≤ p2 ∧ p2 ≤ 10000 := by simp at hp2; omega
  have c2 := (Chg.al (lo := s) (hi := s + 1) w1 (.cells #[.int .i64 20, .int .i64 100, .int .i64 10000] 2)).trans hc2
  clear hp2 hc2 hs1
  go_wp2_with fail
  refine (l01Next_any B s p2 _ hs2 (by omega)).mono ?_
  rintro e w3 ⟨x3, rfl, hr3, hs3, hc3⟩
  have b3 := hr3.1; have b3' := hr3.2.1 (by omega)
  have c3 := c2.trans hc3
  clear hr3 hc3 c2 hs2
  go_wp2_with fail
  refine (l01Pick_any B s w3.heap.size 3 [20, 100, 10000] _ (Src.al hs3 _) (by omega) (by omega) (lit_own hs3.here _ 3 rfl (by omega))).mono ?_
  rintro e w4 ⟨p4, rfl, hp4, hs4, hc4⟩
  have hq4 : 20 ≤ p4 ∧ p4 ≤ 10000 := by simp at hp4; omega
  have c4 := (c3.trans (Chg.al (lo := s) (hi := s + 1) w3 (.cells #[.int .i64 20, .int .i64 100, .int .i64 10000] 2))).trans hc4
  clear hp4 hc4 hs3 c3
  go_wp2_with fail
  refine (l01Next_any B s p4 _ hs4 (by omega)).mono ?_
  rintro e w5 ⟨x5, rfl, hr5, hs5, hc5⟩
  have b5 := hr5.1; have b5' := hr5.2.1 (by omega)
  have c5 := c4.trans hc5
  clear hr5 hc5 c4 hs4
  go_wp2_with fail
  refine (l01Next_any B s 24 _ hs5 (by omega)).mono ?_
  rintro e w6 ⟨x6, rfl, hr6, hs6, hc6⟩
  have b6 := hr6.1; have b6' := hr6.2.1 (by omega)
  have c6 := c5.trans hc6
  clear hr6 hc6 c5 hs5
  by_cases h0 : x6 = 0
  · have hb0 : (x6 == 0) = true := by simp [h0]
    clear h0
    go_wp2_with fail
    refine (l01Draw_any B s _ hs6).mono ?_
    rintro e w7 ⟨r, rfl, hr, hs7, hc7⟩
    go_wp2
    go_ret2
    exact ⟨r, 1 + x5, rfl, hr, by omega, by rw [hS]; exact hfin _ (c6.trans hc7)⟩
  · have hb0 : (x6 == 0) = false := by rw [beq_eq_false_iff_ne]; exact h0
    by_cases h1 : x6 = 1
    · have hb1 : (x6 == 1) = true := by simp [h1]
      clear h0 h1
      go_wp2_with fail
      refine (l01Draw_any B s _ hs6).mono ?_
      rintro e w7 ⟨r, rfl, hr, hs7, hc7⟩
      go_wp2
      go_ret2
      exact ⟨1 + x3, r, rfl, by omega, hr, by rw [hS]; exact hfin _ (c6.trans hc7)⟩
    · have hb1 : (x6 == 1) = false := by rw [beq_eq_false_iff_ne]; exact h1
      clear h0 h1
      go_wp2
      go_ret2
      exact ⟨1 + x3, 1 + x5, rfl, by omega, by omega, by rw [hS]; exact hfin _ c6⟩
theorem DrawEuclidSteps_any (B : Nat) (v : Value) (n : Nat) (w : World) (h : IsY w B v n) (hB : B ≤ w.heap.size) :
    Calls Try.prog 5 #[v] w fun e w' => ∃ a b : Int, e = .returned (.tuple #[.int .i64 a, .int .i64 b]) ∧ Below w.heap.size w w' := by
  go_enter Try.func5, Try.ntmps5
  go_wp2_with fail
  refine (l01Two_any B v n _ h hB).mono ?_
  rintro e w1 ⟨a, b, rfl, _, _, hb⟩
  go_wp2
  go_ret2
  exact ⟨a, b, rfl, hb⟩
end WF
end Go.Proofs.Ythnpcjjdckpmiaa
