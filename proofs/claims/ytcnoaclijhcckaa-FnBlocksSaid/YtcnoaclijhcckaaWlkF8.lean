/-
  WALKS, DRAWS: branches of chapter 4.
-/
import Derived.Test.YtcnoaclijhcckaaWlkF6
namespace Go.Proofs.Ytcnoaclijhcckaa
open Go.RowKit
set_option linter.unusedVariables false
namespace WF
open K Pl WA WC
set_option maxHeartbeats 1600000 in
theorem DrawSequenceOf_any (B : Nat) (v : Value) (n : Nat) (w : World) (h : IsY w B v n) (hB : B ≤ w.heap.size) :
    Calls Try.prog 29 #[v] w fun e w' => ∃ v' xs, e = .returned (.agg #[v']) ∧ Il w' w.heap.size v' xs ∧ Below w.heap.size w w' := by
  have hr0 := Lib.hid (Rz.new w (.slice none 0 0) 26)
  have hb0 := (Below.refl w.heap.size w).alloc (Nat.le_refl _) (.cells #[.slice none 0 0] 26)
  have hy0 := Lib.hid (h.below (hb0.mono hB))
  go_enter Try.func29, Try.ntmps29
  go_upto_region 1 with fail
  obtain ⟨w1, hw1⟩ : ∃ w1, w1 = w.alloc (.cells #[.slice none 0 0] 26) := ⟨_, rfl⟩
  rw [← hw1] at hr0 hb0 hy0 ⊢
  clear hw1
  have hz1 := hr0.out.here
  go_wp2_with fail
  refine (l01From_any B v n _ hy0.out (by omega)).mono ?_
  rintro e w2 ⟨rfl, hs2, hb2⟩
  have hr2 := Lib.hid (hr0.out.later hb2)
  have hw2 := hb0.trans (hb2.mono (by omega))
  have hz2 := hb2.size
  have hs2b := hs2.here
  clear hr0 hb0 hb2
  go_wp2_with fail
  refine (l03Spoil_any B w1.heap.size _ hs2).mono ?_
  rintro e w3 ⟨v3, xs, rfl, il3, hs3, hc3⟩
  have hr3 := Lib.hid (hr2.out.chg hc3 (.inl hz1))
  have hw3 := hw2.trans (hc3.below (by omega) (.inl (by omega)))
  have hz3 := hc3.size
  obtain ⟨A3, n3, c3, e3, _⟩ := il3.1
  subst e3
  have ha := (Below.refl w3.heap.size w3).alloc (Nat.le_refl _) (.cells #[.slice A3 n3 c3] 26)
  have il4 := Lib.hid (Il.later il3 ha)
  have x4 := Lib.hid (Rz.new w3 (.slice A3 n3 c3) 26)
  have s4 := Lib.hid (Src.al hs3 (.cells #[.slice A3 n3 c3] 26))
  have r4 := Lib.hid (hr3.out.al (.cells #[.slice A3 n3 c3] 26))
  have b4 := Lib.hid (hw3.trans (ha.mono (by omega)))
  clear ha il3 hs3 hr3 hw3 hc3 hr2 hw2
  go_upto_region 3 with fail
  obtain ⟨w4, hw4⟩ : ∃ w4, w4 = w3.alloc (.cells #[.slice A3 n3 c3] 26) := ⟨_, rfl⟩
  have hz4 : w3.heap.size + 1 ≤ w4.heap.size := by rw [hw4]; simp
  rw [← hw4] at il4 x4 s4 r4 b4 ⊢
  clear hw4
  go_wp2_with fail
  refine (l01Next_any B w1.heap.size 20 _ s4.out (by omega)).mono ?_
  rintro e w5 ⟨r5, rfl, hr5, hs5, hc5⟩
  have hz5 := hc5.size
  have il5 := Lib.hid (Il.chg il4.out hc5 (by omega))
  have x5 := Lib.hid (x4.out.chg hc5 (.inr (by omega)))
  have r5z := Lib.hid (r4.out.chg hc5 (.inl (by omega)))
  have b5 := Lib.hid (b4.out.trans (hc5.below (by omega) (.inl (by omega))))
  clear hr5 hc5 il4 x4 s4 r4 b4
  by_cases h0 : r5 = 0
  · have h0' : (r5 == 0) = true := by simp [h0]
    clear h0
    go_wp2_with fail
    refine (l01Pick_any B w1.heap.size w5.heap.size 4 [797, 799, 801, 1999] _ (Src.al hs5 _) (by omega) (by omega) (lit_own hs5.here _ 4 rfl (by omega))).mono ?_
    rintro e w6 ⟨r6, rfl, hr6, hs6, hc6⟩
    have hz6 := hc6.size
    simp at hz6
    have r6z := (r5z.out.al _).chg hc6 (.inl (by omega))
    have b6 := (b5.out.alloc (o := .cells #[.int .i64 797, .int .i64 799, .int .i64 801, .int .i64 1999] 2) b5.out.size).trans (hc6.below (by simp; omega) (.inl (by omega)))
    obtain ⟨r6c, r6f⟩ := r6z
    have o6 := Lib.hid (show Il ((w6.setCell ⟨w.heap.size, 0, none⟩ (.slice (some ⟨w6.heap.size, 0, none⟩) 2 2)).alloc (.cells #[.int .i64 2, .int .i64 r6] 2)) w.heap.size (.slice (some ⟨w6.heap.size, 0, none⟩) 2 2) [2, r6] by
      have hl : (w6.setCell ⟨w.heap.size, 0, none⟩ (.slice (some ⟨w6.heap.size, 0, none⟩) 2 2)).heap.size = w6.heap.size := by simp
      have ho := World.ownsRow_lit (base := w.heap.size) (e := 2) (size := 1) (w6.setCell ⟨w.heap.size, 0, none⟩ (.slice (some ⟨w6.heap.size, 0, none⟩) 2 2)) #[.int .i64 2, .int .i64 r6] 2 (by rw [hl]; omega) (by unfold maxLen; omega) rfl
      rw [hl] at ho
      exact Ow.il (Ow.of_own (n := 2) (xs := [2, r6]) ho) (Nat.le_refl _))
    have b7 := Lib.hid ((b6.setCell (p := ⟨w.heap.size, 0, none⟩) (Nat.le_refl _) (.slice (some ⟨w6.heap.size, 0, none⟩) 2 2)).alloc (o := .cells #[.int .i64 2, .int .i64 r6] 2) (by have := b6.size; simpa using this))
    have f7 := ((Rz.set ⟨r6c, r6f⟩ (.slice (some ⟨w6.heap.size, 0, none⟩) 2 2)).al (.cells #[.int .i64 2, .int .i64 r6] 2)).1
    have hlw : w.heap.size < w6.heap.size := by omega
    clear hr6 hc6 b6 il5 x5 r5z b5 hs5 hs6
    go_wp2_with fail
    refine bodyPost_ret (v := .agg #[.slice (some ⟨w6.heap.size, 0, none⟩) 2 2]) (by simp [results, Try.results29, go_sem, f7]) rfl ?_
    first | exact ⟨_, _, rfl, o6.out, b7.out⟩ | exact ⟨_, rfl, ⟨_, o6.out⟩, b7.out⟩ | exact ⟨_, rfl, _, o6.out, b7.out⟩
  · have h0' : (r5 == 0) = false := by rw [beq_eq_false_iff_ne]; exact h0
    clear h0
    obtain ⟨x5c, x5f⟩ := x5.out
    obtain ⟨r5c, r5f⟩ := r5z.out
    have Hw := Lib.hid (b5.out.setCell (p := ⟨w.heap.size, 0, none⟩) (Nat.le_refl _) (.slice A3 n3 c3))
    have Hi := Lib.hid (show Il (w5.setCell ⟨w.heap.size, 0, none⟩ (.slice A3 n3 c3)) w.heap.size (.slice A3 n3 c3) xs from ⟨(Il.chg il5.out (Chg.setC (lo := w.heap.size) (hi := w.heap.size + 1) (p := ⟨w.heap.size, 0, none⟩) ⟨Nat.le_refl _, Nat.lt_succ_self _⟩ _) (by omega)).1, fun k hk => by have := il5.out.2 k hk; omega⟩)
    have hfin := (Rz.set ⟨r5c, r5f⟩ (.slice A3 n3 c3)).1
    clear hs5 il5 b5
    go_wp2_with fail
    refine bodyPost_ret (v := .agg #[.slice A3 n3 c3]) (by simp [results, Try.results29, go_sem, hfin]) rfl ?_
    first | exact ⟨_, _, rfl, Hi.out, Hw.out⟩ | exact ⟨_, rfl, ⟨_, Hi.out⟩, Hw.out⟩ | exact ⟨_, rfl, _, Hi.out, Hw.out⟩
set_option maxHeartbeats 800000 in
theorem DrawBlocksOf_any (B : Nat) (v : Value) (n : Nat) (w : World) (h : IsY w B v n) (hB : B ≤ w.heap.size) :
    Calls Try.prog 6 #[v] w fun e w' => ∃ v' xs, e = .returned (.agg #[v']) ∧ Is w' w'.heap.size v' xs ∧ Below w.heap.size w w' := by
  have hr0 := Lib.hid (Rz.new w (.slice none 0 0) 26)
  have hb0 := (Below.refl w.heap.size w).alloc (Nat.le_refl _) (.cells #[.slice none 0 0] 26)
  have hy0 := Lib.hid (h.below (hb0.mono hB))
  go_enter Try.func6, Try.ntmps6
  go_upto_region 1 with fail
  obtain ⟨w1, hw1⟩ : ∃ w1, w1 = w.alloc (.cells #[.slice none 0 0] 26) := ⟨_, rfl⟩
  rw [← hw1] at hr0 hb0 hy0 ⊢
  clear hw1
  have hz1 := hr0.out.here
  go_wp2_with fail
  refine (DrawSequenceOf_any B v n _ hy0.out (by omega)).mono ?_
  rintro e w3 ⟨v3, xs, rfl, il3, hb3⟩
  obtain ⟨r3, f3⟩ := hr0.out.later hb3
  have hw3 := hb0.trans (hb3.mono (by omega))
  have Hw := Lib.hid (hw3.setCell (p := ⟨w.heap.size, 0, none⟩) (Nat.le_refl _) v3)
  have Hi := Lib.hid (Il.chg il3 (Chg.setC (lo := w.heap.size) (hi := w.heap.size + 1) (p := ⟨w.heap.size, 0, none⟩) ⟨Nat.le_refl _, Nat.lt_succ_self _⟩ v3) (by omega)).1
  have hfin := (Rz.set ⟨r3, f3⟩ v3).1
  obtain ⟨A3, n3, c3, e3, _⟩ := il3.1
  subst e3
  clear hw3 il3 hr0 hb3
  go_wp2_with fail
  refine bodyPost_ret (v := .agg #[.slice A3 n3 c3]) (by simp [results, Try.results6, go_sem, hfin]) rfl ?_
  first | exact ⟨_, _, rfl, Hi.out, Hw.out⟩ | exact ⟨_, rfl, ⟨_, Hi.out⟩, Hw.out⟩ | exact ⟨_, rfl, _, Hi.out, Hw.out⟩
end WF
end Go.Proofs.Ytcnoaclijhcckaa
