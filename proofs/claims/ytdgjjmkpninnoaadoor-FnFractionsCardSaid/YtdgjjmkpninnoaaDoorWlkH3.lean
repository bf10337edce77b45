/-
  WALKS, DRAWS: fractions, numbers, lists of numbers, texts of fractions.
-/
import Derived.Test.YtdgjjmkpninnoaaDoorWlkH2
import Derived.Test.YtdgjjmkpninnoaaDoorWlkA4
import Derived.Test.YtdgjjmkpninnoaaDoorWlkX2
namespace Go.Proofs.YtdgjjmkpninnoaaDoor
open Go.RowKit
set_option linter.unusedVariables false
namespace WF
open K Pl WA WX
theorem DrawMakeFraction_any (B : Nat) (v : Value) (n : Nat) (w : World) (h : IsY w B v n) (hB : B ≤ w.heap.size) :
    Calls Tryd.prog 11 #[v] w fun e w' => ∃ a b : Int, e = .returned (.tuple #[.int .i64 a, .int .i64 b]) ∧ Below w.heap.size w w' := by
  go_enter Tryd.func11, Tryd.ntmps11
  go_wp2_with fail
  refine (l01From_any B v n _ h hB).mono ?_
  rintro e w1 ⟨rfl, hs1, hb1⟩
  go_wp2_with fail
  refine (l01Draw_any B _ _ hs1).mono ?_
  rintro e w2 ⟨a, rfl, _, hs2, hc2⟩
  go_wp2_with fail
  refine (l01Draw_any B _ _ hs2).mono ?_
  rintro e w3 ⟨b, rfl, _, hs3, hc3⟩
  have hfin := hb1.trans ((hc2.trans hc3).below hb1.size (.inl (Nat.le_refl _)))
  go_wp2
  go_ret2
  exact ⟨a, b, rfl, hfin⟩
theorem chg_b {w w' : World} (b : Nat) (h : Below w.heap.size w w') : Chg b (b + 1) w w' := ⟨h.os, h.tape, h.output, h.size, fun k hk _ => h.block k hk⟩
theorem rf_chg {w w' : World} {b r : Nat} {x y : Value} (h : Rf w r x y) (hc : Chg b (b + 1) w w') (hb : b < r) : Rf w' r x y := by
  have hlt := h.here
  have hfr : ∀ o, w'.frozen? ⟨r, o, none⟩ = w.frozen? ⟨r, o, none⟩ := fun o => World.frozen?_of_block (w := w) (hc.block r hlt (by omega))
  exact ⟨⟨hc.cell h.1.1 (.inr hb), hc.cell h.1.2 (.inr hb)⟩, (hfr 0).trans h.2.1, (hfr 1).trans h.2.2⟩
theorem redT_abs (a b : Int) : (redT a b).natAbs ≤ a.natAbs := by
  unfold redT sgn
  rw [Int.natAbs_tdiv]
  refine Nat.le_trans (Nat.div_le_self _ _) ?_
  split <;> simp
theorem redB_abs (a b : Int) : (redB a b).natAbs ≤ b.natAbs := by
  unfold redB sgn
  rw [Int.natAbs_tdiv]
  refine Nat.le_trans (Nat.div_le_self _ _) ?_
  split <;> simp
theorem set_chg {w wx : World} {b r : Nat} (hc : Chg b (b + 1) w wx) (h : w.heap.size ≤ r) (o : Nat) (v : Value) : Chg b (b + 1) w (wx.setCell ⟨r, o, none⟩ v) :=
  ⟨hc.os, hc.tape, hc.output, by simpa using hc.size, fun x hx hn => (Below.heap_setCell wx ⟨r, o, none⟩ _ x (by show x ≠ r; omega)).trans (hc.block x hx hn)⟩
theorem set_src {wx : World} {B b r : Nat} (hs : Src wx B b) (h : b < r) (o : Nat) (v : Value) : Src (wx.setCell ⟨r, o, none⟩ v) B b :=
  hs.keep (Chg.setC (lo := r) (hi := r + 1) (p := ⟨r, o, none⟩) ⟨Nat.le_refl _, Nat.lt_succ_self _⟩ v) (.inl (by omega)) (.inl (by have := hs.lt; omega))
theorem fin_dr {w wx : World} {B b : Nat} {u v : Value} (hs : Src wx B b) (hc : Chg b (b + 1) w wx) (h : Rf wx w.heap.size u v) (hb : b < w.heap.size) (p q : Value) :
    ((wx.setCell ⟨w.heap.size, 0, none⟩ p).setCell ⟨w.heap.size, 1, none⟩ q).cell? ⟨w.heap.size, 0, none⟩ = some p ∧ ((wx.setCell ⟨w.heap.size, 0, none⟩ p).setCell ⟨w.heap.size, 1, none⟩ q).cell? ⟨w.heap.size, 1, none⟩ = some q ∧ Dr B b w ((wx.setCell ⟨w.heap.size, 0, none⟩ p).setCell ⟨w.heap.size, 1, none⟩ q) := by
  refine ⟨?_, ?_, set_src (set_src hs hb 0 p) hb 1 q, set_chg (set_chg hc (Nat.le_refl _) 0 p) (Nat.le_refl _) 1 q⟩
  · exact (World.cell?_setCell_other _ ⟨w.heap.size, 1, none⟩ _ _ (by simp)).trans (World.cell?_setCell_same wx ⟨w.heap.size, 0, none⟩ _ h.1.1)
  · exact World.cell?_setCell_same _ ⟨w.heap.size, 1, none⟩ _ ((World.cell?_setCell_other wx ⟨w.heap.size, 0, none⟩ _ _ (by simp)).trans h.1.2)
theorem rf_other {wx : World} {r s o : Nat} {x y v : Value} (h : Rf wx r x y) (hn : r ≠ s) : Rf (wx.setCell ⟨s, o, none⟩ v) r x y :=
  ⟨⟨(World.cell?_setCell_other wx ⟨s, o, none⟩ _ _ (by simp)).trans h.1.1, (World.cell?_setCell_other wx ⟨s, o, none⟩ _ _ (by simp)).trans h.1.2⟩, by have := h.2.1; simpa [go_sem] using this, by have := h.2.2; simpa [go_sem] using this⟩
theorem rf_set1 {wx : World} {r : Nat} {x y v : Value} (h : Rf wx r x y) : Rf (wx.setCell ⟨r, 1, none⟩ v) r x v :=
  ⟨⟨(World.cell?_setCell_other wx ⟨r, 1, none⟩ _ _ (by simp)).trans h.1.1, World.cell?_setCell_same wx ⟨r, 1, none⟩ _ h.1.2⟩, by have := h.2.1; simpa [go_sem] using this, by have := h.2.2; simpa [go_sem] using this⟩
theorem rf_set0 {wx : World} {r : Nat} {x y v : Value} (h : Rf wx r x y) : Rf (wx.setCell ⟨r, 0, none⟩ v) r v y :=
  ⟨⟨World.cell?_setCell_same wx ⟨r, 0, none⟩ _ h.1.1, (World.cell?_setCell_other wx ⟨r, 0, none⟩ _ _ (by simp)).trans h.1.2⟩, by have := h.2.1; simpa [go_sem] using this, by have := h.2.2; simpa [go_sem] using this⟩
set_option maxHeartbeats 1600000 in
theorem l01DrawFraction_any (B b : Nat) (w : World) (h : Src w B b) :
    Calls Tryd.prog 23 #[.pointer (some ⟨b, 0, none⟩)] w fun e w' => ∃ x y : Int, e = .returned (.agg #[.int .i64 x, .int .i64 y]) ∧ Dr B b w w' := by
  have hbw := h.here
  have hs0 := Lib.hid (fun o => Src.al h o)
  have hc0 := Lib.hid (fun o => Chg.al (lo := b) (hi := b + 1) w o)
  go_enter Tryd.func23, Tryd.ntmps23
  go_wp2_with fail
  refine (l01Next_any B b 81 _ (hs0.out _) (by omega)).mono ?_
  rintro e w1 ⟨r1, rfl, hr1, hs1, hc1⟩
  have b1 := hr1.1; have b1' := hr1.2.1 (by omega)
  have c1 := (hc0.out _).trans hc1
  clear hr1
  go_wp2_with fail
  refine (l01Next_any B b 20 _ hs1 (by omega)).mono ?_
  rintro e w2 ⟨r2, rfl, hr2, hs2, hc2⟩
  have b2 := hr2.1; have b2' := hr2.2.1 (by omega)
  have c2 := c1.trans hc2
  clear hr2
  go_wp2_with fail
  refine (l01Make_any (r1 - 40) (1 + r2) _ (by omega) (by omega) (by omega) (by omega) (by omega)).mono ?_
  rintro e w3 ⟨rfl, hb3⟩
  have hX := redT_abs (r1 - 40) (1 + r2)
  have hY := redB_abs (r1 - 40) (1 + r2)
  generalize redT (r1 - 40) (1 + r2) = X at *
  generalize redB (r1 - 40) (1 + r2) = Y at *
  have bX : -40 ≤ X ∧ X ≤ 40 := by omega
  have bY : -20 ≤ Y ∧ Y ≤ 20 := by omega
  have R3 := (rf_chg (rf_chg (Rf.new w (.int .i64 0) (.int .i64 0) 25) hc1 hbw) hc2 hbw).later hb3
  have s3 := hs2.later hb3
  have c3 := c2.trans (chg_b b hb3)
  have hz3 := c3.size
  clear hc1 hc2 hb3 hs1 hs2 c1 c2 hX hY b1 b1' b2 b2' hs0 hc0 h
  go_wp2_with fail
  refine (l01Next_any B b 24 _ (Src.al s3 _) (by omega)).mono ?_
  rintro e w4 ⟨r4, rfl, hr4, s4, hc4⟩
  have R4 := rf_chg (R3.al (.cells #[.int .i64 X, .int .i64 Y] 25)) hc4 hbw
  have F4 := rf_chg (Rf.new w3 (.int .i64 X) (.int .i64 Y) 25) hc4 (by omega)
  have c4 := (c3.trans (Chg.al w3 (.cells #[.int .i64 X, .int .i64 Y] 25))).trans hc4
  obtain ⟨f, hf⟩ : ∃ f, w3.heap.size = f := ⟨_, rfl⟩
  rw [hf] at F4 ⊢
  have hbf : b < f := by omega
  have hwf : w.heap.size < f := by rw [← hf]; exact R3.here
  clear hf hc4 R3 s3 c3 hz3 hr4
  have hR0 := R4.1.1
  have hR1 := R4.1.2
  have hR2 := R4.2.1
  have hR3 := R4.2.2
  have hF0 := F4.1.1
  have hF1 := F4.1.2
  have hF2 := F4.2.1
  have hF3 := F4.2.2
  by_cases q0 : r4 = 0
  · have q0b : (r4 == 0) = true := beqT q0
    clear q0
    go_wp2_with fail
    refine (l01Pick_any B b w4.heap.size 3 [0, -1, 2 * Y] _ (Src.al s4 _) (by omega) (by omega) (lit_own s4.here _ 3 rfl (by omega))).mono ?_
    rintro e w5 ⟨r5, rfl, hr5, s5, hc5⟩
    have R5 := rf_chg (R4.al (.cells #[.int .i64 0, .int .i64 (-1), .int .i64 (2 * Y)] 2)) hc5 hbw
    have F5 := rf_chg (F4.al (.cells #[.int .i64 0, .int .i64 (-1), .int .i64 (2 * Y)] 2)) hc5 hbf
    have c5 := (c4.trans (Chg.al w4 (.cells #[.int .i64 0, .int .i64 (-1), .int .i64 (2 * Y)] 2))).trans hc5
    clear hr5 hc5 hR0 hR1 hR2 hR3 hF0 hF1 hF2 hF3
    have hF1 := F5.1.2
    have hF3 := F5.2.2
    have R6 := rf_other (s := f) (o := 1) (v := .int .i64 r5) R5 (by omega)
    have F6 := rf_set1 (v := .int .i64 r5) F5
    have s6 := set_src s5 hbf 1 (.int .i64 r5)
    have c6 := set_chg c5 (by omega : w.heap.size ≤ f) 1 (.int .i64 r5)
    have g0 := F6.1.1
    have g1 := F6.1.2
    have g2 := R6.1.1
    have g3 := R6.1.2
    have g4 := R6.2.1
    have g5 := R6.2.2
    have U := fin_dr s6 c6 R6 hbw (.int .i64 X) (.int .i64 r5)
    have u0 := U.1
    have u1 := U.2.1
    have hd := Lib.hid U.2.2
    clear U R4 F4 c4 R5 F5 c5 R6 F6 s6 c6
    go_wp2_with fail
    exact bodyPost_ret (v := .agg #[.int .i64 X, .int .i64 r5]) (by simp [results, Tryd.results23, go_sem, u0, u1]) rfl ⟨X, r5, rfl, hd.out⟩
  · have q0b : (r4 == 0) = false := beqF q0
    clear q0
    by_cases q1 : r4 = 1
    · have q1b : (r4 == 1) = true := beqT q1
      clear q1
      go_wp2_with fail
      refine (l01Pick_any B b w4.heap.size 3 [999999937, -999999929, 1000000000] _ (Src.al s4 _) (by omega) (by omega) (lit_own s4.here _ 3 rfl (by omega))).mono ?_
      rintro e w5 ⟨r5, rfl, hr5, s5, hc5⟩
      have b5 : -1000000000 ≤ r5 ∧ r5 ≤ 1000000000 := by simp at hr5; omega
      have R5 := rf_chg (R4.al (.cells #[.int .i64 999999937, .int .i64 (-999999929), .int .i64 1000000000] 2)) hc5 hbw
      have F5 := rf_chg (F4.al (.cells #[.int .i64 999999937, .int .i64 (-999999929), .int .i64 1000000000] 2)) hc5 hbf
      have c5 := (c4.trans (Chg.al w4 (.cells #[.int .i64 999999937, .int .i64 (-999999929), .int .i64 1000000000] 2))).trans hc5
      clear hr5 hc5 hR0 hR1 hR2 hR3 hF0 hF1 hF2 hF3 R4 F4 c4
      go_wp2_with fail
      refine (l01Pick_any B b w5.heap.size 3 [999999893, 7, 1] _ (Src.al s5 _) (by omega) (by omega) (lit_own s5.here _ 3 rfl (by omega))).mono ?_
      rintro e w6 ⟨r6, rfl, hr6, s6, hc6⟩
      have b6 : 1 ≤ r6 ∧ r6 ≤ 1000000000 := by simp at hr6; omega
      have R6 := rf_chg (R5.al (.cells #[.int .i64 999999893, .int .i64 7, .int .i64 1] 2)) hc6 hbw
      have F6 := rf_chg (F5.al (.cells #[.int .i64 999999893, .int .i64 7, .int .i64 1] 2)) hc6 hbf
      have c6 := (c5.trans (Chg.al w5 (.cells #[.int .i64 999999893, .int .i64 7, .int .i64 1] 2))).trans hc6
      clear hr6 hc6 R5 F5 c5
      go_wp2_with fail
      refine (l01Make_any r5 r6 _ (by omega) (by omega) (by omega) (by omega) (by omega)).mono ?_
      rintro e w7 ⟨rfl, hb7⟩
      generalize redT r5 r6 = P
      generalize redB r5 r6 = Q
      have R7 := R6.later hb7
      have F7 := F6.later hb7
      have s7 := s6.later hb7
      have c7 := c6.trans (chg_b b hb7)
      clear R6 F6 c6 hb7
      have hF0 := F7.1.1
      have hF1 := F7.1.2
      have hF2 := F7.2.1
      have hF3 := F7.2.2
      have R9 := rf_other (s := f) (o := 1) (v := .int .i64 Q) (rf_other (s := f) (o := 0) (v := .int .i64 P) R7 (by omega)) (by omega)
      have F9 := rf_set1 (v := .int .i64 Q) (rf_set0 (v := .int .i64 P) F7)
      have s9 := set_src (set_src s7 hbf 0 (.int .i64 P)) hbf 1 (.int .i64 Q)
      have c9 := set_chg (set_chg c7 (by omega : w.heap.size ≤ f) 0 (.int .i64 P)) (by omega : w.heap.size ≤ f) 1 (.int .i64 Q)
      have g0 := F9.1.1
      have g1 := F9.1.2
      have g2 := R9.1.1
      have g3 := R9.1.2
      have g4 := R9.2.1
      have g5 := R9.2.2
      have U := fin_dr s9 c9 R9 hbw (.int .i64 P) (.int .i64 Q)
      have u0 := U.1
      have u1 := U.2.1
      have hd := Lib.hid U.2.2
      clear U R7 F7 c7 R9 F9 s9 c9
      go_wp2_with fail
      exact bodyPost_ret (v := .agg #[.int .i64 P, .int .i64 Q]) (by simp [results, Tryd.results23, go_sem, u0, u1]) rfl ⟨P, Q, rfl, hd.out⟩
    · have q1b : (r4 == 1) = false := beqF q1
      clear q1
      by_cases q2 : r4 = 2
      · have q2b : (r4 == 2) = true := beqT q2
        clear q2
        go_wp2_with fail
        refine (l01Pick_any B b w4.heap.size 2 [2 * X, 1000000001] _ (Src.al s4 _) (by omega) (by omega) (lit_own s4.here _ 2 rfl (by omega))).mono ?_
        rintro e w5 ⟨r5, rfl, hr5, s5, hc5⟩
        have R5 := rf_chg (R4.al (.cells #[.int .i64 (2 * X), .int .i64 1000000001] 2)) hc5 hbw
        have F5 := rf_chg (F4.al (.cells #[.int .i64 (2 * X), .int .i64 1000000001] 2)) hc5 hbf
        have c5 := (c4.trans (Chg.al w4 (.cells #[.int .i64 (2 * X), .int .i64 1000000001] 2))).trans hc5
        clear hr5 hc5 hR0 hR1 hR2 hR3 hF0 hF1 hF2 hF3
        have hF0 := F5.1.1
        have hF2 := F5.2.1
        have R6 := rf_other (s := f) (o := 0) (v := .int .i64 r5) R5 (by omega)
        have F6 := rf_set0 (v := .int .i64 r5) F5
        have s6 := set_src s5 hbf 0 (.int .i64 r5)
        have c6 := set_chg c5 (by omega : w.heap.size ≤ f) 0 (.int .i64 r5)
        have g0 := F6.1.1
        have g1 := F6.1.2
        have g2 := R6.1.1
        have g3 := R6.1.2
        have g4 := R6.2.1
        have g5 := R6.2.2
        have U := fin_dr s6 c6 R6 hbw (.int .i64 r5) (.int .i64 Y)
        have u0 := U.1
        have u1 := U.2.1
        have hd := Lib.hid U.2.2
        clear U R4 F4 c4 R5 F5 c5 R6 F6 s6 c6
        go_wp2_with fail
        exact bodyPost_ret (v := .agg #[.int .i64 r5, .int .i64 Y]) (by simp [results, Tryd.results23, go_sem, u0, u1]) rfl ⟨r5, Y, rfl, hd.out⟩
      · have q2b : (r4 == 2) = false := beqF q2
        clear q2
        have U := fin_dr s4 c4 R4 hbw (.int .i64 X) (.int .i64 Y)
        have u0 := U.1
        have u1 := U.2.1
        have hd := Lib.hid U.2.2
        clear U R4 F4 c4
        go_wp2_with fail
        exact bodyPost_ret (v := .agg #[.int .i64 X, .int .i64 Y]) (by simp [results, Tryd.results23, go_sem, u0, u1]) rfl ⟨X, Y, rfl, hd.out⟩
end WF
end Go.Proofs.YtdgjjmkpninnoaaDoor
