/-
  The law FnFractions returns true for every code.
  THE WALK THROUGH 'laws.FnFractions', out of the contracts of what it calls.
-/
import Derived.Test.YtdgjjmkpninnoaaDoorWlkH4
import Derived.Test.YtdgjjmkpninnoaaDoorWlkX3
import Derived.Test.YtdgjjmkpninnoaaDoorWlkA5
import Derived.Test.YtdgjjmkpninnoaaDoorWlkA7
import Derived.Test.YtdgjjmkpninnoaaDoorPlFf
import Derived.Deep.CutRange
namespace Go.Proofs.YtdgjjmkpninnoaaDoor.fnFractions
open Go.RowKit
set_option linter.unusedVariables false
open Pl K WA WW WX WF
/-- A fraction in a variable's two cells. -/
def Fp (w : World) (b : Nat) (x y : Int) : Prop := w.cell? ⟨b, 0, none⟩ = some (.int .i64 x) ∧ w.cell? ⟨b, 1, none⟩ = some (.int .i64 y)
theorem Fp.later {w w' : World} {b : Nat} {x y : Int} (h : Fp w b x y) (hb : Below w.heap.size w w') : Fp w' b x y :=
  ⟨(hb.cell (p := ⟨b, 0, none⟩) (World.block_lt_of_cell? w _ h.1)).trans h.1, (hb.cell (p := ⟨b, 1, none⟩) (World.block_lt_of_cell? w _ h.2)).trans h.2⟩
theorem Fp.al {w : World} {b : Nat} {x y : Int} (h : Fp w b x y) (o : Obj) : Fp (w.alloc o) b x y := h.later ((Below.refl _ _).alloc (Nat.le_refl _) o)
theorem Fp.new (w : World) (x y : Int) : Fp (w.alloc (.cells #[.int .i64 x, .int .i64 y] 25)) w.heap.size x y := ⟨by simp [go_sem], by simp [go_sem]⟩
theorem big_any (B : Nat) (v : Value) (n : Nat) (w : World) (h : IsY w B v n) : Calls Tryd.prog 4 #[v] w fun e w' => e = .returned (.bool (decide (4096 < n))) ∧ w = w' := by
  obtain ⟨A, c, rfl, hnc, hcm, hrd⟩ := h
  unfold maxLen at hcm
  clear hrd
  by_cases h : 4096 < n
  · have h' : (4096 : Int) < (n : Int) := by omega
    go_enter Tryd.func4, Tryd.ntmps4
    go_wp2
    go_ret
    exact ⟨ret_b (by simp [h]), rfl⟩
  · have h' : ¬ (4096 : Int) < (n : Int) := by omega
    go_enter Tryd.func4, Tryd.ntmps4
    go_wp2
    go_ret
    exact ⟨ret_b (by first | (simp; done) | simp [h]), rfl⟩
set_option maxRecDepth 16384 in
set_option maxHeartbeats 25600000 in
theorem walk (w : World) (v0 : Value) (n0 : Nat) (is0 : IsY w w.heap.size v0 n0) (ht : Tab w) :
    Calls Tryd.prog 3 #[v0] w fun e w' => e = .returned (.bool true) ∧ Below w.heap.size w w' := by
  have Hy := Lib.hid is0
  have Ht := Lib.hid ht
  have hshape := is0
  obtain ⟨A0, c0, hv0, _, _, _⟩ := hshape
  subst hv0
  clear ht
  by_cases hbig : 4096 < n0
  · have hbd : decide (4096 < n0) = true := by simp [hbig]
    go_enter Tryd.func3, Tryd.ntmps3
    go_wp2_with fail
    refine (big_any _ _ n0 _ Hy.out).mono ?_
    rintro e w' ⟨rfl, rfl⟩
    rw [hbd]
    go_wp2
    go_ret
    exact ⟨rfl, Below.refl _ _⟩
  · have hbd : decide (4096 < n0) = false := by simp [hbig]
    have Hn := Lib.hid (show n0 ≤ 4096 by omega)
    clear hbig is0
    go_enter Tryd.func3, Tryd.ntmps3
    go_wp2_with fail
    refine (big_any _ _ n0 _ Hy.out).mono ?_
    rintro e w' ⟨rfl, rfl⟩
    rw [hbd]
    go_wp2_with fail
    refine (DrawAddFractions_any _ _ n0 _ Hy.out (Nat.le_refl _)).mono ?_
    rintro e w1 ⟨t, b, u, c, rfl, hb1⟩
    have hs1 := hb1.size
    have F1 := (Fp.new w1 t b).al (.cells #[.int .i64 u, .int .i64 c] 25)
    have G1 := Fp.new (w1.alloc (.cells #[.int .i64 t, .int .i64 b] 25)) u c
    have B1 := Lib.hid ((hb1.alloc hs1 (.cells #[.int .i64 t, .int .i64 b] 25)).alloc (by simp; omega) (.cells #[.int .i64 u, .int .i64 c] 25))
    rw [show (w1.alloc (.cells #[.int .i64 t, .int .i64 b] 25)).heap.size = w1.heap.size + 1 by simp] at G1
    clear hb1
    obtain ⟨z1, hz1⟩ : ∃ z, Hid ((addF t b u c).2.2 = z) := ⟨_, Lib.hid rfl⟩
    obtain ⟨s1, hs1'⟩ : ∃ z, Hid ((addF t b u c).1 = z) := ⟨_, Lib.hid rfl⟩
    obtain ⟨s2, hs2'⟩ : ∃ z, Hid ((addF t b u c).2.1 = z) := ⟨_, Lib.hid rfl⟩
    obtain ⟨z3, hz3⟩ : ∃ z, Hid ((mulF t b u c).2.2 = z) := ⟨_, Lib.hid rfl⟩
    obtain ⟨p1, hp1'⟩ : ∃ z, Hid ((mulF t b u c).1 = z) := ⟨_, Lib.hid rfl⟩
    obtain ⟨p2, hp2'⟩ : ∃ z, Hid ((mulF t b u c).2.1 = z) := ⟨_, Lib.hid rfl⟩
    obtain ⟨z5, hz5⟩ : ∃ z, Hid ((cmpF t b u c).2 = z) := ⟨_, Lib.hid rfl⟩
    obtain ⟨m5, hm5⟩ : ∃ z, Hid ((cmpF t b u c).1 = z) := ⟨_, Lib.hid rfl⟩
    obtain ⟨a1, ha1⟩ : ∃ a, w1.heap.size = a := ⟨_, rfl⟩
    have f0 := F1.1
    have f1 := F1.2
    have g0 := G1.1
    have g1 := G1.2
    clear hs1
    rw [ha1] at F1 G1 f0 f1 g0 g1
    go_wp2_with fail
    refine (AddFractions_any t b u c _).mono ?_
    rintro e w2 ⟨rfl, hb⟩
    rw [hs1'.out, hs2'.out, hz1.out]
    have F2 := (F1.later hb).al (.cells #[.int .i64 s1, .int .i64 s2] 25)
    have G2 := (G1.later hb).al (.cells #[.int .i64 s1, .int .i64 s2] 25)
    have Sv2 := Fp.new w2 s1 s2
    have B2 := Lib.hid ((B1.out.trans (hb.mono B1.out.size)).alloc (B1.out.trans (hb.mono B1.out.size)).size (.cells #[.int .i64 s1, .int .i64 s2] 25))
    clear hb f0 f1 g0 g1 B1 F1 G1
    have f0 := F2.1
    have f1 := F2.2
    have g0 := G2.1
    have g1 := G2.2
    obtain ⟨a2, ha2⟩ : ∃ a, w2.heap.size = a := ⟨_, rfl⟩
    rw [ha2] at Sv2
    go_wp2_with fail
    refine (sAddFractions_any t b u c _).mono ?_
    rintro e w3 ⟨rfl, hb⟩
    rw [hs1'.out, hs2'.out, hz1.out]
    have F3 := (F2.later hb).al (.cells #[.int .i64 s1, .int .i64 s2] 25)
    have G3 := (G2.later hb).al (.cells #[.int .i64 s1, .int .i64 s2] 25)
    have Sv3 := (Sv2.later hb).al (.cells #[.int .i64 s1, .int .i64 s2] 25)
    have Qv3 := Fp.new w3 s1 s2
    have B3 := Lib.hid ((B2.out.trans (hb.mono B2.out.size)).alloc (B2.out.trans (hb.mono B2.out.size)).size (.cells #[.int .i64 s1, .int .i64 s2] 25))
    clear hb f0 f1 g0 g1 B2 F2 G2 Sv2
    have f0 := F3.1
    have f1 := F3.2
    have g0 := G3.1
    have g1 := G3.2
    obtain ⟨a3, ha3⟩ : ∃ a, w3.heap.size = a := ⟨_, rfl⟩
    rw [ha3] at Qv3
    go_wp2_with fail
    refine (MultiplyFractions_any t b u c _).mono ?_
    rintro e w4 ⟨rfl, hb⟩
    rw [hp1'.out, hp2'.out, hz3.out]
    have F4 := (F3.later hb).al (.cells #[.int .i64 p1, .int .i64 p2] 25)
    have G4 := (G3.later hb).al (.cells #[.int .i64 p1, .int .i64 p2] 25)
    have Sv4 := (Sv3.later hb).al (.cells #[.int .i64 p1, .int .i64 p2] 25)
    have Qv4 := (Qv3.later hb).al (.cells #[.int .i64 p1, .int .i64 p2] 25)
    have Pv4 := Fp.new w4 p1 p2
    have B4 := Lib.hid ((B3.out.trans (hb.mono B3.out.size)).alloc (B3.out.trans (hb.mono B3.out.size)).size (.cells #[.int .i64 p1, .int .i64 p2] 25))
    clear hb f0 f1 g0 g1 B3 F3 G3 Sv3 Qv3
    have f0 := F4.1
    have f1 := F4.2
    have g0 := G4.1
    have g1 := G4.2
    obtain ⟨a4, ha4⟩ : ∃ a, w4.heap.size = a := ⟨_, rfl⟩
    rw [ha4] at Pv4
    go_wp2_with fail
    refine (sMultiplyFractions_any t b u c _).mono ?_
    rintro e w5 ⟨rfl, hb⟩
    rw [hp1'.out, hp2'.out, hz3.out]
    have F5 := (F4.later hb).al (.cells #[.int .i64 p1, .int .i64 p2] 25)
    have G5 := (G4.later hb).al (.cells #[.int .i64 p1, .int .i64 p2] 25)
    have Sv5 := (Sv4.later hb).al (.cells #[.int .i64 p1, .int .i64 p2] 25)
    have Qv5 := (Qv4.later hb).al (.cells #[.int .i64 p1, .int .i64 p2] 25)
    have Pv5 := (Pv4.later hb).al (.cells #[.int .i64 p1, .int .i64 p2] 25)
    have Dv5 := Fp.new w5 p1 p2
    have B5 := Lib.hid ((B4.out.trans (hb.mono B4.out.size)).alloc (B4.out.trans (hb.mono B4.out.size)).size (.cells #[.int .i64 p1, .int .i64 p2] 25))
    clear hb f0 f1 g0 g1 B4 F4 G4 Sv4 Qv4 Pv4
    have f0 := F5.1
    have f1 := F5.2
    have g0 := G5.1
    have g1 := G5.2
    obtain ⟨a5, ha5⟩ : ∃ a, w5.heap.size = a := ⟨_, rfl⟩
    rw [ha5] at Dv5
    go_wp2_with fail
    refine (CompareFractions_any t b u c _).mono ?_
    rintro e w6 ⟨rfl, hb⟩
    rw [hz5.out, hm5.out]
    have F6 := F5.later hb
    have G6 := G5.later hb
    have S6 := Sv5.later hb
    have Q6 := Qv5.later hb
    have P6 := Pv5.later hb
    have D6 := Dv5.later hb
    have B6 := Lib.hid (B5.out.trans (hb.mono B5.out.size))
    clear hb f0 f1 g0 g1 B5 F5 G5 Sv5 Qv5 Pv5 Dv5 ha1 ha2 ha3 ha4 ha5
    have f0 := F6.1
    have f1 := F6.2
    have g0 := G6.1
    have g1 := G6.2
    have e0 := S6.1
    have e1 := S6.2
    have e2 := Q6.1
    have e3 := Q6.2
    have e4 := P6.1
    have e5 := P6.2
    have e6 := D6.1
    have e7 := D6.2
    have n1 : (z1 != z1) = false := by simp
    have n2 : (s1 != s1) = false := by simp
    have n3 : (s2 != s2) = false := by simp
    have n4 : (z3 != z3) = false := by simp
    have n5 : (p1 != p1) = false := by simp
    have n6 : (p2 != p2) = false := by simp
    go_upto_if 117 with fail
    clear n1 n2 n3 n4 n5 n6
    go_cut [15, 16] from 117 to 131 (fun _ _ wx => Below w6.heap.size w6 wx)
    case first =>
     as_aux_lemma =>
      have hm5b := cmpF_bd t b u c
      rw [hm5.out] at hm5b
      by_cases hz0 : z5 = 0
      · have hzb : (z5 == 0) = true := by simp [hz0]
        have Hc := Lib.hid (cmpF_turn (t := t) (b := b) (u := u) (c := c) (by rw [hz5.out, hz0]))
        have hc1 := Lib.hid (show (cmpF u c t b).1 = -m5 by rw [Hc.out, hm5.out])
        have hc2 := Lib.hid (show (cmpF u c t b).2 = 0 by rw [Hc.out])
        have e8 : ((0 : Int) != 0) = false := rfl
        have e9 : (-m5 != -m5) = false := by simp
        clear hz0
        go_wp2_with fail
        refine (CompareFractions_any u c t b _).mono ?_
        rintro e w7 ⟨rfl, hb⟩
        rw [hc1.out, hc2.out]
        go_wp2
        go_meet
        exact hb
      · have hzb : (z5 == 0) = false := by rw [beq_eq_false_iff_ne]; exact hz0
        clear hz0
        go_wp2
        go_meet
        exact Below.refl _ _
    case rest =>
    obtain ⟨w7, hw7⟩ : ∃ w7, w7 = wc := ⟨_, rfl⟩
    rw [← hw7] at hcut ⊢
    have F7 := F6.later hcut
    have G7 := G6.later hcut
    have S7 := S6.later hcut
    have P7 := P6.later hcut
    have B7 := Lib.hid (B6.out.trans (hcut.mono B6.out.size))
    clear hw7 hcut f0 f1 g0 g1 e0 e1 e2 e3 e4 e5 e6 e7 B6 F6 G6 S6 Q6 P6 D6 hz5 hm5
    have f0 := F7.1
    have f1 := F7.2
    have g0 := G7.1
    have g1 := G7.2
    have e0 := S7.1
    have e1 := S7.2
    have e4 := P7.1
    have e5 := P7.2
    go_upto_region 15 with fail
    go_cut [167] from 132 to 167 (fun x wx => x = .bool (decide (z1 = 0 ∧ z3 = 0 ∧ t < 1000 ∧ -1000 < t ∧ u < 1000 ∧ -1000 < u ∧ b < 1000 ∧ c < 1000)) ∧ wx = w7)
    case first =>
     as_aux_lemma =>
      by_cases k0 : z1 = 0
      · skip
        by_cases k1 : z3 = 0
        · skip
          by_cases k2 : t < 1000
          · skip
            by_cases k3 : -1000 < t
            · skip
              by_cases k4 : u < 1000
              · skip
                by_cases k5 : -1000 < u
                · skip
                  by_cases k6 : b < 1000
                  · skip
                    by_cases k7 : c < 1000
                    · skip
                      have hd : decide (z1 = 0 ∧ z3 = 0 ∧ t < 1000 ∧ -1000 < t ∧ u < 1000 ∧ -1000 < u ∧ b < 1000 ∧ c < 1000) = true := decide_eq_true ⟨k0, k1, k2, k3, k4, k5, k6, k7⟩
                      have k0b : (z1 == 0) = true := by simp [k0]
                      have k1b : (z3 == 0) = true := by simp [k1]
                      clear k0 k1
                      as_aux_lemma =>
                        go_wp2
                        go_meet
                        exact ⟨by rw [hd], rfl⟩
                    · have hd : decide (z1 = 0 ∧ z3 = 0 ∧ t < 1000 ∧ -1000 < t ∧ u < 1000 ∧ -1000 < u ∧ b < 1000 ∧ c < 1000) = false := decide_eq_false (fun h => k7 h.2.2.2.2.2.2.2)
                      have k0b : (z1 == 0) = true := by simp [k0]
                      have k1b : (z3 == 0) = true := by simp [k1]
                      clear k0 k1
                      as_aux_lemma =>
                        go_wp2
                        go_meet
                        exact ⟨by rw [hd], rfl⟩
                  · have hd : decide (z1 = 0 ∧ z3 = 0 ∧ t < 1000 ∧ -1000 < t ∧ u < 1000 ∧ -1000 < u ∧ b < 1000 ∧ c < 1000) = false := decide_eq_false (fun h => k6 h.2.2.2.2.2.2.1)
                    have k0b : (z1 == 0) = true := by simp [k0]
                    have k1b : (z3 == 0) = true := by simp [k1]
                    clear k0 k1
                    as_aux_lemma =>
                      go_wp2
                      go_meet
                      exact ⟨by rw [hd], rfl⟩
                · have hd : decide (z1 = 0 ∧ z3 = 0 ∧ t < 1000 ∧ -1000 < t ∧ u < 1000 ∧ -1000 < u ∧ b < 1000 ∧ c < 1000) = false := decide_eq_false (fun h => k5 h.2.2.2.2.2.1)
                  have k0b : (z1 == 0) = true := by simp [k0]
                  have k1b : (z3 == 0) = true := by simp [k1]
                  clear k0 k1
                  as_aux_lemma =>
                    go_wp2
                    go_meet
                    exact ⟨by rw [hd], rfl⟩
              · have hd : decide (z1 = 0 ∧ z3 = 0 ∧ t < 1000 ∧ -1000 < t ∧ u < 1000 ∧ -1000 < u ∧ b < 1000 ∧ c < 1000) = false := decide_eq_false (fun h => k4 h.2.2.2.2.1)
                have k0b : (z1 == 0) = true := by simp [k0]
                have k1b : (z3 == 0) = true := by simp [k1]
                clear k0 k1
                as_aux_lemma =>
                  go_wp2
                  go_meet
                  exact ⟨by rw [hd], rfl⟩
            · have hd : decide (z1 = 0 ∧ z3 = 0 ∧ t < 1000 ∧ -1000 < t ∧ u < 1000 ∧ -1000 < u ∧ b < 1000 ∧ c < 1000) = false := decide_eq_false (fun h => k3 h.2.2.2.1)
              have k0b : (z1 == 0) = true := by simp [k0]
              have k1b : (z3 == 0) = true := by simp [k1]
              clear k0 k1
              as_aux_lemma =>
                go_wp2
                go_meet
                exact ⟨by rw [hd], rfl⟩
          · have hd : decide (z1 = 0 ∧ z3 = 0 ∧ t < 1000 ∧ -1000 < t ∧ u < 1000 ∧ -1000 < u ∧ b < 1000 ∧ c < 1000) = false := decide_eq_false (fun h => k2 h.2.2.1)
            have k0b : (z1 == 0) = true := by simp [k0]
            have k1b : (z3 == 0) = true := by simp [k1]
            clear k0 k1
            as_aux_lemma =>
              go_wp2
              go_meet
              exact ⟨by rw [hd], rfl⟩
        · have hd : decide (z1 = 0 ∧ z3 = 0 ∧ t < 1000 ∧ -1000 < t ∧ u < 1000 ∧ -1000 < u ∧ b < 1000 ∧ c < 1000) = false := decide_eq_false (fun h => k1 h.2.1)
          have k0b : (z1 == 0) = true := by simp [k0]
          have k1b : (z3 == 0) = false := by rw [beq_eq_false_iff_ne]; exact k1
          clear k0 k1
          as_aux_lemma =>
            go_wp2
            go_meet
            exact ⟨by rw [hd], rfl⟩
      · have hd : decide (z1 = 0 ∧ z3 = 0 ∧ t < 1000 ∧ -1000 < t ∧ u < 1000 ∧ -1000 < u ∧ b < 1000 ∧ c < 1000) = false := decide_eq_false (fun h => k0 h.1)
        have k0b : (z1 == 0) = false := by rw [beq_eq_false_iff_ne]; exact k0
        clear k0
        as_aux_lemma =>
          go_wp2
          go_meet
          exact ⟨by rw [hd], rfl⟩
    case rest =>
    obtain ⟨rfl, hwc⟩ := hcut
    rw [hwc]
    clear hwc
    obtain ⟨bt, hbt⟩ : ∃ bt, Hid (decide (z1 = 0 ∧ z3 = 0 ∧ t < 1000 ∧ -1000 < t ∧ u < 1000 ∧ -1000 < u ∧ b < 1000 ∧ c < 1000) = bt) := ⟨_, Lib.hid rfl⟩
    rw [hbt.out]
    go_upto_if 167 with fail
    go_cut [] from 168 to 209 (fun wx => wx = w7)
    case first =>
     as_aux_lemma =>
      cases bt
      · go_wp2
        go_meet
        exact rfl
      · obtain ⟨k0, k1, k2, k3, k4, k5, k6, k7⟩ := of_decide_eq_true hbt.out
        obtain ⟨⟨E1, E2⟩, ⟨q1, q2, q3, q4⟩, q5, q6, q7⟩ := sum_prod (t := t) (b := b) (u := u) (c := c) (s1 := s1) (s2 := s2) (p1 := p1) (p2 := p2) (by rw [← hs1'.out, ← hs2'.out, ← k0, ← hz1.out]) (by rw [← hp1'.out, ← hp2'.out, ← k1, ← hz3.out]) ⟨k3, k2⟩ ⟨k5, k4⟩ k6 k7
        have E3 : (t * c + u * b) * s2 = s1 * b * c := E1.symm
        have E4 : t * u * p2 = p1 * b * c := E2.symm
        have w1' : IntKind.i64.wrap (s1 * b) = s1 * b := IntWalk.i64_in _ (by omega)
        have w2' : IntKind.i64.wrap (s1 * b * c) = s1 * b * c := IntWalk.i64_in _ (by omega)
        have w3' : IntKind.i64.wrap (t * c) = t * c := IntWalk.i64_in _ (by omega)
        have w4' : IntKind.i64.wrap (u * b) = u * b := IntWalk.i64_in _ (by omega)
        have w5' : IntKind.i64.wrap (t * c + u * b) = t * c + u * b := IntWalk.i64_in _ (by omega)
        have w6' : IntKind.i64.wrap ((t * c + u * b) * s2) = s1 * b * c := by rw [E3]; exact w2'
        have w7' : IntKind.i64.wrap (p1 * b) = p1 * b := IntWalk.i64_in _ (by omega)
        have w8' : IntKind.i64.wrap (p1 * b * c) = p1 * b * c := IntWalk.i64_in _ (by omega)
        have w9' : IntKind.i64.wrap (t * u) = t * u := IntWalk.i64_in _ (by omega)
        have w10' : IntKind.i64.wrap (t * u * p2) = p1 * b * c := by rw [E4]; exact w8'
        have n1 : (s1 * b * c != s1 * b * c) = false := by simp
        have n2 : (p1 * b * c != p1 * b * c) = false := by simp
        clear k0 k1 k2 k3 k4 k5 k6 k7 E1 E2 E3 E4 q1 q2 q3 q4 q5 q6 q7
        go_wp2
        go_meet
        exact rfl
    case rest =>
    rw [hcut]
    clear hcut f0 f1 g0 g1 e0 e1 e4 e5 F7 G7 S7 P7 hbt hz1 hz3 hs1' hs2' hp1' hp2'
    have hs7 := B7.out.size
    go_wp2_with fail
    refine (DrawMakeFraction_any w.heap.size _ n0 _ (Hy.out.below B7.out) hs7).mono ?_
    rintro e w8 ⟨a, d, rfl, hb⟩
    obtain ⟨B8, hs8⟩ : ∃ hB : Hid (Below w.heap.size w w8), w.heap.size ≤ w8.heap.size := ⟨Lib.hid (B7.out.trans (hb.mono hs7)), Nat.le_trans hs7 hb.size⟩
    clear hb B7 hs7
    obtain ⟨z7, hz7⟩ : ∃ z, Hid ((mkF a d).2.2 = z) := ⟨_, Lib.hid rfl⟩
    obtain ⟨h1, hh1⟩ : ∃ z, Hid ((mkF a d).1 = z) := ⟨_, Lib.hid rfl⟩
    obtain ⟨h2, hh2⟩ : ∃ z, Hid ((mkF a d).2.1 = z) := ⟨_, Lib.hid rfl⟩
    go_wp2_with fail
    refine (MakeFraction_any a d _).mono ?_
    rintro e w9 ⟨rfl, hb⟩
    rw [hh1.out, hh2.out, hz7.out]
    have H9 := Fp.new w9 h1 h2
    have B9 := Lib.hid ((B8.out.trans (hb.mono hs8)).alloc (B8.out.trans (hb.mono hs8)).size (.cells #[.int .i64 h1, .int .i64 h2] 25))
    obtain ⟨a9, ha9⟩ : ∃ a, w9.heap.size = a := ⟨_, rfl⟩
    rw [ha9] at H9
    clear hb B8 hs8
    go_wp2_with fail
    refine (sMakeFraction_any a d _).mono ?_
    rintro e w10 ⟨rfl, hb⟩
    rw [hh1.out, hh2.out, hz7.out]
    have H10 := (H9.later hb).al (.cells #[.int .i64 h1, .int .i64 h2] 25)
    have M10 := Fp.new w10 h1 h2
    have B10 := Lib.hid ((B9.out.trans (hb.mono B9.out.size)).alloc (B9.out.trans (hb.mono B9.out.size)).size (.cells #[.int .i64 h1, .int .i64 h2] 25))
    obtain ⟨a10, ha10⟩ : ∃ a, w10.heap.size = a := ⟨_, rfl⟩
    rw [ha10] at M10
    clear hb B9 H9
    have f0 := H10.1
    have f1 := H10.2
    have g0 := M10.1
    have g1 := M10.2
    have n1 : (z7 != z7) = false := by simp
    have n2 : (h1 != h1) = false := by simp
    have n3 : (h2 != h2) = false := by simp
    go_upto_if 245 with fail
    obtain ⟨W, hW⟩ : ∃ W, W = w10.alloc (.cells #[.int .i64 h1, .int .i64 h2] 25) := ⟨_, rfl⟩
    rw [← hW] at H10 B10 ⊢
    clear f0 f1 g0 g1 n1 n2 n3 M10 hW ha9 ha10
    have hsW := B10.out.size
    go_cut [23, 24, 25, 26] from 245 to 290 (fun _ _ _ _ wx => Below W.heap.size W wx)
    case first =>
     as_aux_lemma =>
      have TW := Lib.hid (Ht.out.later B10.out)
      by_cases hz0 : z7 = 0
      · have hzb : (z7 == 0) = true := by simp [hz0]
        have Hfr := Lib.hid (mkF_fr (a := a) (b := d) (x := h1) (y := h2) (by rw [← hh1.out, ← hh2.out, ← hz0, ← hz7.out]))
        have hft := Lib.hid (ftF_ok Hfr.out)
        have hr1 := Lib.hid (show (ftF h1 h2).1 = txF h1 h2 by rw [hft.out])
        have hr2 := Lib.hid (show (ftF h1 h2).2 = 0 by rw [hft.out])
        have f0 := H10.1
        have f1 := H10.2
        clear hz0
        go_wp2_with fail
        refine (FractionText_any h1 h2 _ TW.out).mono ?_
        rintro e w11 ⟨rfl, hb⟩
        rw [hr1.out, hr2.out]
        have H11 := H10.later hb
        have T11 := Lib.hid (TW.out.later hb)
        have B11 := Lib.hid hb
        obtain ⟨bd1, bd2⟩ := isFr_bds Hfr.out
        have hsz : (S (txF h1 h2)).size ≤ 7000000000000 := by
          have q1 := S_size_sgn h1 bd1.1 bd1.2
          have q2 := S_size_dec h2 bd2.1 bd2.2
          rw [S_size] at q1 q2 ⊢
          unfold txF
          rw [List.length_append]
          split
          · simp; omega
          · rw [List.length_cons]; omega
        have HL := Lib.hid (show L (S (txF h1 h2)) = txF h1 h2 from L_S _)
        have Hpf := Lib.hid (fun q1 q2 q3 => pfF_tx (x := h1) (y := h2) Hfr.out q1 q2 q3)
        obtain ⟨l, hl⟩ : ∃ l, Hid (txF h1 h2 = l) := ⟨_, Lib.hid rfl⟩
        rw [hl.out] at hsz HL Hpf ⊢
        obtain ⟨q, hq⟩ : ∃ z, Hid ((pfF l).2.2 = z) := ⟨_, Lib.hid rfl⟩
        obtain ⟨k1, hk1⟩ : ∃ z, Hid ((pfF l).1 = z) := ⟨_, Lib.hid rfl⟩
        obtain ⟨k2, hk2⟩ : ∃ z, Hid ((pfF l).2.1 = z) := ⟨_, Lib.hid rfl⟩
        clear hb f0 f1 bd1 bd2
        go_wp2_with fail
        refine (ParseFraction_any (S l) _ T11.out hsz).mono ?_
        rintro e w12 ⟨rfl, hb⟩
        rw [HL.out, hk1.out, hk2.out, hq.out]
        have H12 := (H11.later hb).al (.cells #[.int .i64 k1, .int .i64 k2] 25)
        have K12 := Fp.new w12 k1 k2
        have B12 := Lib.hid ((B11.out.trans (hb.mono B11.out.size)).alloc (B11.out.trans (hb.mono B11.out.size)).size (.cells #[.int .i64 k1, .int .i64 k2] 25))
        obtain ⟨a12, ha12⟩ : ∃ a, w12.heap.size = a := ⟨_, rfl⟩
        rw [ha12] at K12
        have f0 := H12.1
        have f1 := H12.2
        have g0 := K12.1
        have g1 := K12.2
        have n0' : ((0 : Int) != 0) = false := rfl
        clear hb H11 H12 K12 B11 T11 TW hsz
        by_cases c1 : h1 < 1000000000
        · by_cases c2 : -1000000000 < h1
          · by_cases c3 : h2 < 1000000000
            · have Hv := Hpf.out c2 c1 c3
              have e1 : q = 0 := by rw [← hq.out, Hv]
              have e2 : k1 = h1 := by rw [← hk1.out, Hv]
              have e3 : k2 = h2 := by rw [← hk2.out, Hv]
              clear Hv
              subst e1
              subst e2
              subst e3
              have n2 : (k1 != k1) = false := by simp
              have n3 : (k2 != k2) = false := by simp
              go_wp2
              go_meet
              exact B12.out
            · go_wp2
              go_meet
              exact B12.out
          · go_wp2
            go_meet
            exact B12.out
        · go_wp2
          go_meet
          exact B12.out
      · have hzb : (z7 == 0) = false := by rw [beq_eq_false_iff_ne]; exact hz0
        clear hz0
        go_wp2
        go_meet
        exact Below.refl _ _
    case rest =>
    obtain ⟨w13, hw13⟩ : ∃ w13, w13 = wc := ⟨_, rfl⟩
    rw [← hw13] at hcut ⊢
    have B13 := Lib.hid (B10.out.trans (hcut.mono hsW))
    clear hw13 hcut B10 hsW H10 hz7 hh1 hh2
    have hs13 := B13.out.size
    go_wp2_with fail
    refine (DrawCommonDivisorOf_any w.heap.size _ n0 _ (Hy.out.below B13.out) hs13).mono ?_
    rintro e w14 ⟨v27, xs, rfl, o27, hl27, hb⟩
    obtain ⟨A27, c27, rfl, hc271, hc272⟩ := o27.shape
    have I14 := Lib.hid o27.is
    have B14 := Lib.hid (B13.out.trans (hb.mono hs13))
    clear hb o27 B13 hs13
    obtain ⟨N, HN⟩ : ∃ N, Hid (xs.length = N) := ⟨_, Lib.hid rfl⟩
    rw [HN.out] at I14 hl27 hc271 ⊢
    obtain ⟨z8, hz8⟩ : ∃ z, Hid ((cdvOf xs).2 = z) := ⟨_, Lib.hid rfl⟩
    obtain ⟨g8, hg8⟩ : ∃ z, Hid ((cdvOf xs).1 = z) := ⟨_, Lib.hid rfl⟩
    go_wp2_with fail
    refine (CommonDivisorOf_any _ _ xs _ I14.out (Nat.le_refl _)).mono ?_
    rintro e w15 ⟨rfl, hb⟩
    rw [hz8.out, hg8.out]
    have I15 := Lib.hid ((I14.out.below hb).more hb.size)
    have B15 := Lib.hid (B14.out.trans (hb.mono B14.out.size))
    clear hb I14 B14
    go_wp2_with fail
    refine (sCommonDivisorOf_any _ _ xs _ I15.out (Nat.le_refl _)).mono ?_
    rintro e w16 ⟨rfl, hb⟩
    rw [hz8.out, hg8.out]
    have I16 := Lib.hid ((I15.out.below hb).more hb.size)
    have B16 := Lib.hid (B15.out.trans (hb.mono B15.out.size))
    clear hb I15 B15
    have n1 : (z8 != z8) = false := by simp
    have n2 : (g8 != g8) = false := by simp
    go_upto_if 312 with fail
    clear n1 n2
    go_cut [32, 33, 34, 35] from 312 to 333 (fun _ _ _ _ wx => Below w16.heap.size w16 wx)
    case first =>
     as_aux_lemma =>
      by_cases hz0 : z8 = 0
      · have hzb : (z8 == 0) = true := by simp [hz0]
        rw [hzb]
        clear hzb
        obtain ⟨Hg, Ha⟩ : ∃ hg : Hid (g8 = gl 0 xs), Hid (∀ n ∈ xs, isInt n = true) := by
          obtain ⟨q1, q2⟩ := cdvOf_ok (xs := xs) (g := g8) (by rw [← hg8.out, ← hz0, ← hz8.out])
          exact ⟨Lib.hid q1, Lib.hid q2⟩
        obtain ⟨A9, n9, c9, e9, hnc9, hcm9, hrd9⟩ := I16.out
        cases e9
        have Hrd := Lib.hid hrd9
        unfold maxLen at hcm9
        clear hz0 hrd9
        go_wp2_with fail
        go_loopw [32, 33] (fun x i wr => ∃ k : Nat, k ≤ N ∧ i = .int .i64 (k : Int) ∧ x = .int .i64 (gl 0 (xs.take k)) ∧ Below w16.heap.size w16 wr) (fun _ i _ => N - (intOf i).toNat)
        case atStart => exact ⟨0, Nat.zero_le _, rfl, by simp [gl], Below.refl _ _⟩
        case round =>
         as_aux_lemma =>
          obtain ⟨k, hk, rfl, rfl, hbe⟩ := hrel
          by_cases hlt : k < N
          · obtain ⟨ad, rfl, had, hcc⟩ := Hrd.out.pos (by omega)
            have hck : wr.cell? (ad.add k) = some (.int .i64 (gx xs k)) := (hbe.cell (by rw [block_of_add]; exact had)).trans (hcc k hlt)
            have hik : 0 ≤ (k : Int) ∧ (k : Int) < (N : Int) := by omega
            have Hst := cdv_step Ha.out (k := k) (by rw [HN.out]; exact hlt)
            have Hs1 := Lib.hid (show (cdv (gl 0 (xs.take k)) (gx xs k)).1 = gl 0 (xs.take (k + 1)) by rw [Hst])
            have Hs2 := Lib.hid (show (cdv (gl 0 (xs.take k)) (gx xs k)).2 = 0 by rw [Hst])
            have n0' : ((0 : Int) != 0) = false := rfl
            clear Hst hcc
            go_wp2_with fail
            refine (CommonDivisor_any _ _ _).mono ?_
            rintro e w17 ⟨rfl, hb⟩
            rw [Hs1.out, Hs2.out]
            have hb17 := hbe.trans (hb.mono hbe.size)
            clear hb hbe
            go_wp2
            go_roundw
            case rel => exact ⟨k + 1, by omega, by go_num, rfl, hb17⟩
            case measure => first | (simp [intOf]; done) | (simp [intOf]; omega)
          · obtain rfl : k = N := by omega
            have hall : gl 0 (xs.take k) = g8 := by rw [List.take_of_length_le (by rw [HN.out]; exact Nat.le_refl _), ← Hg.out]
            have n1 : (g8 != g8) = false := by simp
            rw [hall]
            clear hall
            go_wp2
            go_meet
            exact hbe
      · have hzb : (z8 == 0) = false := by rw [beq_eq_false_iff_ne]; exact hz0
        clear hz0
        go_wp2
        go_meet
        exact Below.refl _ _
    case rest =>
    obtain ⟨w18, hw18⟩ : ∃ w18, w18 = wc := ⟨_, rfl⟩
    rw [← hw18] at hcut ⊢
    have B18 := Lib.hid (B16.out.trans (hcut.mono B16.out.size))
    clear hw18 hcut B16 I16 hz8 hg8 HN
    have hs18 := B18.out.size
    go_wp2_with fail
    refine (DrawParseFraction_any w.heap.size _ n0 _ (Hy.out.below B18.out) hs18 Hn.out).mono ?_
    rintro e w19 ⟨s, rfl, hss, hb⟩
    have B19 := Lib.hid (B18.out.trans (hb.mono hs18))
    have T19 := Lib.hid (Ht.out.later B19.out)
    clear hb B18 hs18
    obtain ⟨q, hq⟩ : ∃ z, Hid ((pfF (L s)).2.2 = z) := ⟨_, Lib.hid rfl⟩
    obtain ⟨x, hx⟩ : ∃ z, Hid ((pfF (L s)).1 = z) := ⟨_, Lib.hid rfl⟩
    obtain ⟨y, hy⟩ : ∃ z, Hid ((pfF (L s)).2.1 = z) := ⟨_, Lib.hid rfl⟩
    go_wp2_with fail
    refine (ParseFraction_any s _ T19.out (by omega)).mono ?_
    rintro e w20 ⟨rfl, hb⟩
    rw [hx.out, hy.out, hq.out]
    have X20 := Fp.new w20 x y
    have B20 := Lib.hid ((B19.out.trans (hb.mono B19.out.size)).alloc (B19.out.trans (hb.mono B19.out.size)).size (.cells #[.int .i64 x, .int .i64 y] 25))
    obtain ⟨a20, ha20⟩ : ∃ a, w20.heap.size = a := ⟨_, rfl⟩
    rw [ha20] at X20
    clear hb B19 T19
    go_wp2_with fail
    refine (sParseFraction_b s _ (by omega)).mono ?_
    rintro e w21 ⟨rfl, hb⟩
    rw [hx.out, hy.out, hq.out]
    have X21 := (X20.later hb).al (.cells #[.int .i64 x, .int .i64 y] 25)
    have Y21 := Fp.new w21 x y
    have B21 := Lib.hid ((B20.out.trans (hb.mono B20.out.size)).alloc (B20.out.trans (hb.mono B20.out.size)).size (.cells #[.int .i64 x, .int .i64 y] 25))
    have T21 := Lib.hid (Ht.out.later B21.out)
    obtain ⟨a21, ha21⟩ : ∃ a, w21.heap.size = a := ⟨_, rfl⟩
    rw [ha21] at Y21
    clear hb B20 X20
    have f0 := X21.1
    have f1 := X21.2
    have g0 := Y21.1
    have g1 := Y21.2
    have n1 : (q != q) = false := by simp
    have n2 : (x != x) = false := by simp
    have n3 : (y != y) = false := by simp
    by_cases hq0 : q = 0
    · have hqb : (q != 0) = false := by simp [hq0]
      have Hv := pfF_ft (l := L s) (x := x) (y := y) (by rw [← hx.out, ← hy.out, ← hq0, ← hq.out])
      have hr1 := Lib.hid (show (ftF x y).1 = L s by rw [Hv])
      have hr2 := Lib.hid (show (ftF x y).2 = 0 by rw [Hv])
      have e1 : ((0 : Int) == 0) = true := rfl
      clear hq0 Hv
      go_wp2_with fail
      refine (FractionText_any x y _ T21.out).mono ?_
      rintro e w22 ⟨rfl, hb⟩
      rw [hr1.out, hr2.out, S_L]
      have hfin := Lib.hid (B21.out.trans (hb.mono B21.out.size))
      clear hb
      go_wp2
      go_ret
      exact ⟨rfl, hfin.out⟩
    · have hqb : (q != 0) = true := by simp [hq0]
      have hfin := B21.out
      clear hq0
      go_wp2
      go_ret
      exact ⟨rfl, hfin⟩
end Go.Proofs.YtdgjjmkpninnoaaDoor.fnFractions
