/-
  WALKS, CHAPTER 1: a text parsed to a fraction by the reference.
-/
import Derived.Test.YtdgjjmkpninnoaaDoorWlkX2
namespace Go.Proofs.YtdgjjmkpninnoaaDoor
open Go.RowKit
set_option linter.unusedVariables false
namespace WX
open K Pl WA WW
set_option maxHeartbeats 6400000 in
theorem sParseFraction_any (s : ByteArray) (w : World) (hs : s.size ≤ 7000000000000) : Calls Tryd.prog 21 #[.string s] w (Ft (pfT (L s)) w) := by
  have hb1 : ∀ o, Below w.heap.size w (w.alloc o) := fun o => (Below.refl _ _).alloc (Nat.le_refl _) o
  by_cases h0 : 0 < s.size
  · have e0 : decide ((0 : Int) < (s.size : Int)) = true := decide_eq_true (by omega)
    by_cases hm : bx (L s) 0 = 45
    · have hh : (L s).head? = some 45 := by rw [bx_head _ (by rw [L_len]; exact h0), hm]
      have e1 : (((s[0]'h0).toNat : Int) == 45) = true := by rw [L_at s 0 h0, hm]; rfl
      have Hb := Lib.hid (show L (s.extract 1 s.size) = bodS (L s) by rw [(bodS_minus hh).1, L_extract, List.take_of_length_le (by simp [L_len])])
      have Hsg := Lib.hid (bodS_minus hh).2
      have Hbs := Lib.hid (show (s.extract 1 s.size).size ≤ 7000000000000 by rw [← L_len, L_extract]; simp [L_len]; omega)
      have hi1 : (1 : Int) ≤ (s.size : Int) := by omega
      clear hm hh
      go_enter Tryd.func21, Tryd.ntmps21
      go_wp2_with fail
      refine (l01Split_any (s.extract 1 s.size) 47 _ rfl _ (by have := Hbs.out; omega)).mono ?_
      rintro e w1 ⟨v1, rfl, o1, hw1⟩
      rw [Hb.out] at o1
      have hlp0 := spl_ne 47 (bodS (L s))
      have hmem := spl_mem_len 47 (bodS (L s))
      have HT0 := Lib.hid (show topS (L s) = vlI (gs (spl 47 (bodS (L s))) 0) from rfl)
      have HB0 := Lib.hid (show botS (L s) = if (spl 47 (bodS (L s))).length = 2 then vlI (gs (spl 47 (bodS (L s))) 1) else 1 from rfl)
      have H20 := Lib.hid (fun h => pfT_out (t := L s) h)
      have H2a : ∀ H, spl 47 (bodS (L s)) = H → ¬ 2 < H.length → Hid (¬ 2 < (spl 47 (bodS (L s))).length) := fun H h1 h2 => Lib.hid (by rw [h1]; exact h2)
      have hblen : (bodS (L s)).length ≤ 7000000000000 := by rw [← Hb.out, L_len]; exact Hbs.out
      generalize hH : spl 47 (bodS (L s)) = H at o1 hlp0 hmem HT0 HB0 H20
      have H2b := H2a H hH
      have hlp : 0 < H.length := by cases H <;> simp at hlp0 ⊢
      obtain ⟨g1, c1, rfl⟩ := Go.Joins.ownsRow_form o1.1 hlp
      have hcc : H.length ≤ c1 ∧ c1 ≤ maxLen := by
        obtain ⟨_, _, e0, q1, q2, _⟩ := o1.is
        simp only [Value.slice.injEq] at e0
        obtain ⟨_, _, e1⟩ := e0
        subst e1
        exact ⟨q1, q2⟩
      obtain ⟨hc1a, hc1b⟩ := hcc
      unfold maxLen at hc1b
      have hcell : ∀ j, j < H.length → w1.cell? ⟨g1, j, none⟩ = some (.string (S (gs H j))) := fun j hj => by rw [o1.1.cellAt j (by omega)]; exact map_sv H j hj
      have hce0 := hcell 0 hlp
      have hg1 : g1 < w1.heap.size := World.block_lt_of_cell? w1 ⟨g1, 0, none⟩ hce0
      have hz0 : (S (gs H 0)).size ≤ 7000000000000 := by rw [S_size]; have := hmem _ (gs_mem H 0 hlp); omega
      have rf1 : Rf w1 w.heap.size (.int .i64 0) (.int .i64 0) := (Rf.new w _ _ _).later hw1
      have bw1 : Below w.heap.size w w1 := (hb1 _).trans (hw1.mono (by simp))
      have hHc : Hid (1 < H.length → w1.cell? ⟨g1, 1, none⟩ = some (.string (S (gs H 1)))) := Lib.hid (fun h => hcell 1 h)
      have hz1 : Hid (1 < H.length → (S (gs H 1)).size ≤ 7000000000000) := Lib.hid (fun h => by rw [S_size]; have := hmem _ (gs_mem H 1 h); omega)
      have hlI : (0 : Int) < (H.length : Int) := by omega
      have Hmm := Lib.hid hH
      clear hw1 o1 hcell hb1 hmem hlp0 hH H2a
      go_wp2_with fail
      refine (l01Value_any (S (gs H 0)) _ (by omega)).mono ?_
      rintro e w' ⟨rfl, rfl⟩
      rw [L_S]
      have hzb := vlI_bd (gs H 0)
      generalize hz : vlI (gs H 0) = z at *
      have hsx : w.heap.size < w1.heap.size := rf1.here
      have N0 := Lib.hid (fun x y => Rf.new w1 x y 25)
      have M0 := Lib.hid (fun x y : Value => rf1.al (.cells #[x, y] 25))
      have K0 := Lib.hid (fun x y : Value => bw1.alloc bw1.size (.cells #[x, y] 25))
      have hab : -1000000000 ≤ (-z) ∧ (-z) < 1000000000 := by omega
      by_cases hl2 : H.length = 2
      · have e2 : ((H.length : Int) == 2) = true := beqT (by omega)
        have e4 : decide ((2 : Int) < (H.length : Int)) = false := decide_eq_false (by omega)
        have hc1 := hHc.out (by omega)
        have hzz := hz1.out (by omega)
        have hlI2 : (1 : Int) < (H.length : Int) := by omega
        have H2 := H2b (by omega)
        have HBt := Lib.hid (show botS (L s) = vlI (gs H 1) by rw [HB0.out, if_pos hl2])
        clear hHc hz1 rf1 bw1 HB0 hl2
        go_wp2_with fail
        refine (l01Value_any (S (gs H 1)) _ (by omega)).mono ?_
        rintro e w' ⟨rfl, rfl⟩
        rw [L_S]
        generalize hy : vlI (gs H 1) = y at *
        have N1 := Lib.hid (N0.out (.int .i64 z) (.int .i64 y))
        by_cases hneg : z < 0
        · have Hr := Lib.hid (H20.out (.inr (by rw [HT0.out]; exact hneg)))
          have e5 : decide (z < 0) = true := decide_eq_true hneg
          have n0 := N1.out.1.1
          have n1 := N1.out.1.2
          clear hneg
          clear hsx
          obtain ⟨u0, u1, u2⟩ := Rf.fin (M0.out (.int .i64 z) (.int .i64 y)) (Nat.le_refl _) (K0.out (.int .i64 z) (.int .i64 y)) (.int .i64 0) (.int .i64 0)
          have U2 := Lib.hid u2
          have rc := (M0.out (.int .i64 z) (.int .i64 y))
          have rc0 := rc.1.1
          have rc1 := rc.1.2
          have rc2 := rc.2.1
          have rc3 := rc.2.2
          clear u2 rc
          go_wp2_with fail
          exact bodyPost_ret (v := .tuple #[.agg #[.int .i64 0, .int .i64 0], .int .i64 6]) (by simp [results, Tryd.results21, go_sem, u0, u1]) rfl (Ft.mk Hr.out U2.out)
        · have HT := Lib.hid (show ¬ topS (L s) < 0 by rw [HT0.out]; exact hneg)
          have e5 : decide (z < 0) = false := decide_eq_false hneg
          have HA := Lib.hid (show sigS (L s) * topS (L s) = (-z) by rw [Hsg.out, HT0.out]; omega)
          have n0 := N1.out.1.1
          have n1 := N1.out.1.2
          have FR := Lib.hid (M0.out (.int .i64 (-z)) (.int .i64 y))
          have FB := Lib.hid (K0.out (.int .i64 (-z)) (.int .i64 y))
          have FV := Lib.hid (N0.out (.int .i64 (-z)) (.int .i64 y))
          have fv0 := FV.out.1.1
          have fv1 := FV.out.1.2
          cases hF : isFr (-z) y
          · have Hr := Lib.hid (pfT_no (t := L s) H2.out (by have := HT.out; omega) HA.out HBt.out (.inl hF))
            go_wp2_with fail
            refine (l01Fraction_any (-z) y _).mono ?_
            rintro e w6 ⟨rfl, hb6⟩
            rw [hF]
            have P0 := Lib.hid (FR.out.later hb6)
            have P3 := Lib.hid (FB.out.trans (hb6.mono FB.out.size))
            clear hb6 fv0 fv1 FV FR FB
            obtain ⟨u0, u1, u2⟩ := Rf.fin P0.out (Nat.le_refl _) P3.out (.int .i64 0) (.int .i64 0)
            have U2 := Lib.hid u2
            have rc := P0.out
            have rc0 := rc.1.1
            have rc1 := rc.1.2
            have rc2 := rc.2.1
            have rc3 := rc.2.2
            clear u2 rc
            go_wp2_with fail
            exact bodyPost_ret (v := .tuple #[.agg #[.int .i64 0, .int .i64 0], .int .i64 6]) (by simp [results, Tryd.results21, go_sem, u0, u1]) rfl (Ft.mk Hr.out U2.out)
          · obtain ⟨ba, bb⟩ := isFr_bds hF
            go_wp2_with fail
            refine (l01Fraction_any (-z) y _).mono ?_
            rintro e w6 ⟨rfl, hb6⟩
            rw [hF]
            have P0 := Lib.hid (FR.out.later hb6)
            have P1 := Lib.hid (FV.out.later hb6)
            have P3 := Lib.hid (FB.out.trans (hb6.mono FB.out.size))
            have p0 := P1.out.1.1
            have p1 := P1.out.1.2
            clear hb6 fv0 fv1 FV FR FB
            go_wp2_with fail
            refine (l01Text_any (-z) y _ ba bb).mono ?_
            rintro e w7 ⟨rfl, hb7⟩
            have Q0 := Lib.hid (P0.out.later hb7)
            have Q1 := Lib.hid (P1.out.later hb7)
            have Q3 := Lib.hid (P3.out.trans (hb7.mono P3.out.size))
            have q0 := Q1.out.1.1
            have q1 := Q1.out.1.2
            clear hb7 p0 p1 P0 P1 P3
            by_cases hx : txF (-z) y = L s
            · have Hr := Lib.hid (pfT_yes (t := L s) H2.out (by have := HT.out; omega) HA.out HBt.out hF hx)
              have t1 : ((S (txF (-z) y)).toList == s.toList) = true := by rw [toList_L, toList_L, L_S, hx]; simp
              have t2 : (S (txF (-z) y)).toList = s.toList := by rw [toList_L, toList_L, L_S, hx]
              clear hx
              generalize S (txF (-z) y) = tx at *
              obtain ⟨u0, u1, u2⟩ := Rf.fin Q0.out (Nat.le_refl _) Q3.out (.int .i64 (-z)) (.int .i64 y)
              have U2 := Lib.hid u2
              have rc0 := Q0.out.1.1
              have rc1 := Q0.out.1.2
              have rc2 := Q0.out.2.1
              have rc3 := Q0.out.2.2
              clear u2
              go_wp2_with fail
              exact bodyPost_ret (v := .tuple #[.agg #[.int .i64 (-z), .int .i64 y], .int .i64 0]) (by simp [results, Tryd.results21, go_sem, u0, u1]) rfl (Ft.mk Hr.out U2.out)
            · have Hr := Lib.hid (pfT_no (t := L s) H2.out (by have := HT.out; omega) HA.out HBt.out (.inr hx))
              have t1 : ((S (txF (-z) y)).toList == s.toList) = false := by rw [toList_L, toList_L, L_S]; simp [hx]
              have t2 : ¬ (S (txF (-z) y)).toList = s.toList := by rw [toList_L, toList_L, L_S]; exact hx
              clear hx
              generalize S (txF (-z) y) = tx at *
              obtain ⟨u0, u1, u2⟩ := Rf.fin Q0.out (Nat.le_refl _) Q3.out (.int .i64 0) (.int .i64 0)
              have U2 := Lib.hid u2
              have rc := Q0.out
              have rc0 := rc.1.1
              have rc1 := rc.1.2
              have rc2 := rc.2.1
              have rc3 := rc.2.2
              clear u2 rc
              go_wp2_with fail
              exact bodyPost_ret (v := .tuple #[.agg #[.int .i64 0, .int .i64 0], .int .i64 6]) (by simp [results, Tryd.results21, go_sem, u0, u1]) rfl (Ft.mk Hr.out U2.out)
      · have e2 : ((H.length : Int) == 2) = false := beqF (by omega)
        have HBt := Lib.hid (show botS (L s) = 1 by rw [HB0.out, if_neg hl2])
        clear hHc hz1 rf1 bw1 HB0
        by_cases hl3 : 2 < H.length
        · have Hr := Lib.hid (H20.out (.inl hl3))
          have e4 : decide ((2 : Int) < (H.length : Int)) = true := decide_eq_true (by omega)
          have n0 := (N0.out (.int .i64 z) (.int .i64 1)).1.1
          have n1 := (N0.out (.int .i64 z) (.int .i64 1)).1.2
          clear hl2 hl3
          clear hsx
          obtain ⟨u0, u1, u2⟩ := Rf.fin (M0.out (.int .i64 z) (.int .i64 1)) (Nat.le_refl _) (K0.out (.int .i64 z) (.int .i64 1)) (.int .i64 0) (.int .i64 0)
          have U2 := Lib.hid u2
          have rc := (M0.out (.int .i64 z) (.int .i64 1))
          have rc0 := rc.1.1
          have rc1 := rc.1.2
          have rc2 := rc.2.1
          have rc3 := rc.2.2
          clear u2 rc
          go_wp2_with fail
          exact bodyPost_ret (v := .tuple #[.agg #[.int .i64 0, .int .i64 0], .int .i64 6]) (by simp [results, Tryd.results21, go_sem, u0, u1]) rfl (Ft.mk Hr.out U2.out)
        · have e4 : decide ((2 : Int) < (H.length : Int)) = false := decide_eq_false (by omega)
          have H2 := H2b hl3
          clear hl2 hl3
          by_cases hneg : z < 0
          · have Hr := Lib.hid (H20.out (.inr (by rw [HT0.out]; exact hneg)))
            have e5 : decide (z < 0) = true := decide_eq_true hneg
            have n0 := (N0.out (.int .i64 z) (.int .i64 1)).1.1
            have n1 := (N0.out (.int .i64 z) (.int .i64 1)).1.2
            clear hneg
            clear hsx
            obtain ⟨u0, u1, u2⟩ := Rf.fin (M0.out (.int .i64 z) (.int .i64 1)) (Nat.le_refl _) (K0.out (.int .i64 z) (.int .i64 1)) (.int .i64 0) (.int .i64 0)
            have U2 := Lib.hid u2
            have rc := (M0.out (.int .i64 z) (.int .i64 1))
            have rc0 := rc.1.1
            have rc1 := rc.1.2
            have rc2 := rc.2.1
            have rc3 := rc.2.2
            clear u2 rc
            go_wp2_with fail
            exact bodyPost_ret (v := .tuple #[.agg #[.int .i64 0, .int .i64 0], .int .i64 6]) (by simp [results, Tryd.results21, go_sem, u0, u1]) rfl (Ft.mk Hr.out U2.out)
          · have HT := Lib.hid (show ¬ topS (L s) < 0 by rw [HT0.out]; exact hneg)
            have e5 : decide (z < 0) = false := decide_eq_false hneg
            have HA := Lib.hid (show sigS (L s) * topS (L s) = (-z) by rw [Hsg.out, HT0.out]; omega)
            have n0 := (N0.out (.int .i64 z) (.int .i64 1)).1.1
            have n1 := (N0.out (.int .i64 z) (.int .i64 1)).1.2
            have FR := Lib.hid (M0.out (.int .i64 (-z)) (.int .i64 1))
            have FB := Lib.hid (K0.out (.int .i64 (-z)) (.int .i64 1))
            have FV := Lib.hid (N0.out (.int .i64 (-z)) (.int .i64 1))
            have fv0 := FV.out.1.1
            have fv1 := FV.out.1.2
            cases hF : isFr (-z) 1
            · have Hr := Lib.hid (pfT_no (t := L s) H2.out (by have := HT.out; omega) HA.out HBt.out (.inl hF))
              go_wp2_with fail
              refine (l01Fraction_any (-z) 1 _).mono ?_
              rintro e w6 ⟨rfl, hb6⟩
              rw [hF]
              have P0 := Lib.hid (FR.out.later hb6)
              have P3 := Lib.hid (FB.out.trans (hb6.mono FB.out.size))
              clear hb6 fv0 fv1 FV FR FB
              obtain ⟨u0, u1, u2⟩ := Rf.fin P0.out (Nat.le_refl _) P3.out (.int .i64 0) (.int .i64 0)
              have U2 := Lib.hid u2
              have rc := P0.out
              have rc0 := rc.1.1
              have rc1 := rc.1.2
              have rc2 := rc.2.1
              have rc3 := rc.2.2
              clear u2 rc
              go_wp2_with fail
              exact bodyPost_ret (v := .tuple #[.agg #[.int .i64 0, .int .i64 0], .int .i64 6]) (by simp [results, Tryd.results21, go_sem, u0, u1]) rfl (Ft.mk Hr.out U2.out)
            · obtain ⟨ba, bb⟩ := isFr_bds hF
              go_wp2_with fail
              refine (l01Fraction_any (-z) 1 _).mono ?_
              rintro e w6 ⟨rfl, hb6⟩
              rw [hF]
              have P0 := Lib.hid (FR.out.later hb6)
              have P1 := Lib.hid (FV.out.later hb6)
              have P3 := Lib.hid (FB.out.trans (hb6.mono FB.out.size))
              have p0 := P1.out.1.1
              have p1 := P1.out.1.2
              clear hb6 fv0 fv1 FV FR FB
              go_wp2_with fail
              refine (l01Text_any (-z) 1 _ ba bb).mono ?_
              rintro e w7 ⟨rfl, hb7⟩
              have Q0 := Lib.hid (P0.out.later hb7)
              have Q1 := Lib.hid (P1.out.later hb7)
              have Q3 := Lib.hid (P3.out.trans (hb7.mono P3.out.size))
              have q0 := Q1.out.1.1
              have q1 := Q1.out.1.2
              clear hb7 p0 p1 P0 P1 P3
              by_cases hx : txF (-z) 1 = L s
              · have Hr := Lib.hid (pfT_yes (t := L s) H2.out (by have := HT.out; omega) HA.out HBt.out hF hx)
                have t1 : ((S (txF (-z) 1)).toList == s.toList) = true := by rw [toList_L, toList_L, L_S, hx]; simp
                have t2 : (S (txF (-z) 1)).toList = s.toList := by rw [toList_L, toList_L, L_S, hx]
                clear hx
                generalize S (txF (-z) 1) = tx at *
                obtain ⟨u0, u1, u2⟩ := Rf.fin Q0.out (Nat.le_refl _) Q3.out (.int .i64 (-z)) (.int .i64 1)
                have U2 := Lib.hid u2
                have rc0 := Q0.out.1.1
                have rc1 := Q0.out.1.2
                have rc2 := Q0.out.2.1
                have rc3 := Q0.out.2.2
                clear u2
                go_wp2_with fail
                exact bodyPost_ret (v := .tuple #[.agg #[.int .i64 (-z), .int .i64 1], .int .i64 0]) (by simp [results, Tryd.results21, go_sem, u0, u1]) rfl (Ft.mk Hr.out U2.out)
              · have Hr := Lib.hid (pfT_no (t := L s) H2.out (by have := HT.out; omega) HA.out HBt.out (.inr hx))
                have t1 : ((S (txF (-z) 1)).toList == s.toList) = false := by rw [toList_L, toList_L, L_S]; simp [hx]
                have t2 : ¬ (S (txF (-z) 1)).toList = s.toList := by rw [toList_L, toList_L, L_S]; exact hx
                clear hx
                generalize S (txF (-z) 1) = tx at *
                obtain ⟨u0, u1, u2⟩ := Rf.fin Q0.out (Nat.le_refl _) Q3.out (.int .i64 0) (.int .i64 0)
                have U2 := Lib.hid u2
                have rc := Q0.out
                have rc0 := rc.1.1
                have rc1 := rc.1.2
                have rc2 := rc.2.1
                have rc3 := rc.2.2
                clear u2 rc
                go_wp2_with fail
                exact bodyPost_ret (v := .tuple #[.agg #[.int .i64 0, .int .i64 0], .int .i64 6]) (by simp [results, Tryd.results21, go_sem, u0, u1]) rfl (Ft.mk Hr.out U2.out)
    · have hh : (L s).head? ≠ some 45 := by rw [bx_head _ (by rw [L_len]; exact h0)]; intro e; exact hm (Option.some.inj e)
      have e1 : (((s[0]'h0).toNat : Int) == 45) = false := by rw [L_at s 0 h0]; exact bytes_ne (d := 45) hm
      have Hb := Lib.hid (show L s = bodS (L s) from (bodS_plus hh).1.symm)
      have Hsg := Lib.hid (bodS_plus hh).2
      have Hbs := Lib.hid hs
      clear hm hh
      go_enter Tryd.func21, Tryd.ntmps21
      go_wp2_with fail
      refine (l01Split_any s 47 _ rfl _ (by have := Hbs.out; omega)).mono ?_
      rintro e w1 ⟨v1, rfl, o1, hw1⟩
      rw [Hb.out] at o1
      have hlp0 := spl_ne 47 (bodS (L s))
      have hmem := spl_mem_len 47 (bodS (L s))
      have HT0 := Lib.hid (show topS (L s) = vlI (gs (spl 47 (bodS (L s))) 0) from rfl)
      have HB0 := Lib.hid (show botS (L s) = if (spl 47 (bodS (L s))).length = 2 then vlI (gs (spl 47 (bodS (L s))) 1) else 1 from rfl)
      have H20 := Lib.hid (fun h => pfT_out (t := L s) h)
      have H2a : ∀ H, spl 47 (bodS (L s)) = H → ¬ 2 < H.length → Hid (¬ 2 < (spl 47 (bodS (L s))).length) := fun H h1 h2 => Lib.hid (by rw [h1]; exact h2)
      have hblen : (bodS (L s)).length ≤ 7000000000000 := by rw [← Hb.out, L_len]; exact Hbs.out
      generalize hH : spl 47 (bodS (L s)) = H at o1 hlp0 hmem HT0 HB0 H20
      have H2b := H2a H hH
      have hlp : 0 < H.length := by cases H <;> simp at hlp0 ⊢
      obtain ⟨g1, c1, rfl⟩ := Go.Joins.ownsRow_form o1.1 hlp
      have hcc : H.length ≤ c1 ∧ c1 ≤ maxLen := by
        obtain ⟨_, _, e0, q1, q2, _⟩ := o1.is
        simp only [Value.slice.injEq] at e0
        obtain ⟨_, _, e1⟩ := e0
        subst e1
        exact ⟨q1, q2⟩
      obtain ⟨hc1a, hc1b⟩ := hcc
      unfold maxLen at hc1b
      have hcell : ∀ j, j < H.length → w1.cell? ⟨g1, j, none⟩ = some (.string (S (gs H j))) := fun j hj => by rw [o1.1.cellAt j (by omega)]; exact map_sv H j hj
      have hce0 := hcell 0 hlp
      have hg1 : g1 < w1.heap.size := World.block_lt_of_cell? w1 ⟨g1, 0, none⟩ hce0
      have hz0 : (S (gs H 0)).size ≤ 7000000000000 := by rw [S_size]; have := hmem _ (gs_mem H 0 hlp); omega
      have rf1 : Rf w1 w.heap.size (.int .i64 0) (.int .i64 0) := (Rf.new w _ _ _).later hw1
      have bw1 : Below w.heap.size w w1 := (hb1 _).trans (hw1.mono (by simp))
      have hHc : Hid (1 < H.length → w1.cell? ⟨g1, 1, none⟩ = some (.string (S (gs H 1)))) := Lib.hid (fun h => hcell 1 h)
      have hz1 : Hid (1 < H.length → (S (gs H 1)).size ≤ 7000000000000) := Lib.hid (fun h => by rw [S_size]; have := hmem _ (gs_mem H 1 h); omega)
      have hlI : (0 : Int) < (H.length : Int) := by omega
      have Hmm := Lib.hid hH
      clear hw1 o1 hcell hb1 hmem hlp0 hH H2a
      go_wp2_with fail
      refine (l01Value_any (S (gs H 0)) _ (by omega)).mono ?_
      rintro e w' ⟨rfl, rfl⟩
      rw [L_S]
      have hzb := vlI_bd (gs H 0)
      generalize hz : vlI (gs H 0) = z at *
      have hsx : w.heap.size < w1.heap.size := rf1.here
      have N0 := Lib.hid (fun x y => Rf.new w1 x y 25)
      have M0 := Lib.hid (fun x y : Value => rf1.al (.cells #[x, y] 25))
      have K0 := Lib.hid (fun x y : Value => bw1.alloc bw1.size (.cells #[x, y] 25))
      have hab : -1000000000 ≤ z ∧ z < 1000000000 := by omega
      by_cases hl2 : H.length = 2
      · have e2 : ((H.length : Int) == 2) = true := beqT (by omega)
        have e4 : decide ((2 : Int) < (H.length : Int)) = false := decide_eq_false (by omega)
        have hc1 := hHc.out (by omega)
        have hzz := hz1.out (by omega)
        have hlI2 : (1 : Int) < (H.length : Int) := by omega
        have H2 := H2b (by omega)
        have HBt := Lib.hid (show botS (L s) = vlI (gs H 1) by rw [HB0.out, if_pos hl2])
        clear hHc hz1 rf1 bw1 HB0 hl2
        go_wp2_with fail
        refine (l01Value_any (S (gs H 1)) _ (by omega)).mono ?_
        rintro e w' ⟨rfl, rfl⟩
        rw [L_S]
        generalize hy : vlI (gs H 1) = y at *
        have N1 := Lib.hid (N0.out (.int .i64 z) (.int .i64 y))
        by_cases hneg : z < 0
        · have Hr := Lib.hid (H20.out (.inr (by rw [HT0.out]; exact hneg)))
          have e5 : decide (z < 0) = true := decide_eq_true hneg
          have n0 := N1.out.1.1
          have n1 := N1.out.1.2
          clear hneg
          clear hsx
          obtain ⟨u0, u1, u2⟩ := Rf.fin (M0.out (.int .i64 z) (.int .i64 y)) (Nat.le_refl _) (K0.out (.int .i64 z) (.int .i64 y)) (.int .i64 0) (.int .i64 0)
          have U2 := Lib.hid u2
          have rc := (M0.out (.int .i64 z) (.int .i64 y))
          have rc0 := rc.1.1
          have rc1 := rc.1.2
          have rc2 := rc.2.1
          have rc3 := rc.2.2
          clear u2 rc
          go_wp2_with fail
          exact bodyPost_ret (v := .tuple #[.agg #[.int .i64 0, .int .i64 0], .int .i64 6]) (by simp [results, Tryd.results21, go_sem, u0, u1]) rfl (Ft.mk Hr.out U2.out)
        · have HT := Lib.hid (show ¬ topS (L s) < 0 by rw [HT0.out]; exact hneg)
          have e5 : decide (z < 0) = false := decide_eq_false hneg
          have HA := Lib.hid (show sigS (L s) * topS (L s) = z by rw [Hsg.out, HT0.out]; omega)
          have n0 := N1.out.1.1
          have n1 := N1.out.1.2
          have FR := Lib.hid (M0.out (.int .i64 z) (.int .i64 y))
          have FB := Lib.hid (K0.out (.int .i64 z) (.int .i64 y))
          have FV := Lib.hid (N0.out (.int .i64 z) (.int .i64 y))
          have fv0 := FV.out.1.1
          have fv1 := FV.out.1.2
          cases hF : isFr z y
          · have Hr := Lib.hid (pfT_no (t := L s) H2.out (by have := HT.out; omega) HA.out HBt.out (.inl hF))
            go_wp2_with fail
            refine (l01Fraction_any z y _).mono ?_
            rintro e w6 ⟨rfl, hb6⟩
            rw [hF]
            have P0 := Lib.hid (FR.out.later hb6)
            have P3 := Lib.hid (FB.out.trans (hb6.mono FB.out.size))
            clear hb6 fv0 fv1 FV FR FB
            obtain ⟨u0, u1, u2⟩ := Rf.fin P0.out (Nat.le_refl _) P3.out (.int .i64 0) (.int .i64 0)
            have U2 := Lib.hid u2
            have rc := P0.out
            have rc0 := rc.1.1
            have rc1 := rc.1.2
            have rc2 := rc.2.1
            have rc3 := rc.2.2
            clear u2 rc
            go_wp2_with fail
            exact bodyPost_ret (v := .tuple #[.agg #[.int .i64 0, .int .i64 0], .int .i64 6]) (by simp [results, Tryd.results21, go_sem, u0, u1]) rfl (Ft.mk Hr.out U2.out)
          · obtain ⟨ba, bb⟩ := isFr_bds hF
            go_wp2_with fail
            refine (l01Fraction_any z y _).mono ?_
            rintro e w6 ⟨rfl, hb6⟩
            rw [hF]
            have P0 := Lib.hid (FR.out.later hb6)
            have P1 := Lib.hid (FV.out.later hb6)
            have P3 := Lib.hid (FB.out.trans (hb6.mono FB.out.size))
            have p0 := P1.out.1.1
            have p1 := P1.out.1.2
            clear hb6 fv0 fv1 FV FR FB
            go_wp2_with fail
            refine (l01Text_any z y _ ba bb).mono ?_
            rintro e w7 ⟨rfl, hb7⟩
            have Q0 := Lib.hid (P0.out.later hb7)
            have Q1 := Lib.hid (P1.out.later hb7)
            have Q3 := Lib.hid (P3.out.trans (hb7.mono P3.out.size))
            have q0 := Q1.out.1.1
            have q1 := Q1.out.1.2
            clear hb7 p0 p1 P0 P1 P3
            by_cases hx : txF z y = L s
            · have Hr := Lib.hid (pfT_yes (t := L s) H2.out (by have := HT.out; omega) HA.out HBt.out hF hx)
              have t1 : ((S (txF z y)).toList == s.toList) = true := by rw [toList_L, toList_L, L_S, hx]; simp
              have t2 : (S (txF z y)).toList = s.toList := by rw [toList_L, toList_L, L_S, hx]
              clear hx
              generalize S (txF z y) = tx at *
              obtain ⟨u0, u1, u2⟩ := Rf.fin Q0.out (Nat.le_refl _) Q3.out (.int .i64 z) (.int .i64 y)
              have U2 := Lib.hid u2
              have rc0 := Q0.out.1.1
              have rc1 := Q0.out.1.2
              have rc2 := Q0.out.2.1
              have rc3 := Q0.out.2.2
              clear u2
              go_wp2_with fail
              exact bodyPost_ret (v := .tuple #[.agg #[.int .i64 z, .int .i64 y], .int .i64 0]) (by simp [results, Tryd.results21, go_sem, u0, u1]) rfl (Ft.mk Hr.out U2.out)
            · have Hr := Lib.hid (pfT_no (t := L s) H2.out (by have := HT.out; omega) HA.out HBt.out (.inr hx))
              have t1 : ((S (txF z y)).toList == s.toList) = false := by rw [toList_L, toList_L, L_S]; simp [hx]
              have t2 : ¬ (S (txF z y)).toList = s.toList := by rw [toList_L, toList_L, L_S]; exact hx
              clear hx
              generalize S (txF z y) = tx at *
              obtain ⟨u0, u1, u2⟩ := Rf.fin Q0.out (Nat.le_refl _) Q3.out (.int .i64 0) (.int .i64 0)
              have U2 := Lib.hid u2
              have rc := Q0.out
              have rc0 := rc.1.1
              have rc1 := rc.1.2
              have rc2 := rc.2.1
              have rc3 := rc.2.2
              clear u2 rc
              go_wp2_with fail
              exact bodyPost_ret (v := .tuple #[.agg #[.int .i64 0, .int .i64 0], .int .i64 6]) (by simp [results, Tryd.results21, go_sem, u0, u1]) rfl (Ft.mk Hr.out U2.out)
      · have e2 : ((H.length : Int) == 2) = false := beqF (by omega)
        have HBt := Lib.hid (show botS (L s) = 1 by rw [HB0.out, if_neg hl2])
        clear hHc hz1 rf1 bw1 HB0
        by_cases hl3 : 2 < H.length
        · have Hr := Lib.hid (H20.out (.inl hl3))
          have e4 : decide ((2 : Int) < (H.length : Int)) = true := decide_eq_true (by omega)
          have n0 := (N0.out (.int .i64 z) (.int .i64 1)).1.1
          have n1 := (N0.out (.int .i64 z) (.int .i64 1)).1.2
          clear hl2 hl3
          clear hsx
          obtain ⟨u0, u1, u2⟩ := Rf.fin (M0.out (.int .i64 z) (.int .i64 1)) (Nat.le_refl _) (K0.out (.int .i64 z) (.int .i64 1)) (.int .i64 0) (.int .i64 0)
          have U2 := Lib.hid u2
          have rc := (M0.out (.int .i64 z) (.int .i64 1))
          have rc0 := rc.1.1
          have rc1 := rc.1.2
          have rc2 := rc.2.1
          have rc3 := rc.2.2
          clear u2 rc
          go_wp2_with fail
          exact bodyPost_ret (v := .tuple #[.agg #[.int .i64 0, .int .i64 0], .int .i64 6]) (by simp [results, Tryd.results21, go_sem, u0, u1]) rfl (Ft.mk Hr.out U2.out)
        · have e4 : decide ((2 : Int) < (H.length : Int)) = false := decide_eq_false (by omega)
          have H2 := H2b hl3
          clear hl2 hl3
          by_cases hneg : z < 0
          · have Hr := Lib.hid (H20.out (.inr (by rw [HT0.out]; exact hneg)))
            have e5 : decide (z < 0) = true := decide_eq_true hneg
            have n0 := (N0.out (.int .i64 z) (.int .i64 1)).1.1
            have n1 := (N0.out (.int .i64 z) (.int .i64 1)).1.2
            clear hneg
            clear hsx
            obtain ⟨u0, u1, u2⟩ := Rf.fin (M0.out (.int .i64 z) (.int .i64 1)) (Nat.le_refl _) (K0.out (.int .i64 z) (.int .i64 1)) (.int .i64 0) (.int .i64 0)
            have U2 := Lib.hid u2
            have rc := (M0.out (.int .i64 z) (.int .i64 1))
            have rc0 := rc.1.1
            have rc1 := rc.1.2
            have rc2 := rc.2.1
            have rc3 := rc.2.2
            clear u2 rc
            go_wp2_with fail
            exact bodyPost_ret (v := .tuple #[.agg #[.int .i64 0, .int .i64 0], .int .i64 6]) (by simp [results, Tryd.results21, go_sem, u0, u1]) rfl (Ft.mk Hr.out U2.out)
          · have HT := Lib.hid (show ¬ topS (L s) < 0 by rw [HT0.out]; exact hneg)
            have e5 : decide (z < 0) = false := decide_eq_false hneg
            have HA := Lib.hid (show sigS (L s) * topS (L s) = z by rw [Hsg.out, HT0.out]; omega)
            have n0 := (N0.out (.int .i64 z) (.int .i64 1)).1.1
            have n1 := (N0.out (.int .i64 z) (.int .i64 1)).1.2
            have FR := Lib.hid (M0.out (.int .i64 z) (.int .i64 1))
            have FB := Lib.hid (K0.out (.int .i64 z) (.int .i64 1))
            have FV := Lib.hid (N0.out (.int .i64 z) (.int .i64 1))
            have fv0 := FV.out.1.1
            have fv1 := FV.out.1.2
            cases hF : isFr z 1
            · have Hr := Lib.hid (pfT_no (t := L s) H2.out (by have := HT.out; omega) HA.out HBt.out (.inl hF))
              go_wp2_with fail
              refine (l01Fraction_any z 1 _).mono ?_
              rintro e w6 ⟨rfl, hb6⟩
              rw [hF]
              have P0 := Lib.hid (FR.out.later hb6)
              have P3 := Lib.hid (FB.out.trans (hb6.mono FB.out.size))
              clear hb6 fv0 fv1 FV FR FB
              obtain ⟨u0, u1, u2⟩ := Rf.fin P0.out (Nat.le_refl _) P3.out (.int .i64 0) (.int .i64 0)
              have U2 := Lib.hid u2
              have rc := P0.out
              have rc0 := rc.1.1
              have rc1 := rc.1.2
              have rc2 := rc.2.1
              have rc3 := rc.2.2
              clear u2 rc
              go_wp2_with fail
              exact bodyPost_ret (v := .tuple #[.agg #[.int .i64 0, .int .i64 0], .int .i64 6]) (by simp [results, Tryd.results21, go_sem, u0, u1]) rfl (Ft.mk Hr.out U2.out)
            · obtain ⟨ba, bb⟩ := isFr_bds hF
              go_wp2_with fail
              refine (l01Fraction_any z 1 _).mono ?_
              rintro e w6 ⟨rfl, hb6⟩
              rw [hF]
              have P0 := Lib.hid (FR.out.later hb6)
              have P1 := Lib.hid (FV.out.later hb6)
              have P3 := Lib.hid (FB.out.trans (hb6.mono FB.out.size))
              have p0 := P1.out.1.1
              have p1 := P1.out.1.2
              clear hb6 fv0 fv1 FV FR FB
              go_wp2_with fail
              refine (l01Text_any z 1 _ ba bb).mono ?_
              rintro e w7 ⟨rfl, hb7⟩
              have Q0 := Lib.hid (P0.out.later hb7)
              have Q1 := Lib.hid (P1.out.later hb7)
              have Q3 := Lib.hid (P3.out.trans (hb7.mono P3.out.size))
              have q0 := Q1.out.1.1
              have q1 := Q1.out.1.2
              clear hb7 p0 p1 P0 P1 P3
              by_cases hx : txF z 1 = L s
              · have Hr := Lib.hid (pfT_yes (t := L s) H2.out (by have := HT.out; omega) HA.out HBt.out hF hx)
                have t1 : ((S (txF z 1)).toList == s.toList) = true := by rw [toList_L, toList_L, L_S, hx]; simp
                have t2 : (S (txF z 1)).toList = s.toList := by rw [toList_L, toList_L, L_S, hx]
                clear hx
                generalize S (txF z 1) = tx at *
                obtain ⟨u0, u1, u2⟩ := Rf.fin Q0.out (Nat.le_refl _) Q3.out (.int .i64 z) (.int .i64 1)
                have U2 := Lib.hid u2
                have rc0 := Q0.out.1.1
                have rc1 := Q0.out.1.2
                have rc2 := Q0.out.2.1
                have rc3 := Q0.out.2.2
                clear u2
                go_wp2_with fail
                exact bodyPost_ret (v := .tuple #[.agg #[.int .i64 z, .int .i64 1], .int .i64 0]) (by simp [results, Tryd.results21, go_sem, u0, u1]) rfl (Ft.mk Hr.out U2.out)
              · have Hr := Lib.hid (pfT_no (t := L s) H2.out (by have := HT.out; omega) HA.out HBt.out (.inr hx))
                have t1 : ((S (txF z 1)).toList == s.toList) = false := by rw [toList_L, toList_L, L_S]; simp [hx]
                have t2 : ¬ (S (txF z 1)).toList = s.toList := by rw [toList_L, toList_L, L_S]; exact hx
                clear hx
                generalize S (txF z 1) = tx at *
                obtain ⟨u0, u1, u2⟩ := Rf.fin Q0.out (Nat.le_refl _) Q3.out (.int .i64 0) (.int .i64 0)
                have U2 := Lib.hid u2
                have rc := Q0.out
                have rc0 := rc.1.1
                have rc1 := rc.1.2
                have rc2 := rc.2.1
                have rc3 := rc.2.2
                clear u2 rc
                go_wp2_with fail
                exact bodyPost_ret (v := .tuple #[.agg #[.int .i64 0, .int .i64 0], .int .i64 6]) (by simp [results, Tryd.results21, go_sem, u0, u1]) rfl (Ft.mk Hr.out U2.out)
  · have e0 : decide ((0 : Int) < (s.size : Int)) = false := decide_eq_false (by omega)
    have hh : (L s).head? ≠ some 45 := by rw [List.eq_nil_of_length_eq_zero (show (L s).length = 0 by rw [L_len]; omega)]; simp
    have Hb := Lib.hid (show L s = bodS (L s) from (bodS_plus hh).1.symm)
    have Hsg := Lib.hid (bodS_plus hh).2
    have Hbs := Lib.hid hs
    clear hh
    go_enter Tryd.func21, Tryd.ntmps21
    go_wp2_with fail
    refine (l01Split_any s 47 _ rfl _ (by have := Hbs.out; omega)).mono ?_
    rintro e w1 ⟨v1, rfl, o1, hw1⟩
    rw [Hb.out] at o1
    have hlp0 := spl_ne 47 (bodS (L s))
    have hmem := spl_mem_len 47 (bodS (L s))
    have HT0 := Lib.hid (show topS (L s) = vlI (gs (spl 47 (bodS (L s))) 0) from rfl)
    have HB0 := Lib.hid (show botS (L s) = if (spl 47 (bodS (L s))).length = 2 then vlI (gs (spl 47 (bodS (L s))) 1) else 1 from rfl)
    have H20 := Lib.hid (fun h => pfT_out (t := L s) h)
    have H2a : ∀ H, spl 47 (bodS (L s)) = H → ¬ 2 < H.length → Hid (¬ 2 < (spl 47 (bodS (L s))).length) := fun H h1 h2 => Lib.hid (by rw [h1]; exact h2)
    have hblen : (bodS (L s)).length ≤ 7000000000000 := by rw [← Hb.out, L_len]; exact Hbs.out
    generalize hH : spl 47 (bodS (L s)) = H at o1 hlp0 hmem HT0 HB0 H20
    have H2b := H2a H hH
    have hlp : 0 < H.length := by cases H <;> simp at hlp0 ⊢
    obtain ⟨g1, c1, rfl⟩ := Go.Joins.ownsRow_form o1.1 hlp
    have hcc : H.length ≤ c1 ∧ c1 ≤ maxLen := by
      obtain ⟨_, _, e0, q1, q2, _⟩ := o1.is
      simp only [Value.slice.injEq] at e0
      obtain ⟨_, _, e1⟩ := e0
      subst e1
      exact ⟨q1, q2⟩
    obtain ⟨hc1a, hc1b⟩ := hcc
    unfold maxLen at hc1b
    have hcell : ∀ j, j < H.length → w1.cell? ⟨g1, j, none⟩ = some (.string (S (gs H j))) := fun j hj => by rw [o1.1.cellAt j (by omega)]; exact map_sv H j hj
    have hce0 := hcell 0 hlp
    have hg1 : g1 < w1.heap.size := World.block_lt_of_cell? w1 ⟨g1, 0, none⟩ hce0
    have hz0 : (S (gs H 0)).size ≤ 7000000000000 := by rw [S_size]; have := hmem _ (gs_mem H 0 hlp); omega
    have rf1 : Rf w1 w.heap.size (.int .i64 0) (.int .i64 0) := (Rf.new w _ _ _).later hw1
    have bw1 : Below w.heap.size w w1 := (hb1 _).trans (hw1.mono (by simp))
    have hHc : Hid (1 < H.length → w1.cell? ⟨g1, 1, none⟩ = some (.string (S (gs H 1)))) := Lib.hid (fun h => hcell 1 h)
    have hz1 : Hid (1 < H.length → (S (gs H 1)).size ≤ 7000000000000) := Lib.hid (fun h => by rw [S_size]; have := hmem _ (gs_mem H 1 h); omega)
    have hlI : (0 : Int) < (H.length : Int) := by omega
    have Hmm := Lib.hid hH
    clear hw1 o1 hcell hb1 hmem hlp0 hH H2a
    go_wp2_with fail
    refine (l01Value_any (S (gs H 0)) _ (by omega)).mono ?_
    rintro e w' ⟨rfl, rfl⟩
    rw [L_S]
    have hzb := vlI_bd (gs H 0)
    generalize hz : vlI (gs H 0) = z at *
    have hsx : w.heap.size < w1.heap.size := rf1.here
    have N0 := Lib.hid (fun x y => Rf.new w1 x y 25)
    have M0 := Lib.hid (fun x y : Value => rf1.al (.cells #[x, y] 25))
    have K0 := Lib.hid (fun x y : Value => bw1.alloc bw1.size (.cells #[x, y] 25))
    have hab : -1000000000 ≤ z ∧ z < 1000000000 := by omega
    by_cases hl2 : H.length = 2
    · have e2 : ((H.length : Int) == 2) = true := beqT (by omega)
      have e4 : decide ((2 : Int) < (H.length : Int)) = false := decide_eq_false (by omega)
      have hc1 := hHc.out (by omega)
      have hzz := hz1.out (by omega)
      have hlI2 : (1 : Int) < (H.length : Int) := by omega
      have H2 := H2b (by omega)
      have HBt := Lib.hid (show botS (L s) = vlI (gs H 1) by rw [HB0.out, if_pos hl2])
      clear hHc hz1 rf1 bw1 HB0 hl2
      go_wp2_with fail
      refine (l01Value_any (S (gs H 1)) _ (by omega)).mono ?_
      rintro e w' ⟨rfl, rfl⟩
      rw [L_S]
      generalize hy : vlI (gs H 1) = y at *
      have N1 := Lib.hid (N0.out (.int .i64 z) (.int .i64 y))
      by_cases hneg : z < 0
      · have Hr := Lib.hid (H20.out (.inr (by rw [HT0.out]; exact hneg)))
        have e5 : decide (z < 0) = true := decide_eq_true hneg
        have n0 := N1.out.1.1
        have n1 := N1.out.1.2
        clear hneg
        clear hsx
        obtain ⟨u0, u1, u2⟩ := Rf.fin (M0.out (.int .i64 z) (.int .i64 y)) (Nat.le_refl _) (K0.out (.int .i64 z) (.int .i64 y)) (.int .i64 0) (.int .i64 0)
        have U2 := Lib.hid u2
        have rc := (M0.out (.int .i64 z) (.int .i64 y))
        have rc0 := rc.1.1
        have rc1 := rc.1.2
        have rc2 := rc.2.1
        have rc3 := rc.2.2
        clear u2 rc
        go_wp2_with fail
        exact bodyPost_ret (v := .tuple #[.agg #[.int .i64 0, .int .i64 0], .int .i64 6]) (by simp [results, Tryd.results21, go_sem, u0, u1]) rfl (Ft.mk Hr.out U2.out)
      · have HT := Lib.hid (show ¬ topS (L s) < 0 by rw [HT0.out]; exact hneg)
        have e5 : decide (z < 0) = false := decide_eq_false hneg
        have HA := Lib.hid (show sigS (L s) * topS (L s) = z by rw [Hsg.out, HT0.out]; omega)
        have n0 := N1.out.1.1
        have n1 := N1.out.1.2
        have FR := Lib.hid (M0.out (.int .i64 z) (.int .i64 y))
        have FB := Lib.hid (K0.out (.int .i64 z) (.int .i64 y))
        have FV := Lib.hid (N0.out (.int .i64 z) (.int .i64 y))
        have fv0 := FV.out.1.1
        have fv1 := FV.out.1.2
        cases hF : isFr z y
        · have Hr := Lib.hid (pfT_no (t := L s) H2.out (by have := HT.out; omega) HA.out HBt.out (.inl hF))
          go_wp2_with fail
          refine (l01Fraction_any z y _).mono ?_
          rintro e w6 ⟨rfl, hb6⟩
          rw [hF]
          have P0 := Lib.hid (FR.out.later hb6)
          have P3 := Lib.hid (FB.out.trans (hb6.mono FB.out.size))
          clear hb6 fv0 fv1 FV FR FB
          obtain ⟨u0, u1, u2⟩ := Rf.fin P0.out (Nat.le_refl _) P3.out (.int .i64 0) (.int .i64 0)
          have U2 := Lib.hid u2
          have rc := P0.out
          have rc0 := rc.1.1
          have rc1 := rc.1.2
          have rc2 := rc.2.1
          have rc3 := rc.2.2
          clear u2 rc
          go_wp2_with fail
          exact bodyPost_ret (v := .tuple #[.agg #[.int .i64 0, .int .i64 0], .int .i64 6]) (by simp [results, Tryd.results21, go_sem, u0, u1]) rfl (Ft.mk Hr.out U2.out)
        · obtain ⟨ba, bb⟩ := isFr_bds hF
          go_wp2_with fail
          refine (l01Fraction_any z y _).mono ?_
          rintro e w6 ⟨rfl, hb6⟩
          rw [hF]
          have P0 := Lib.hid (FR.out.later hb6)
          have P1 := Lib.hid (FV.out.later hb6)
          have P3 := Lib.hid (FB.out.trans (hb6.mono FB.out.size))
          have p0 := P1.out.1.1
          have p1 := P1.out.1.2
          clear hb6 fv0 fv1 FV FR FB
          go_wp2_with fail
          refine (l01Text_any z y _ ba bb).mono ?_
          rintro e w7 ⟨rfl, hb7⟩
          have Q0 := Lib.hid (P0.out.later hb7)
          have Q1 := Lib.hid (P1.out.later hb7)
          have Q3 := Lib.hid (P3.out.trans (hb7.mono P3.out.size))
          have q0 := Q1.out.1.1
          have q1 := Q1.out.1.2
          clear hb7 p0 p1 P0 P1 P3
          by_cases hx : txF z y = L s
          · have Hr := Lib.hid (pfT_yes (t := L s) H2.out (by have := HT.out; omega) HA.out HBt.out hF hx)
            have t1 : ((S (txF z y)).toList == s.toList) = true := by rw [toList_L, toList_L, L_S, hx]; simp
            have t2 : (S (txF z y)).toList = s.toList := by rw [toList_L, toList_L, L_S, hx]
            clear hx
            generalize S (txF z y) = tx at *
            obtain ⟨u0, u1, u2⟩ := Rf.fin Q0.out (Nat.le_refl _) Q3.out (.int .i64 z) (.int .i64 y)
            have U2 := Lib.hid u2
            have rc0 := Q0.out.1.1
            have rc1 := Q0.out.1.2
            have rc2 := Q0.out.2.1
            have rc3 := Q0.out.2.2
            clear u2
            go_wp2_with fail
            exact bodyPost_ret (v := .tuple #[.agg #[.int .i64 z, .int .i64 y], .int .i64 0]) (by simp [results, Tryd.results21, go_sem, u0, u1]) rfl (Ft.mk Hr.out U2.out)
          · have Hr := Lib.hid (pfT_no (t := L s) H2.out (by have := HT.out; omega) HA.out HBt.out (.inr hx))
            have t1 : ((S (txF z y)).toList == s.toList) = false := by rw [toList_L, toList_L, L_S]; simp [hx]
            have t2 : ¬ (S (txF z y)).toList = s.toList := by rw [toList_L, toList_L, L_S]; exact hx
            clear hx
            generalize S (txF z y) = tx at *
            obtain ⟨u0, u1, u2⟩ := Rf.fin Q0.out (Nat.le_refl _) Q3.out (.int .i64 0) (.int .i64 0)
            have U2 := Lib.hid u2
            have rc := Q0.out
            have rc0 := rc.1.1
            have rc1 := rc.1.2
            have rc2 := rc.2.1
            have rc3 := rc.2.2
            clear u2 rc
            go_wp2_with fail
            exact bodyPost_ret (v := .tuple #[.agg #[.int .i64 0, .int .i64 0], .int .i64 6]) (by simp [results, Tryd.results21, go_sem, u0, u1]) rfl (Ft.mk Hr.out U2.out)
    · have e2 : ((H.length : Int) == 2) = false := beqF (by omega)
      have HBt := Lib.hid (show botS (L s) = 1 by rw [HB0.out, if_neg hl2])
      clear hHc hz1 rf1 bw1 HB0
      by_cases hl3 : 2 < H.length
      · have Hr := Lib.hid (H20.out (.inl hl3))
        have e4 : decide ((2 : Int) < (H.length : Int)) = true := decide_eq_true (by omega)
        have n0 := (N0.out (.int .i64 z) (.int .i64 1)).1.1
        have n1 := (N0.out (.int .i64 z) (.int .i64 1)).1.2
        clear hl2 hl3
        clear hsx
        obtain ⟨u0, u1, u2⟩ := Rf.fin (M0.out (.int .i64 z) (.int .i64 1)) (Nat.le_refl _) (K0.out (.int .i64 z) (.int .i64 1)) (.int .i64 0) (.int .i64 0)
        have U2 := Lib.hid u2
        have rc := (M0.out (.int .i64 z) (.int .i64 1))
        have rc0 := rc.1.1
        have rc1 := rc.1.2
        have rc2 := rc.2.1
        have rc3 := rc.2.2
        clear u2 rc
        go_wp2_with fail
        exact bodyPost_ret (v := .tuple #[.agg #[.int .i64 0, .int .i64 0], .int .i64 6]) (by simp [results, Tryd.results21, go_sem, u0, u1]) rfl (Ft.mk Hr.out U2.out)
      · have e4 : decide ((2 : Int) < (H.length : Int)) = false := decide_eq_false (by omega)
        have H2 := H2b hl3
        clear hl2 hl3
        by_cases hneg : z < 0
        · have Hr := Lib.hid (H20.out (.inr (by rw [HT0.out]; exact hneg)))
          have e5 : decide (z < 0) = true := decide_eq_true hneg
          have n0 := (N0.out (.int .i64 z) (.int .i64 1)).1.1
          have n1 := (N0.out (.int .i64 z) (.int .i64 1)).1.2
          clear hneg
          clear hsx
          obtain ⟨u0, u1, u2⟩ := Rf.fin (M0.out (.int .i64 z) (.int .i64 1)) (Nat.le_refl _) (K0.out (.int .i64 z) (.int .i64 1)) (.int .i64 0) (.int .i64 0)
          have U2 := Lib.hid u2
          have rc := (M0.out (.int .i64 z) (.int .i64 1))
          have rc0 := rc.1.1
          have rc1 := rc.1.2
          have rc2 := rc.2.1
          have rc3 := rc.2.2
          clear u2 rc
          go_wp2_with fail
          exact bodyPost_ret (v := .tuple #[.agg #[.int .i64 0, .int .i64 0], .int .i64 6]) (by simp [results, Tryd.results21, go_sem, u0, u1]) rfl (Ft.mk Hr.out U2.out)
        · have HT := Lib.hid (show ¬ topS (L s) < 0 by rw [HT0.out]; exact hneg)
          have e5 : decide (z < 0) = false := decide_eq_false hneg
          have HA := Lib.hid (show sigS (L s) * topS (L s) = z by rw [Hsg.out, HT0.out]; omega)
          have n0 := (N0.out (.int .i64 z) (.int .i64 1)).1.1
          have n1 := (N0.out (.int .i64 z) (.int .i64 1)).1.2
          have FR := Lib.hid (M0.out (.int .i64 z) (.int .i64 1))
          have FB := Lib.hid (K0.out (.int .i64 z) (.int .i64 1))
          have FV := Lib.hid (N0.out (.int .i64 z) (.int .i64 1))
          have fv0 := FV.out.1.1
          have fv1 := FV.out.1.2
          cases hF : isFr z 1
          · have Hr := Lib.hid (pfT_no (t := L s) H2.out (by have := HT.out; omega) HA.out HBt.out (.inl hF))
            go_wp2_with fail
            refine (l01Fraction_any z 1 _).mono ?_
            rintro e w6 ⟨rfl, hb6⟩
            rw [hF]
            have P0 := Lib.hid (FR.out.later hb6)
            have P3 := Lib.hid (FB.out.trans (hb6.mono FB.out.size))
            clear hb6 fv0 fv1 FV FR FB
            obtain ⟨u0, u1, u2⟩ := Rf.fin P0.out (Nat.le_refl _) P3.out (.int .i64 0) (.int .i64 0)
            have U2 := Lib.hid u2
            have rc := P0.out
            have rc0 := rc.1.1
            have rc1 := rc.1.2
            have rc2 := rc.2.1
            have rc3 := rc.2.2
            clear u2 rc
            go_wp2_with fail
            exact bodyPost_ret (v := .tuple #[.agg #[.int .i64 0, .int .i64 0], .int .i64 6]) (by simp [results, Tryd.results21, go_sem, u0, u1]) rfl (Ft.mk Hr.out U2.out)
          · obtain ⟨ba, bb⟩ := isFr_bds hF
            go_wp2_with fail
            refine (l01Fraction_any z 1 _).mono ?_
            rintro e w6 ⟨rfl, hb6⟩
            rw [hF]
            have P0 := Lib.hid (FR.out.later hb6)
            have P1 := Lib.hid (FV.out.later hb6)
            have P3 := Lib.hid (FB.out.trans (hb6.mono FB.out.size))
            have p0 := P1.out.1.1
            have p1 := P1.out.1.2
            clear hb6 fv0 fv1 FV FR FB
            go_wp2_with fail
            refine (l01Text_any z 1 _ ba bb).mono ?_
            rintro e w7 ⟨rfl, hb7⟩
            have Q0 := Lib.hid (P0.out.later hb7)
            have Q1 := Lib.hid (P1.out.later hb7)
            have Q3 := Lib.hid (P3.out.trans (hb7.mono P3.out.size))
            have q0 := Q1.out.1.1
            have q1 := Q1.out.1.2
            clear hb7 p0 p1 P0 P1 P3
            by_cases hx : txF z 1 = L s
            · have Hr := Lib.hid (pfT_yes (t := L s) H2.out (by have := HT.out; omega) HA.out HBt.out hF hx)
              have t1 : ((S (txF z 1)).toList == s.toList) = true := by rw [toList_L, toList_L, L_S, hx]; simp
              have t2 : (S (txF z 1)).toList = s.toList := by rw [toList_L, toList_L, L_S, hx]
              clear hx
              generalize S (txF z 1) = tx at *
              obtain ⟨u0, u1, u2⟩ := Rf.fin Q0.out (Nat.le_refl _) Q3.out (.int .i64 z) (.int .i64 1)
              have U2 := Lib.hid u2
              have rc0 := Q0.out.1.1
              have rc1 := Q0.out.1.2
              have rc2 := Q0.out.2.1
              have rc3 := Q0.out.2.2
              clear u2
              go_wp2_with fail
              exact bodyPost_ret (v := .tuple #[.agg #[.int .i64 z, .int .i64 1], .int .i64 0]) (by simp [results, Tryd.results21, go_sem, u0, u1]) rfl (Ft.mk Hr.out U2.out)
            · have Hr := Lib.hid (pfT_no (t := L s) H2.out (by have := HT.out; omega) HA.out HBt.out (.inr hx))
              have t1 : ((S (txF z 1)).toList == s.toList) = false := by rw [toList_L, toList_L, L_S]; simp [hx]
              have t2 : ¬ (S (txF z 1)).toList = s.toList := by rw [toList_L, toList_L, L_S]; exact hx
              clear hx
              generalize S (txF z 1) = tx at *
              obtain ⟨u0, u1, u2⟩ := Rf.fin Q0.out (Nat.le_refl _) Q3.out (.int .i64 0) (.int .i64 0)
              have U2 := Lib.hid u2
              have rc := Q0.out
              have rc0 := rc.1.1
              have rc1 := rc.1.2
              have rc2 := rc.2.1
              have rc3 := rc.2.2
              clear u2 rc
              go_wp2_with fail
              exact bodyPost_ret (v := .tuple #[.agg #[.int .i64 0, .int .i64 0], .int .i64 6]) (by simp [results, Tryd.results21, go_sem, u0, u1]) rfl (Ft.mk Hr.out U2.out)
theorem sParseFraction_b (s : ByteArray) (w : World) (hs : s.size ≤ 7000000000000) : Calls Tryd.prog 21 #[.string s] w (Ft (pfF (L s)) w) := by
  rw [← pfT_eq]; exact sParseFraction_any s w hs
end WX
end Go.Proofs.YtdgjjmkpninnoaaDoor
