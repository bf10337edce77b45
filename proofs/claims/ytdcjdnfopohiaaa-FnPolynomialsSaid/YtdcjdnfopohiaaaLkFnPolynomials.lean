/-
  The law FnPolynomials returns true for every code.
  THE WALK THROUGH 'laws.FnPolynomials', out of the contracts of what it calls.
-/
import Derived.Test.YtdcjdnfopohiaaaWlkF12
import Derived.Test.YtdcjdnfopohiaaaWlkF13
import Derived.Test.YtdcjdnfopohiaaaWlkL3
import Derived.Test.YtdcjdnfopohiaaaWlkB6
import Derived.Test.YtdcjdnfopohiaaaWlkB11
import Derived.Test.YtdcjdnfopohiaaaPlV
import Derived.Deep.CutRange
namespace Go.Proofs.Ytdcjdnfopohiaaa.fnPolynomials
open Go.RowKit
set_option linter.unusedVariables false
open Pl K WA WL WB WF
theorem bound6 (u v : Int) (h1 : -1000000 ≤ u) (h2 : u ≤ 1000000) (h3 : -1000000 ≤ v) (h4 : v ≤ 1000000) : -1000000000000 ≤ u * v ∧ u * v ≤ 1000000000000 := by
  have a1 : (u * v).natAbs = u.natAbs * v.natAbs := Int.natAbs_mul u v
  have a2 : u.natAbs * v.natAbs ≤ 1000000 * 1000000 := Nat.mul_le_mul (by omega) (by omega)
  omega
set_option maxRecDepth 16384 in
set_option maxHeartbeats 25600000 in
theorem walk (w : World) (v0 : Value) (n0 : Nat) (is0 : IsY w w.heap.size v0 n0) :
    Calls Try.prog 3 #[v0] w fun e w' => e = .returned (.bool true) ∧ Below w.heap.size w w' := by
  have Hy := Lib.hid is0
  have hshape := is0
  obtain ⟨A0, c0, hv0, _, _, _⟩ := hshape
  subst hv0
  by_cases hbig : 4096 < n0
  · have hbd : decide (4096 < n0) = true := by simp [hbig]
    go_enter Try.func3, Try.ntmps3
    go_wp2_with fail
    refine (big_any _ _ n0 _ Hy.out).mono ?_
    rintro e w' ⟨rfl, rfl⟩
    rw [hbd]
    go_wp2
    go_ret
    exact ⟨rfl, Below.refl _ _⟩
  · have hbd : decide (4096 < n0) = false := by simp [hbig]
    clear hbig is0
    go_enter Try.func3, Try.ntmps3
    go_wp2_with fail
    refine (big_any _ _ n0 _ Hy.out).mono ?_
    rintro e w' ⟨rfl, rfl⟩
    rw [hbd]
    go_wp2_with fail
    refine (DrawMultiplyPolynomials_any _ _ n0 _ Hy.out (Nat.le_refl _)).mono ?_
    rintro e w1 ⟨v1, v2, P, Q, rfl, i1, i2, hb1⟩
    have I1 := Lib.hid i1
    have J1 := Lib.hid i2
    have B1 := Lib.hid hb1
    obtain ⟨A3, n3, c3, e3, hnc3, hcm3, hrd3⟩ := i1
    obtain ⟨A4, n4, c4, e4, hnc4, hcm4, hrd4⟩ := i2
    subst e3
    subst e4
    have H3 := Lib.hid hrd3.len
    have H4 := Lib.hid hrd4.len
    clear hrd3 hrd4 hb1
    obtain ⟨z, hz⟩ : ∃ z, Hid ((mulP P Q).2 = z) := ⟨_, Lib.hid rfl⟩
    obtain ⟨L, hL⟩ : ∃ L, Hid ((mulP P Q).1 = L) := ⟨_, Lib.hid rfl⟩
    go_wp2_with fail
    refine (MultiplyPolynomials_any _ _ _ P Q _ I1.out J1.out (Nat.le_refl _)).mono ?_
    rintro e w2 ⟨v5, rfl, o5, hb2⟩
    rw [hz.out]
    rw [hL.out] at o5
    have K2 := Lib.hid o5.is
    obtain ⟨A5, n5, c5, e5, hnc5, hcm5, _⟩ := o5.is
    subst e5
    have I2 := Lib.hid ((I1.out.below hb2).more hb2.size)
    have J2 := Lib.hid ((J1.out.below hb2).more hb2.size)
    have B2 := Lib.hid (B1.out.trans (hb2.mono B1.out.size))
    clear hb2 o5 I1 J1 B1
    go_wp2_with fail
    refine (sMultiplyPolynomials_any _ _ _ P Q _ I2.out J2.out (Nat.le_refl _)).mono ?_
    rintro e w3 ⟨v7, rfl, o7, hb3⟩
    rw [hz.out]
    rw [hL.out] at o7
    have M3 := Lib.hid o7.is
    obtain ⟨A7, n7, c7, e7, _, _, _⟩ := o7.is
    subst e7
    have I3 := Lib.hid ((I2.out.below hb3).more hb3.size)
    have J3 := Lib.hid ((J2.out.below hb3).more hb3.size)
    have K3 := Lib.hid ((K2.out.below hb3).more hb3.size)
    have B3 := Lib.hid (B2.out.trans (hb3.mono B2.out.size))
    clear hb3 o7 I2 J2 K2 B2
    have t1 : (z != z) = false := by simp
    have t2 : (isPoly P != isPoly P) = false := by simp
    go_wp2_with fail
    refine (likeInts_any _ _ _ _ L L _ K3.out M3.out (Nat.le_refl _) (Nat.le_refl _)).mono ?_
    rintro e w4 ⟨rfl, hb4⟩
    rw [show (L == L) = true by simp]
    have I4 := Lib.hid ((I3.out.below hb4).more hb4.size)
    have J4 := Lib.hid ((J3.out.below hb4).more hb4.size)
    have K4 := Lib.hid ((K3.out.below hb4).more hb4.size)
    have B4 := Lib.hid (B3.out.trans (hb4.mono B3.out.size))
    clear hb4 I3 J3 K3 M3 B3
    go_wp2_with fail
    refine (IsPolynomial_any _ _ P _ I4.out (Nat.le_refl _)).mono ?_
    rintro e w' ⟨rfl, rfl⟩
    go_wp2_with fail
    refine (sIsPolynomial_any _ _ P _ I4.out (Nat.le_refl _)).mono ?_
    rintro e w' ⟨rfl, rfl⟩
    go_upto_if 73 with fail
    go_cut [9, 10, 11, 12, 13, 14, 15, 16, 17, 18, 19, 20] from 37 to 263 (fun _ _ _ _ _ _ _ _ _ _ _ _ wx => ∃ hc : Below w.heap.size w wx, True)
    case first =>
     as_aux_lemma =>
      by_cases hz0 : z = 0
      · have hzb : (z == 0) = true := by simp [hz0]
        have Hm := Lib.hid (show mulP P Q = (L, 0) by rw [← hL.out, ← hz0, ← hz.out])
        clear hz0 hz hL t1 t2
        obtain ⟨y, hy⟩ : ∃ y, Hid ((mulP Q P).2 = y) := ⟨_, Lib.hid rfl⟩
        obtain ⟨M, hM⟩ : ∃ M, Hid ((mulP Q P).1 = M) := ⟨_, Lib.hid rfl⟩
        have Hy3 := Lib.hid (show y = 3 ∨ (y = 0 ∧ M = L) by
          rcases mulP_turn Hm.out with h | h
          · exact .inl (by rw [← hy.out, h])
          · exact .inr ⟨by rw [← hy.out, h], by rw [← hM.out, h]⟩)
        go_wp2_with fail
        refine (MultiplyPolynomials_any _ _ _ Q P _ J4.out I4.out (Nat.le_refl _)).mono ?_
        rintro e w5 ⟨v9, rfl, oo, hbb⟩
        rw [hy.out]
        rw [hM.out] at oo
        have N5 := Lib.hid oo.is
        obtain ⟨A9, n9, c9, e9, _, _, _⟩ := oo.is
        subst e9
        have I5 := Lib.hid ((I4.out.below hbb).more hbb.size)
        have J5 := Lib.hid ((J4.out.below hbb).more hbb.size)
        have K5 := Lib.hid ((K4.out.below hbb).more hbb.size)
        have B5 := Lib.hid (B4.out.trans (hbb.mono B4.out.size))
        clear hbb oo I4 J4 K4 B4
        clear hy hM
        go_upto_region 10 with fail
        go_cut [95] from 80 to 95 (fun t wx => t = .bool false ∧ Below w5.heap.size w5 wx)
        case first =>
         as_aux_lemma =>
          rcases Hy3.out with h3 | ⟨h3, hMN⟩
          · subst h3
            have e1 : ((3 : Int) != 0) = true := rfl
            have e2 : ((3 : Int) != 3) = false := rfl
            have e3 : ((3 : Int) == 0) = false := rfl
            go_wp2
            go_meet
            exact ⟨rfl, Below.refl _ _⟩
          · subst h3
            have HMN := Lib.hid hMN
            clear hMN
            have e1 : ((0 : Int) != 0) = false := rfl
            have e3 : ((0 : Int) == 0) = true := rfl
            go_wp2_with fail
            refine (likeInts_any _ _ _ _ M L _ N5.out K5.out (Nat.le_refl _) (Nat.le_refl _)).mono ?_
            rintro e wq ⟨rfl, hbb⟩
            rw [show (M == L) = true by simp [HMN.out]]
            have hbq := Lib.hid hbb
            clear hbb
            go_wp2
            go_meet
            exact ⟨rfl, hbq.out⟩
        case rest =>
        obtain ⟨rfl, hbb⟩ := hcut
        obtain ⟨w6, hw6⟩ : ∃ w6, w6 = wc := ⟨_, rfl⟩
        rw [← hw6] at hbb ⊢
        clear hw6
        have I6 := Lib.hid ((I5.out.below hbb).more hbb.size)
        have J6 := Lib.hid ((J5.out.below hbb).more hbb.size)
        have K6 := Lib.hid ((K5.out.below hbb).more hbb.size)
        have B6 := Lib.hid (B5.out.trans (hbb.mono B5.out.size))
        clear hbb I5 J5 K5 B5
        clear N5 Hy3
        go_upto_if 98 with fail
        go_cut [11, 12] from 96 to 120 (fun _ _ wx => ∃ hc : Below w6.heap.size w6 wx, True)
        case first =>
         as_aux_lemma =>
          by_cases hn : 0 < n4
          · have hn' : (0 : Int) < (n4 : Int) := by omega
            obtain ⟨y2, hy2⟩ : ∃ y2, Hid ((divP L Q).2 = y2) := ⟨_, Lib.hid rfl⟩
            obtain ⟨M2, hM2⟩ : ∃ M2, Hid ((divP L Q).1 = M2) := ⟨_, Lib.hid rfl⟩
            have Hy4 := Lib.hid (show y2 = 3 ∨ (y2 = 0 ∧ M2 = P) by
              rcases mul_div Hm.out (by rw [H4.out]; exact hn) with h | h
              · exact .inl (by rw [← hy2.out, h])
              · exact .inr ⟨by rw [← hy2.out, h], by rw [← hM2.out, h]⟩)
            have B6 := Lib.hid (Below.refl w6.heap.size w6)
            go_wp2_with fail
            refine (DividePolynomials_any _ _ _ L Q _ K6.out J6.out (Nat.le_refl _)).mono ?_
            rintro e w7 ⟨v11, rfl, oo, hbb⟩
            rw [hy2.out]
            rw [hM2.out] at oo
            have N7 := Lib.hid oo.is
            obtain ⟨A11, n11, c11, e11, _, _, _⟩ := oo.is
            subst e11
            have I7 := Lib.hid ((I6.out.below hbb).more hbb.size)
            have J7 := Lib.hid ((J6.out.below hbb).more hbb.size)
            have K7 := Lib.hid ((K6.out.below hbb).more hbb.size)
            have B7 := Lib.hid (B6.out.trans (hbb.mono B6.out.size))
            clear hbb oo I6 J6 K6 B6
            clear hy2 hM2
            go_upto_region 14 with fail
            go_cut [120] from 105 to 120 (fun t wx => t = .bool false ∧ Below w7.heap.size w7 wx)
            case first =>
             as_aux_lemma =>
              rcases Hy4.out with h3 | ⟨h3, hMN⟩
              · subst h3
                have e1 : ((3 : Int) != 0) = true := rfl
                have e2 : ((3 : Int) != 3) = false := rfl
                have e3 : ((3 : Int) == 0) = false := rfl
                go_wp2
                go_meet
                exact ⟨rfl, Below.refl _ _⟩
              · subst h3
                have HMN := Lib.hid hMN
                clear hMN
                have e1 : ((0 : Int) != 0) = false := rfl
                have e3 : ((0 : Int) == 0) = true := rfl
                go_wp2_with fail
                refine (likeInts_any _ _ _ _ M2 P _ N7.out I7.out (Nat.le_refl _) (Nat.le_refl _)).mono ?_
                rintro e wq ⟨rfl, hbb⟩
                rw [show (M2 == P) = true by simp [HMN.out]]
                have hbq := Lib.hid hbb
                clear hbb
                go_wp2
                go_meet
                exact ⟨rfl, hbq.out⟩
            case rest =>
            obtain ⟨rfl, hbb⟩ := hcut
            obtain ⟨w8, hw8⟩ : ∃ w8, w8 = wc := ⟨_, rfl⟩
            rw [← hw8] at hbb ⊢
            clear hw8
            have I8 := Lib.hid ((I7.out.below hbb).more hbb.size)
            have J8 := Lib.hid ((J7.out.below hbb).more hbb.size)
            have K8 := Lib.hid ((K7.out.below hbb).more hbb.size)
            have B8 := Lib.hid (B7.out.trans (hbb.mono B7.out.size))
            clear hbb I7 J7 K7 B7
            have hfin := B8.out
            go_wp2_with fail
            go_meet
            exact ⟨hfin, trivial⟩
          · have hn' : ¬ (0 : Int) < (n4 : Int) := by omega
            go_wp2_with fail
            go_meet
            exact ⟨Below.refl _ _, trivial⟩
        case rest =>
        obtain ⟨hbb, _⟩ := hcut
        obtain ⟨w8, hw8⟩ : ∃ w8, w8 = wc := ⟨_, rfl⟩
        rw [← hw8] at hbb ⊢
        clear hw8
        have I8 := Lib.hid ((I6.out.below hbb).more hbb.size)
        have J8 := Lib.hid ((J6.out.below hbb).more hbb.size)
        have K8 := Lib.hid ((K6.out.below hbb).more hbb.size)
        have B8 := Lib.hid (B6.out.trans (hbb.mono B6.out.size))
        clear hbb I6 J6 K6 B6
        go_wp2_with fail
        refine (roll_any w.heap.size _ n0 911 _ (Hy.out.below B8.out) B8.out.size).mono ?_
        rintro e w9 ⟨rfl, hs9, hb9⟩
        have hz9 := B8.out.size
        go_wp2_with fail
        refine (below_any w.heap.size w8.heap.size 7 _ hs9 (by omega)).mono ?_
        rintro e w10 ⟨r, rfl, hr, hs10, hc10⟩
        have hr1 := hr.2.1 (by omega)
        have hr0 := hr.1
        have hbb := hb9.trans (hc10.below hb9.size (.inl (Nat.le_refl _)))
        have I10 := Lib.hid ((I8.out.below hbb).more hbb.size)
        have J10 := Lib.hid ((J8.out.below hbb).more hbb.size)
        have K10 := Lib.hid ((K8.out.below hbb).more hbb.size)
        have B10 := Lib.hid (B8.out.trans (hbb.mono B8.out.size))
        clear hr hs9 hb9 hs10 hc10 hbb hz9 I8 J8 K8 B8
        have hw1 : IntKind.i64.wrap (r - 3) = r - 3 := IntWalk.i64_in _ (by omega)
        have Hx := Lib.hid (show inR (r - 3) (-1000) 1000 = true from inR_true.2 (by omega))
        obtain ⟨gu, hgu⟩ : ∃ z, Hid ((evP P (r - 3)).1 = z) := ⟨_, Lib.hid rfl⟩
        obtain ⟨s1, hs1⟩ : ∃ z, Hid ((evP P (r - 3)).2 = z) := ⟨_, Lib.hid rfl⟩
        go_wp2_with fail
        refine (EvaluatePolynomial_any _ _ P (r - 3) _ I10.out (Nat.le_refl _)).mono ?_
        rintro e w11 ⟨rfl, hbb⟩
        rw [hgu.out, hs1.out]
        have I11 := Lib.hid ((I10.out.below hbb).more hbb.size)
        have J11 := Lib.hid ((J10.out.below hbb).more hbb.size)
        have K11 := Lib.hid ((K10.out.below hbb).more hbb.size)
        have B11 := Lib.hid (B10.out.trans (hbb.mono B10.out.size))
        clear hbb I10 J10 K10 B10
        obtain ⟨gv, hgv⟩ : ∃ z, Hid ((evP Q (r - 3)).1 = z) := ⟨_, Lib.hid rfl⟩
        obtain ⟨s2, hs2⟩ : ∃ z, Hid ((evP Q (r - 3)).2 = z) := ⟨_, Lib.hid rfl⟩
        go_wp2_with fail
        refine (EvaluatePolynomial_any _ _ Q (r - 3) _ J11.out (Nat.le_refl _)).mono ?_
        rintro e w12 ⟨rfl, hbb⟩
        rw [hgv.out, hs2.out]
        have I12 := Lib.hid ((I11.out.below hbb).more hbb.size)
        have J12 := Lib.hid ((J11.out.below hbb).more hbb.size)
        have K12 := Lib.hid ((K11.out.below hbb).more hbb.size)
        have B12 := Lib.hid (B11.out.trans (hbb.mono B11.out.size))
        clear hbb I11 J11 K11 B11
        obtain ⟨gy, hgy⟩ : ∃ z, Hid ((evP L (r - 3)).1 = z) := ⟨_, Lib.hid rfl⟩
        obtain ⟨s3, hs3⟩ : ∃ z, Hid ((evP L (r - 3)).2 = z) := ⟨_, Lib.hid rfl⟩
        go_wp2_with fail
        refine (EvaluatePolynomial_any _ _ L (r - 3) _ K12.out (Nat.le_refl _)).mono ?_
        rintro e w13 ⟨rfl, hbb⟩
        rw [hgy.out, hs3.out]
        have I13 := Lib.hid ((I12.out.below hbb).more hbb.size)
        have J13 := Lib.hid ((J12.out.below hbb).more hbb.size)
        have K13 := Lib.hid ((K12.out.below hbb).more hbb.size)
        have B13 := Lib.hid (B12.out.trans (hbb.mono B12.out.size))
        clear hbb I12 J12 K12 B12
        go_upto_region 21 with fail
        go_cut [176] from 144 to 176 (fun t wx => t = .bool false ∧ wx = w13)
        case first =>
         as_aux_lemma =>
          by_cases k0 : s1 = 0
          · have k0b : (s1 == 0) = true := by simp [k0]
            have K0' := Lib.hid k0
            clear k0
            by_cases k1 : s2 = 0
            · have k1b : (s2 == 0) = true := by simp [k1]
              have K1' := Lib.hid k1
              clear k1
              by_cases k2 : s3 = 0
              · have k2b : (s3 == 0) = true := by simp [k2]
                have K2' := Lib.hid k2
                clear k2
                by_cases k3 : gu < 1000000
                · skip
                  by_cases k4 : -1000000 < gu
                  · skip
                    by_cases k5 : gv < 1000000
                    · skip
                      by_cases k6 : -1000000 < gv
                      · skip
                        have hmv : gy = gu * gv := mul_val (x := r - 3) Hm.out (by rw [← hgu.out, ← K0'.out, ← hs1.out]) (by rw [← hgv.out, ← K1'.out, ← hs2.out]) (by rw [← hgy.out, ← K2'.out, ← hs3.out])
                        have hmb : -1000000000000 ≤ gu * gv ∧ gu * gv ≤ 1000000000000 := bound6 gu gv (by omega) (by omega) (by omega) (by omega)
                        have hmw : IntKind.i64.wrap (gu * gv) = gy := by rw [hmv]; exact IntWalk.i64_in _ (by omega)
                        have hnn : (gy != gy) = false := by simp
                        clear hmv hmb
                        go_wp2
                        go_meet
                        exact ⟨rfl, rfl⟩
                      · go_wp2
                        go_meet
                        exact ⟨rfl, rfl⟩
                    · go_wp2
                      go_meet
                      exact ⟨rfl, rfl⟩
                  · go_wp2
                    go_meet
                    exact ⟨rfl, rfl⟩
                · go_wp2
                  go_meet
                  exact ⟨rfl, rfl⟩
              · have k2b : (s3 == 0) = false := by rw [beq_eq_false_iff_ne]; exact k2
                clear k2
                go_wp2
                go_meet
                exact ⟨rfl, rfl⟩
            · have k1b : (s2 == 0) = false := by rw [beq_eq_false_iff_ne]; exact k1
              clear k1
              go_wp2
              go_meet
              exact ⟨rfl, rfl⟩
          · have k0b : (s1 == 0) = false := by rw [beq_eq_false_iff_ne]; exact k0
            clear k0
            go_wp2
            go_meet
            exact ⟨rfl, rfl⟩
        case rest =>
        obtain ⟨rfl, hwc⟩ := hcut
        rw [hwc]
        clear hwc
        have hfin := B13.out
        go_wp2_with fail
        go_meet
        exact ⟨hfin, trivial⟩
      · have hzb : (z == 0) = false := by rw [beq_eq_false_iff_ne]; exact hz0
        have hfin := B4.out
        go_wp2
        go_meet
        exact ⟨hfin, trivial⟩
    case rest =>
     as_aux_lemma =>
      obtain ⟨hbc, _⟩ := hcut
      obtain ⟨x0, hx0⟩ : ∃ x0, x0 = wc := ⟨_, rfl⟩
      rw [← hx0] at hbc ⊢
      clear hx0 hz hL H3 H4 I4 J4 K4 B4 t1 t2
      go_wp2_with fail
      refine (DrawAddPolynomials_any w.heap.size _ n0 _ (Hy.out.below hbc) hbc.size).mono ?_
      rintro e x1 ⟨v21, v22, a, b, rfl, i1, i2, hbb⟩
      have I1 := Lib.hid i1
      have J1 := Lib.hid i2
      have B1 := Lib.hid (Below.trans hbc (hbb.mono hbc.size))
      obtain ⟨A21, n21, c21, e21, _, _, _⟩ := i1
      obtain ⟨A22, n22, c22, e22, _, _, _⟩ := i2
      subst e21
      subst e22
      clear hbb
      clear hbc
      obtain ⟨q, hq⟩ : ∃ q, Hid ((sumF a 1 b).2 = q) := ⟨_, Lib.hid rfl⟩
      obtain ⟨S, hS⟩ : ∃ S, Hid ((sumF a 1 b).1 = S) := ⟨_, Lib.hid rfl⟩
      go_wp2_with fail
      refine (AddPolynomials_any _ _ _ a b _ I1.out J1.out (Nat.le_refl _)).mono ?_
      rintro e x2 ⟨v23, rfl, oo, hbb⟩
      rw [hq.out]
      rw [hS.out] at oo
      have K2 := Lib.hid oo.is
      obtain ⟨A23, n23, c23, e23, _, _, _⟩ := oo.is
      subst e23
      have I2 := Lib.hid ((I1.out.below hbb).more hbb.size)
      have J2 := Lib.hid ((J1.out.below hbb).more hbb.size)
      have B2 := Lib.hid (B1.out.trans (hbb.mono B1.out.size))
      clear hbb oo I1 J1 B1
      go_wp2_with fail
      refine (sAddPolynomials_any _ _ _ a b _ I2.out J2.out (Nat.le_refl _)).mono ?_
      rintro e x3 ⟨v25, rfl, oo, hbb⟩
      rw [hq.out]
      rw [hS.out] at oo
      have M3 := Lib.hid oo.is
      obtain ⟨A25, n25, c25, e25, _, _, _⟩ := oo.is
      subst e25
      have I3 := Lib.hid ((I2.out.below hbb).more hbb.size)
      have J3 := Lib.hid ((J2.out.below hbb).more hbb.size)
      have K3 := Lib.hid ((K2.out.below hbb).more hbb.size)
      have B3 := Lib.hid (B2.out.trans (hbb.mono B2.out.size))
      clear hbb oo I2 J2 K2 B2
      have t1 : (q != q) = false := by simp
      go_wp2_with fail
      refine (likeInts_any _ _ _ _ S S _ K3.out M3.out (Nat.le_refl _) (Nat.le_refl _)).mono ?_
      rintro e x4 ⟨rfl, hbb⟩
      rw [show (S == S) = true by simp]
      have I4 := Lib.hid ((I3.out.below hbb).more hbb.size)
      have J4 := Lib.hid ((J3.out.below hbb).more hbb.size)
      have K4 := Lib.hid ((K3.out.below hbb).more hbb.size)
      have B4 := Lib.hid (B3.out.trans (hbb.mono B3.out.size))
      clear hbb I3 J3 K3 B3
      go_upto_if 204 with fail
      go_cut [27, 28] from 197 to 218 (fun _ _ wx => ∃ hc : Below x4.heap.size x4 wx, True)
      case first =>
       as_aux_lemma =>
        by_cases hq0 : q = 0
        · have hqb : (q == 0) = true := by simp [hq0]
          have Hu := Lib.hid (show sumF S (-1) b = (a, 0) from sum_undo (by rw [← hS.out, ← hq0, ← hq.out]))
          have hu1 := Lib.hid (show (sumF S (-1) b).2 = 0 by rw [Hu.out])
          have hu2 := Lib.hid (show (sumF S (-1) b).1 = a by rw [Hu.out])
          have e1 : ((0 : Int) != 0) = false := rfl
          have B4 := Lib.hid (Below.refl x4.heap.size x4)
          clear hq0 hq hS Hu
          go_wp2_with fail
          refine (SubtractPolynomials_any _ _ _ S b _ K4.out J4.out (Nat.le_refl _)).mono ?_
          rintro e x5 ⟨v27, rfl, oo, hbb⟩
          rw [hu1.out]
          rw [hu2.out] at oo
          have N5 := Lib.hid oo.is
          obtain ⟨A27, n27, c27, e27, _, _, _⟩ := oo.is
          subst e27
          have I5 := Lib.hid ((I4.out.below hbb).more hbb.size)
          have J5 := Lib.hid ((J4.out.below hbb).more hbb.size)
          have B5 := Lib.hid (B4.out.trans (hbb.mono B4.out.size))
          clear hbb oo I4 J4 B4
          go_wp2_with fail
          refine (likeInts_any _ _ _ _ a a _ N5.out I5.out (Nat.le_refl _) (Nat.le_refl _)).mono ?_
          rintro e x6 ⟨rfl, hbb⟩
          rw [show (a == a) = true by simp]
          have I6 := Lib.hid ((I5.out.below hbb).more hbb.size)
          have B6 := Lib.hid (B5.out.trans (hbb.mono B5.out.size))
          clear hbb I5 B5
          have hfin := B6.out
          go_wp2
          go_meet
          exact ⟨hfin, trivial⟩
        · have hqb : (q == 0) = false := by rw [beq_eq_false_iff_ne]; exact hq0
          go_wp2
          go_meet
          exact ⟨Below.refl _ _, trivial⟩
      case rest =>
      obtain ⟨hbc, _⟩ := hcut
      obtain ⟨x7, hx7⟩ : ∃ x7, x7 = wc := ⟨_, rfl⟩
      rw [← hx7] at hbc ⊢
      have hbd := B4.out.trans (hbc.mono B4.out.size)
      clear hx7 hbc hq hS I4 J4 K4 B4
      go_wp2_with fail
      refine (DrawDividePolynomials_any w.heap.size _ n0 _ (Hy.out.below hbd) hbd.size).mono ?_
      rintro e x8 ⟨v29, v30, c, d, rfl, i1, i2, hbb⟩
      have I8 := Lib.hid i1
      have J8 := Lib.hid i2
      have B8 := Lib.hid (Below.trans hbd (hbb.mono hbd.size))
      obtain ⟨A29, n29, c29, e29, _, _, _⟩ := i1
      obtain ⟨A30, n30, c30, e30, _, _, _⟩ := i2
      subst e29
      subst e30
      clear hbb
      clear hbd
      obtain ⟨q2, hq2⟩ : ∃ q2, Hid ((divP c d).2 = q2) := ⟨_, Lib.hid rfl⟩
      obtain ⟨F, hF⟩ : ∃ F, Hid ((divP c d).1 = F) := ⟨_, Lib.hid rfl⟩
      go_wp2_with fail
      refine (DividePolynomials_any _ _ _ c d _ I8.out J8.out (Nat.le_refl _)).mono ?_
      rintro e x9 ⟨v31, rfl, oo, hbb⟩
      rw [hq2.out]
      rw [hF.out] at oo
      have K9 := Lib.hid oo.is
      obtain ⟨A31, n31, c31, e31, _, _, _⟩ := oo.is
      subst e31
      have I9 := Lib.hid ((I8.out.below hbb).more hbb.size)
      have J9 := Lib.hid ((J8.out.below hbb).more hbb.size)
      have B9 := Lib.hid (B8.out.trans (hbb.mono B8.out.size))
      clear hbb oo I8 J8 B8
      go_wp2_with fail
      refine (sDividePolynomials_any _ _ _ c d _ I9.out J9.out (Nat.le_refl _)).mono ?_
      rintro e x10 ⟨v33, rfl, oo, hbb⟩
      rw [hq2.out]
      rw [hF.out] at oo
      have M10 := Lib.hid oo.is
      obtain ⟨A33, n33, c33, e33, _, _, _⟩ := oo.is
      subst e33
      have I10 := Lib.hid ((I9.out.below hbb).more hbb.size)
      have J10 := Lib.hid ((J9.out.below hbb).more hbb.size)
      have K10 := Lib.hid ((K9.out.below hbb).more hbb.size)
      have B10 := Lib.hid (B9.out.trans (hbb.mono B9.out.size))
      clear hbb oo I9 J9 K9 B9
      have t2 : (q2 != q2) = false := by simp
      go_wp2_with fail
      refine (likeInts_any _ _ _ _ F F _ K10.out M10.out (Nat.le_refl _) (Nat.le_refl _)).mono ?_
      rintro e x11 ⟨rfl, hbb⟩
      rw [show (F == F) = true by simp]
      have I11 := Lib.hid ((I10.out.below hbb).more hbb.size)
      have J11 := Lib.hid ((J10.out.below hbb).more hbb.size)
      have K11 := Lib.hid ((K10.out.below hbb).more hbb.size)
      have B11 := Lib.hid (B10.out.trans (hbb.mono B10.out.size))
      clear hbb I10 J10 K10 B10
      by_cases hq0 : q2 = 0
      · have hqb : (q2 != 0) = false := by simp [hq0]
        have Hd := Lib.hid (show divP c d = (F, 0) by rw [← hF.out, ← hq0, ← hq2.out])
        clear hq0 hq2 hF t1 t2
        obtain ⟨y, hy⟩ : ∃ y, Hid ((mulP F d).2 = y) := ⟨_, Lib.hid rfl⟩
        obtain ⟨M, hM⟩ : ∃ M, Hid ((mulP F d).1 = M) := ⟨_, Lib.hid rfl⟩
        have Hy3 := Lib.hid (show y = 3 ∨ (y = 0 ∧ M = c) by
          rcases div_mul Hd.out with h | h
          · exact .inl (by rw [← hy.out, h])
          · exact .inr ⟨by rw [← hy.out, h], by rw [← hM.out, h]⟩)
        go_wp2_with fail
        refine (MultiplyPolynomials_any _ _ _ F d _ K11.out J11.out (Nat.le_refl _)).mono ?_
        rintro e x12 ⟨v35, rfl, oo, hbb⟩
        rw [hy.out]
        rw [hM.out] at oo
        have N12 := Lib.hid oo.is
        obtain ⟨A35, n35, c35, e35, _, _, _⟩ := oo.is
        subst e35
        have I12 := Lib.hid ((I11.out.below hbb).more hbb.size)
        have B12 := Lib.hid (B11.out.trans (hbb.mono B11.out.size))
        clear hbb oo I11 B11
        clear hy hM
        rcases Hy3.out with h3 | ⟨h3, hMN⟩
        · subst h3
          have e1 : ((3 : Int) == 3) = true := rfl
          have hfin := B12.out
          go_wp2
          go_ret
          exact ⟨rfl, hfin⟩
        · subst h3
          have HMN := Lib.hid hMN
          clear hMN
          have e1 : ((0 : Int) == 3) = false := rfl
          have e2 : ((0 : Int) == 0) = true := rfl
          go_wp2_with fail
          refine (likeInts_any _ _ _ _ M c _ N12.out I12.out (Nat.le_refl _) (Nat.le_refl _)).mono ?_
          rintro e x13 ⟨rfl, hbb⟩
          rw [show (M == c) = true by simp [HMN.out]]
          have hfin := Lib.hid (B12.out.trans (hbb.mono B12.out.size))
          clear hbb
          go_wp2
          go_ret
          exact ⟨rfl, hfin.out⟩
      · have hqb : (q2 != 0) = true := by simp [hq0]
        have hfin := B11.out
        clear hq0
        go_wp2
        go_ret
        exact ⟨rfl, hfin⟩
end Go.Proofs.Ytdcjdnfopohiaaa.fnPolynomials
