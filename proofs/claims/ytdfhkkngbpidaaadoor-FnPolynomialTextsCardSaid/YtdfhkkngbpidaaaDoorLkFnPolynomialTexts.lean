/-
  The law FnPolynomialTexts returns true for every code.
  THE WALK THROUGH 'laws.FnPolynomialTexts', out of the contracts of what it calls.
-/
import Derived.Test.YtdfhkkngbpidaaaDoorWlkH6
import Derived.Test.YtdfhkkngbpidaaaDoorWlkZ4
import Derived.Test.YtdfhkkngbpidaaaDoorWlkZ7
import Derived.Test.YtdfhkkngbpidaaaDoorWlkB3
import Derived.Test.YtdfhkkngbpidaaaDoorWlkL3
import Derived.Test.YtdfhkkngbpidaaaDoorPlPt
import Derived.Deep.CutRange
namespace Go.Proofs.YtdfhkkngbpidaaaDoor.fnPolynomialTexts
open Go.RowKit
set_option linter.unusedVariables false
open Pl K WA WB WL WX WF WZ
theorem big_any (B : Nat) (v : Value) (n : Nat) (w : World) (h : IsY w B v n) : Calls Tryd.prog 4 #[v] w fun e w' => e = .returned (.bool (decide (4096 < n))) ∧ w = w' := by
  obtain ⟨A, c, rfl, hnc, hcm, hrd⟩ := h
  unfold maxLen at hcm
  clear hrd
  by_cases h : 4096 < n
  · have h' : (4096 : Int) < (n : Int) := by omega
    go_enter Tryd.func4, Tryd.ntmps4
    go_wp2
    go_ret
    exact ⟨ret_b (by simp [h]), rfl⟩
  · have h' : ¬ (4096 : Int) < (n : Int) := by omega
    go_enter Tryd.func4, Tryd.ntmps4
    go_wp2
    go_ret
    exact ⟨ret_b (by first | (simp; done) | simp [h]), rfl⟩
set_option maxRecDepth 16384 in
set_option maxHeartbeats 25600000 in
theorem walk (w : World) (v0 : Value) (n0 : Nat) (is0 : IsY w w.heap.size v0 n0) (ht : Tab w) :
    Calls Tryd.prog 3 #[v0] w fun e w' => e = .returned (.bool true) ∧ Below w.heap.size w w' := by
  have Hy := Lib.hid is0
  have Ht := Lib.hid ht
  have hshape := is0
  obtain ⟨A0, c0, hv0, _, _, _⟩ := hshape
  subst hv0
  clear ht
  by_cases hbig : 4096 < n0
  · have hbd : decide (4096 < n0) = true := by simp [hbig]
    go_enter Tryd.func3, Tryd.ntmps3
    go_wp2_with fail
    refine (big_any _ _ n0 _ Hy.out).mono ?_
    rintro e w' ⟨rfl, rfl⟩
    rw [hbd]
    go_wp2
    go_ret
    exact ⟨rfl, Below.refl _ _⟩
  · have hbd : decide (4096 < n0) = false := by simp [hbig]
    have Hn := Lib.hid (show n0 ≤ 4096 by omega)
    clear hbig is0
    go_enter Tryd.func3, Tryd.ntmps3
    go_wp2_with fail
    refine (big_any _ _ n0 _ Hy.out).mono ?_
    rintro e w' ⟨rfl, rfl⟩
    rw [hbd]
    go_wp2_with fail
    refine (DrawPolynomialText_any _ _ n0 _ Hy.out (Nat.le_refl _)).mono ?_
    rintro e w1 ⟨v3, p, rfl, i3, hb⟩
    obtain ⟨A3, n3, c3, e3, hnc3, hcm3, hrd3⟩ := id i3
    subst e3
    have H3 := Lib.hid hrd3.len
    have I1 := Lib.hid i3
    have B1 := Lib.hid hb
    have T1 := Lib.hid (Ht.out.later hb)
    clear hrd3 hb i3
    obtain ⟨z, hz⟩ : ∃ z, Hid ((ptP p).2 = z) := ⟨_, Lib.hid rfl⟩
    obtain ⟨t, htt⟩ : ∃ t, Hid ((ptP p).1 = t) := ⟨_, Lib.hid rfl⟩
    go_wp2_with fail
    refine (PolynomialText_any _ _ p _ I1.out (Nat.le_refl _) T1.out).mono ?_
    rintro e w2 ⟨rfl, hb⟩
    rw [hz.out, htt.out]
    have I2 := Lib.hid ((I1.out.below hb).more hb.size)
    have B2 := Lib.hid (B1.out.trans (hb.mono B1.out.size))
    clear hb I1 B1 T1
    go_wp2_with fail
    refine (sPolynomialText_any _ _ p _ I2.out (Nat.le_refl _)).mono ?_
    rintro e w3 ⟨rfl, hb⟩
    rw [hz.out, htt.out]
    have I3 := Lib.hid ((I2.out.below hb).more hb.size)
    have B3 := Lib.hid (B2.out.trans (hb.mono B2.out.size))
    have T3 := Lib.hid (Ht.out.later B3.out)
    clear hb I2 B2
    obtain ⟨ts, hts⟩ : ∃ ts, Hid (S t = ts) := ⟨_, Lib.hid rfl⟩
    rw [hts.out]
    have n1 : (z != z) = false := by simp
    obtain ⟨A9, n9, c9, e9, hnc9, hcm9, hrd9⟩ := I3.out
    cases e9
    have Hrd := Lib.hid hrd9
    unfold maxLen at hcm9
    clear hrd9 hcm3
    go_wp2_with fail
    clear n1
    go_loopw [8, 9] (fun x i wr => ∃ (k : Nat) (bb : Bool), k ≤ n3 ∧ i = .int .i64 (k : Int) ∧ x = .bool bb ∧ Hid (bb = true → ∀ j, j < k → -1000000000 < gx p j ∧ gx p j < 1000000000) ∧ wr = w3) (fun _ i _ => n3 - (intOf i).toNat)
    case atStart => exact ⟨0, true, Nat.zero_le _, rfl, rfl, Lib.hid (fun _ j hj => by omega), rfl⟩
    case round =>
    obtain ⟨k, bb, hk, rfl, rfl, Hbb, rfl⟩ := hrel
    by_cases hlt : k < n3
    · as_aux_lemma =>
      obtain ⟨ad, rfl, had, hcc⟩ := Hrd.out.pos (by omega)
      have hck : wr.cell? (ad.add k) = some (.int .i64 (gx p k)) := hcc k hlt
      have hik : 0 ≤ (k : Int) ∧ (k : Int) < (n3 : Int) := by omega
      clear hcc
      cases bb
      · have Hn' := Lib.hid (fun h => absurd h (by decide) : false = true → ∀ j, j < k + 1 → -1000000000 < gx p j ∧ gx p j < 1000000000)
        go_wp2
        go_roundw
        case rel => exact ⟨k + 1, false, by omega, by go_num, rfl, Hn', trivial⟩
        case measure => first | (simp [intOf]; done) | (simp [intOf]; omega)
      · by_cases c1 : gx p k < 1000000000
        · by_cases c2 : -1000000000 < gx p k
          · have Hn' := Lib.hid (fun _ j hj => by
              rcases Nat.lt_or_eq_of_le (Nat.le_of_lt_succ hj) with h | rfl
              · exact Hbb.out rfl j h
              · exact ⟨c2, c1⟩ : true = true → ∀ j, j < k + 1 → -1000000000 < gx p j ∧ gx p j < 1000000000)
            go_wp2
            go_roundw
            case rel => exact ⟨k + 1, true, by omega, by go_num, rfl, Hn', trivial⟩
            case measure => first | (simp [intOf]; done) | (simp [intOf]; omega)
          · have Hn' := Lib.hid (fun h => absurd h (by decide) : false = true → ∀ j, j < k + 1 → -1000000000 < gx p j ∧ gx p j < 1000000000)
            go_wp2
            go_roundw
            case rel => exact ⟨k + 1, false, by omega, by go_num, rfl, Hn', trivial⟩
            case measure => first | (simp [intOf]; done) | (simp [intOf]; omega)
        · have Hn' := Lib.hid (fun h => absurd h (by decide) : false = true → ∀ j, j < k + 1 → -1000000000 < gx p j ∧ gx p j < 1000000000)
          go_wp2
          go_roundw
          case rel => exact ⟨k + 1, false, by omega, by go_num, rfl, Hn', trivial⟩
          case measure => first | (simp [intOf]; done) | (simp [intOf]; omega)
    · obtain rfl : k = n3 := by omega
      clear hlt hk Hrd
      go_upto_region 13 with fail
      go_cut [85] from 82 to 85 (fun x wx => x = .bool ((z == 0) && bb) ∧ wx = wr)
      case first =>
       as_aux_lemma =>
        cases hzb : (z == 0)
        · go_wp2
          go_meet
          exact ⟨by rw [hzb]; rfl, rfl⟩
        · go_wp2
          go_meet
          exact ⟨by rw [hzb]; rfl, rfl⟩
      case rest =>
      obtain ⟨rfl, hwc⟩ := hcut
      rw [hwc]
      clear hwc
      obtain ⟨bt, hbt⟩ : ∃ bt, Hid (((z == 0) && bb) = bt) := ⟨_, Lib.hid rfl⟩
      rw [hbt.out]
      go_upto_if 85 with fail
      go_cut [10, 11] from 85 to 98 (fun _ _ wx => Below wr.heap.size wr wx)
      case first =>
       as_aux_lemma =>
        cases bt
        · go_wp2
          go_meet
          exact Below.refl _ _
        · have hb2 : (z == 0) = true ∧ bb = true := by simpa using hbt.out
          have hz0 : z = 0 := by simpa using hb2.1
          obtain ⟨hp, hpt⟩ := ptP_ok (p := p) (by rw [hz.out, hz0])
          have hpp := ppF_ptx hp (fun k hk => Hbb.out hb2.2 k (by rw [← H3.out]; exact hk))
          have hLt := Lib.hid (show L ts = ptx p by rw [← hts.out, ← htt.out, hpt, L_S])
          have hr1 := Lib.hid (show (ppF (L ts)).1 = p by rw [hLt.out, hpp])
          have hr2 := Lib.hid (show (ppF (L ts)).2 = 0 by rw [hLt.out, hpp])
          have hsz : ts.size ≤ 20000000000000 := by rw [← L_len, hLt.out]; have := ptx_short hp; omega
          have e0 : ((0 : Int) != 0) = false := rfl
          clear hb2 hz0 hp hpt hpp hLt
          go_wp2_with fail
          refine (ParsePolynomial_any ts _ hsz T3.out).mono ?_
          rintro e w4 ⟨v10, rfl, oo, hb⟩
          rw [hr2.out]
          rw [hr1.out] at oo
          have N4 := Lib.hid oo.is
          obtain ⟨A10, n10, c10, e10, _, _, _⟩ := oo.is
          subst e10
          have I4 := Lib.hid ((I3.out.below hb).more hb.size)
          have B4 := Lib.hid hb
          clear oo hb hsz
          go_wp2_with fail
          refine (likeInts_any _ _ _ _ p p _ N4.out I4.out (Nat.le_refl _) (Nat.le_refl _)).mono ?_
          rintro e w5 ⟨rfl, hb⟩
          rw [show (p == p) = true by simp]
          have B5 := Lib.hid (B4.out.trans (hb.mono B4.out.size))
          clear hb
          go_wp2
          go_meet
          exact B5.out
      case rest =>
       as_aux_lemma =>
        obtain ⟨w6, hw6⟩ : ∃ w6, w6 = wc := ⟨_, rfl⟩
        rw [← hw6] at hcut ⊢
        have B6 := Lib.hid (B3.out.trans (hcut.mono B3.out.size))
        clear hw6 hcut hbt Hbb hts htt hz H3 I3 B3 T3
        have hs6 := B6.out.size
        go_wp2_with fail
        refine (DrawParsePolynomial_any w.heap.size _ n0 _ (Hy.out.below B6.out) hs6 Hn.out).mono ?_
        rintro e w7 ⟨s, rfl, hss, hb⟩
        have B7 := Lib.hid (B6.out.trans (hb.mono hs6))
        have T7 := Lib.hid (Ht.out.later B7.out)
        clear hb B6 hs6
        obtain ⟨y, hy⟩ : ∃ z, Hid ((ppF (L s)).2 = z) := ⟨_, Lib.hid rfl⟩
        obtain ⟨q, hq⟩ : ∃ z, Hid ((ppF (L s)).1 = z) := ⟨_, Lib.hid rfl⟩
        go_wp2_with fail
        refine (ParsePolynomial_any s _ (by omega) T7.out).mono ?_
        rintro e w8 ⟨v13, rfl, oo, hb⟩
        rw [hy.out]
        rw [hq.out] at oo
        have I8 := Lib.hid oo.is
        obtain ⟨A13, n13, c13, e13, _, _, _⟩ := oo.is
        subst e13
        have B8 := Lib.hid (B7.out.trans (hb.mono B7.out.size))
        clear oo hb B7 T7
        go_wp2_with fail
        refine (sParsePolynomial_big s _ (by omega)).mono ?_
        rintro e w9 ⟨v15, rfl, oo, hb⟩
        rw [hy.out]
        rw [hq.out] at oo
        have J9 := Lib.hid oo.is
        obtain ⟨A15, n15, c15, e15, _, _, _⟩ := oo.is
        subst e15
        have I9 := Lib.hid ((I8.out.below hb).more hb.size)
        have B9 := Lib.hid (B8.out.trans (hb.mono B8.out.size))
        clear oo hb B8 I8
        have n1 : (y != y) = false := by simp
        go_wp2_with fail
        refine (likeInts_any _ _ _ _ q q _ I9.out J9.out (Nat.le_refl _) (Nat.le_refl _)).mono ?_
        rintro e w10 ⟨rfl, hb⟩
        rw [show (q == q) = true by simp]
        have I10 := Lib.hid ((I9.out.below hb).more hb.size)
        have B10 := Lib.hid (B9.out.trans (hb.mono B9.out.size))
        have T10 := Lib.hid (Ht.out.later B10.out)
        clear hb B9 I9 J9
        go_upto_if 121 with fail
        clear n1
        go_cut [17, 18] from 121 to 133 (fun _ _ wx => Below w10.heap.size w10 wx)
        case first =>
         as_aux_lemma =>
          by_cases hz0 : y = 0
          · have hzb : (y == 0) = true := by simp [hz0]
            have hpt := ppF_sound (t := L s) (q := q) (by rw [← hq.out, ← hz0, ← hy.out])
            have hr1 := Lib.hid (show (ptP q).1 = L s by rw [hpt])
            have hr2 := Lib.hid (show (ptP q).2 = 0 by rw [hpt])
            have e0 : ((0 : Int) != 0) = false := rfl
            clear hz0 hpt
            go_wp2_with fail
            refine (PolynomialText_any _ _ q _ I10.out (Nat.le_refl _) T10.out).mono ?_
            rintro e w11 ⟨rfl, hb⟩
            rw [hr1.out, hr2.out, S_L]
            have B11 := Lib.hid hb
            clear hb
            go_wp2
            go_meet
            exact B11.out
          · have hzb : (y == 0) = false := by rw [beq_eq_false_iff_ne]; exact hz0
            clear hz0
            go_wp2
            go_meet
            exact Below.refl _ _
        case rest =>
        obtain ⟨w11, hw11⟩ : ∃ w11, w11 = wc := ⟨_, rfl⟩
        rw [← hw11] at hcut ⊢
        have B11 := Lib.hid (B10.out.trans (hcut.mono B10.out.size))
        clear hw11 hcut B10 T10 I10 hy hq hss
        have hs11 := B11.out.size
        go_wp2_with fail
        refine (DrawSubstitutePower_any w.heap.size _ n0 _ (Hy.out.below B11.out) hs11).mono ?_
        rintro e w12 ⟨v19, a, kk, rfl, hkk, ia, hb⟩
        obtain ⟨A19, n19, c19, e19, _, _, _⟩ := id ia
        subst e19
        have I12 := Lib.hid ia
        have B12 := Lib.hid (B11.out.trans (hb.mono hs11))
        clear ia hb B11 hs11
        obtain ⟨y7, hy7⟩ : ∃ z, Hid ((subP a kk).2 = z) := ⟨_, Lib.hid rfl⟩
        obtain ⟨b, hbb⟩ : ∃ z, Hid ((subP a kk).1 = z) := ⟨_, Lib.hid rfl⟩
        go_wp2_with fail
        refine (SubstitutePower_any _ _ a kk _ I12.out (Nat.le_refl _)).mono ?_
        rintro e w13 ⟨v21, rfl, oo, hb⟩
        rw [hy7.out]
        rw [hbb.out] at oo
        have J13 := Lib.hid oo.is
        obtain ⟨A21, n21, c21, e21, _, _, _⟩ := oo.is
        subst e21
        have I13 := Lib.hid ((I12.out.below hb).more hb.size)
        have B13 := Lib.hid (B12.out.trans (hb.mono B12.out.size))
        clear oo hb I12 B12
        go_wp2_with fail
        refine (sSubstitutePower_any _ _ a kk _ I13.out (Nat.le_refl _)).mono ?_
        rintro e w14 ⟨v23, rfl, oo, hb⟩
        rw [hy7.out]
        rw [hbb.out] at oo
        have K14 := Lib.hid oo.is
        obtain ⟨A23, n23, c23, e23, _, _, _⟩ := oo.is
        subst e23
        have I14 := Lib.hid ((I13.out.below hb).more hb.size)
        have J14 := Lib.hid ((J13.out.below hb).more hb.size)
        have B14 := Lib.hid (B13.out.trans (hb.mono B13.out.size))
        clear oo hb I13 J13 B13
        have n1 : (y7 != y7) = false := by simp
        go_wp2_with fail
        refine (likeInts_any _ _ _ _ b b _ J14.out K14.out (Nat.le_refl _) (Nat.le_refl _)).mono ?_
        rintro e w15 ⟨rfl, hb⟩
        rw [show (b == b) = true by simp]
        have I15 := Lib.hid ((I14.out.below hb).more hb.size)
        have J15 := Lib.hid ((J14.out.below hb).more hb.size)
        have B15 := Lib.hid (B14.out.trans (hb.mono B14.out.size))
        clear hb I14 J14 K14 B14
        go_upto_if 161 with fail
        clear n1
        go_cut [25, 26, 27, 28, 29, 30] from 161 to 206 (fun _ _ _ _ _ _ wx => Below w15.heap.size w15 wx)
        case first =>
         as_aux_lemma =>
          by_cases hz0 : y7 = 0
          · have hzb : (y7 == 0) = true := by simp [hz0]
            have Hsub := Lib.hid (show subP a kk = (b, 0) by rw [← hbb.out, ← hz0, ← hy7.out])
            rw [hzb]
            clear hz0 hzb hy7 hbb
            obtain ⟨s9, h9⟩ : ∃ z, Hid ((evP a (-1)).2 = z) := ⟨_, Lib.hid rfl⟩
            obtain ⟨u9, hu9⟩ : ∃ z, Hid ((evP a (-1)).1 = z) := ⟨_, Lib.hid rfl⟩
            obtain ⟨s10, h10⟩ : ∃ z, Hid ((evP b (-1)).2 = z) := ⟨_, Lib.hid rfl⟩
            obtain ⟨u10, hu10⟩ : ∃ z, Hid ((evP b (-1)).1 = z) := ⟨_, Lib.hid rfl⟩
            obtain ⟨s11, h11⟩ : ∃ z, Hid ((evP a 1).2 = z) := ⟨_, Lib.hid rfl⟩
            obtain ⟨u11, hu11⟩ : ∃ z, Hid ((evP a 1).1 = z) := ⟨_, Lib.hid rfl⟩
            go_wp2_with fail
            refine (EvaluatePolynomial_any _ _ a (-1) _ I15.out (Nat.le_refl _)).mono ?_
            rintro e w16 ⟨rfl, hb⟩
            rw [h9.out, hu9.out]
            have I16 := Lib.hid ((I15.out.below hb).more hb.size)
            have J16 := Lib.hid ((J15.out.below hb).more hb.size)
            have B16 := Lib.hid hb
            clear hb I15 J15
            go_wp2_with fail
            refine (EvaluatePolynomial_any _ _ b (-1) _ J16.out (Nat.le_refl _)).mono ?_
            rintro e w17 ⟨rfl, hb⟩
            rw [h10.out, hu10.out]
            have I17 := Lib.hid ((I16.out.below hb).more hb.size)
            have B17 := Lib.hid (B16.out.trans (hb.mono B16.out.size))
            clear hb I16 J16 B16
            go_wp2_with fail
            refine (EvaluatePolynomial_any _ _ a 1 _ I17.out (Nat.le_refl _)).mono ?_
            rintro e w18 ⟨rfl, hb⟩
            rw [h11.out, hu11.out]
            have B18 := Lib.hid (B17.out.trans (hb.mono B17.out.size))
            clear hb I17 B17
            have hrem : kk.tmod 2 = kk % 2 := Int.tmod_eq_emod_of_nonneg hkk.1
            by_cases q9 : s9 = 0
            · have q9b : (s9 == 0) = true := beqT q9
              by_cases q10 : s10 = 0
              · have q10b : (s10 == 0) = true := beqT q10
                by_cases q11 : s11 = 0
                · have q11b : (s11 == 0) = true := beqT q11
                  obtain ⟨V1, V2⟩ := sub_vals (a := a) (b := b) (k := kk) (u := u9) (v := u10) (o := u11) Hsub.out (by rw [← hu9.out, ← q9, ← h9.out]) (by rw [← hu10.out, ← q10, ← h10.out]) (by rw [← hu11.out, ← q11, ← h11.out])
                  by_cases hodd : kk % 2 = 1
                  · have m1 : (kk % 2 == 1) = true := beqT hodd
                    have m2 : (kk % 2 == 0) = false := beqF (by omega)
                    have m3 : (u9 != u10) = false := by rw [V1 hodd]; simp
                    clear V1 V2 hodd q9 q10 q11 hrem
                    go_wp2
                    go_meet
                    exact B18.out
                  · have m1 : (kk % 2 == 1) = false := beqF hodd
                    have m2 : (kk % 2 == 0) = true := beqT (by omega)
                    have m3 : (u10 != u11) = false := by rw [V2 (by omega)]; simp
                    clear V1 V2 hodd q9 q10 q11 hrem
                    go_wp2
                    go_meet
                    exact B18.out
                · have q11b : (s11 == 0) = false := beqF q11
                  as_aux_lemma =>
                    clear q9 q10 q11
                    go_wp2
                    go_meet
                    exact B18.out
              · have q10b : (s10 == 0) = false := beqF q10
                as_aux_lemma =>
                  clear q9 q10
                  go_wp2
                  go_meet
                  exact B18.out
            · have q9b : (s9 == 0) = false := beqF q9
              as_aux_lemma =>
                clear q9
                go_wp2
                go_meet
                exact B18.out
          · have hzb : (y7 == 0) = false := by rw [beq_eq_false_iff_ne]; exact hz0
            clear hz0
            go_wp2
            go_meet
            exact Below.refl _ _
        case rest =>
        obtain ⟨w16, hw16⟩ : ∃ w16, w16 = wc := ⟨_, rfl⟩
        rw [← hw16] at hcut ⊢
        have B16 := Lib.hid (B15.out.trans (hcut.mono B15.out.size))
        clear hw16 hcut B15 I15 J15 hy7 hbb hkk
        have hs16 := B16.out.size
        go_wp2_with fail
        refine (DrawIsSymmetricPolynomial_any w.heap.size _ n0 _ (Hy.out.below B16.out) hs16).mono ?_
        rintro e w17 ⟨v31, d, rfl, id', hb⟩
        obtain ⟨A31, n31, c31, e31, _, _, _⟩ := id id'
        subst e31
        have I17 := Lib.hid id'
        have B17 := Lib.hid (B16.out.trans (hb.mono hs16))
        clear id' hb B16 hs16
        obtain ⟨y12, hy12⟩ : ∃ z, Hid ((symP d).2 = z) := ⟨_, Lib.hid rfl⟩
        obtain ⟨o12, ho12⟩ : ∃ z, Hid ((symP d).1 = z) := ⟨_, Lib.hid rfl⟩
        have hrc := Lib.hid (show (revP d).2 = y12 by rw [← hy12.out]; unfold revP symP; cases isPoly d <;> rfl)
        obtain ⟨r, hr⟩ : ∃ z, Hid ((revP d).1 = z) := ⟨_, Lib.hid rfl⟩
        go_wp2_with fail
        refine (IsSymmetricPolynomial_any _ _ d _ I17.out (Nat.le_refl _)).mono ?_
        rintro e w18 ⟨rfl, hb⟩
        rw [hy12.out, ho12.out]
        have I18 := Lib.hid ((I17.out.below hb).more hb.size)
        have B18 := Lib.hid (B17.out.trans (hb.mono B17.out.size))
        clear hb I17 B17
        go_wp2_with fail
        refine (sIsSymmetricPolynomial_any _ _ d _ I18.out (Nat.le_refl _)).mono ?_
        rintro e w19 ⟨rfl, hb⟩
        rw [hy12.out, ho12.out]
        have I19 := Lib.hid ((I18.out.below hb).more hb.size)
        have B19 := Lib.hid (B18.out.trans (hb.mono B18.out.size))
        clear hb I18 B18
        go_wp2_with fail
        refine (ReversePolynomial_any _ _ d _ I19.out (Nat.le_refl _)).mono ?_
        rintro e w20 ⟨v36, rfl, oo, hb⟩
        rw [hrc.out]
        rw [hr.out] at oo
        have J20 := Lib.hid oo.is
        obtain ⟨A36, n36, c36, e36, _, _, _⟩ := oo.is
        subst e36
        have I20 := Lib.hid ((I19.out.below hb).more hb.size)
        have B20 := Lib.hid (B19.out.trans (hb.mono B19.out.size))
        clear oo hb I19 B19
        have n1 : (y12 != y12) = false := by simp
        have n2 : (o12 != o12) = false := by simp
        by_cases hz0 : y12 = 0
        · have hzb : (y12 != 0) = false := by simp [hz0]
          have hdp : isPoly d = true := by
            have h1 := hy12.out
            rw [hz0] at h1
            unfold symP at h1
            cases hd : isPoly d
            · rw [hd] at h1; simp at h1
            · rfl
          obtain ⟨hS1, hS2⟩ := sym_rev hdp
          have ho := Lib.hid (show (r == d) = o12 by rw [← ho12.out, ← hr.out, hS1, hS2])
          have n3 : (o12 == o12) = true := by simp
          clear hz0 hdp hS1 hS2
          go_wp2_with fail
          refine (likeInts_any _ _ _ _ r d _ J20.out I20.out (Nat.le_refl _) (Nat.le_refl _)).mono ?_
          rintro e w21 ⟨rfl, hb⟩
          rw [ho.out]
          have hfin := Lib.hid (B20.out.trans (hb.mono B20.out.size))
          clear hb
          go_wp2
          go_ret
          exact ⟨rfl, hfin.out⟩
        · have hzb : (y12 != 0) = true := by simp [hz0]
          have hfin := B20.out
          clear hz0
          go_wp2
          go_ret
          exact ⟨rfl, hfin⟩
end Go.Proofs.YtdfhkkngbpidaaaDoor.fnPolynomialTexts
