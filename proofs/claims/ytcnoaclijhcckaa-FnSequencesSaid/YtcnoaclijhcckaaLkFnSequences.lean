/-
  The law FnSequences returns true for every code.
  THE WALK THROUGH 'laws.FnSequences', out of the contracts of what it calls.
-/
import Derived.Test.YtcnoaclijhcckaaWlkF10
import Derived.Test.YtcnoaclijhcckaaWlkL3
import Derived.Test.YtcnoaclijhcckaaWlkL9
import Derived.Test.YtcnoaclijhcckaaWlkE7
import Derived.Test.YtcnoaclijhcckaaPlU
import Derived.Deep.CutRange
namespace Go.Proofs.Ytcnoaclijhcckaa.fnSequences
open Go.RowKit
set_option linter.unusedVariables false
open Pl K WA WL WC WD WE WF
theorem lng_yes {xs : List Int} {m : Int} (h : (lngB xs m).2 = 0) : isBr xs = true ∧ ∃ k : Nat, m = (k : Int) ∧ (seqB xs).length + k ≤ 400 ∧ lngB xs m = (seqB xs ++ ones k, 0) := by
  have hc : lngC xs m = 0 := by
    unfold lngB at h
    split at h
    · rename_i h2; exact h2
    · rename_i h2; exact absurd h h2
  have hl : lngB xs m = (seqB xs ++ ones m.toNat, 0) := by unfold lngB; rw [if_pos hc]
  unfold lngC at hc
  split at hc
  · rename_i h1
    refine ⟨h1, ?_⟩
    split at hc
    · rename_i h2
      have h3 := inR_true.1 h2
      split at hc
      · cases hc
      · refine ⟨m.toNat, by omega, by omega, hl⟩
    · cases hc
  · cases hc
theorem lng_at {xs : List Int} (h : isBr xs = true) (k : Nat) (hk : (seqB xs).length + k ≤ 400) : lngB xs (k : Int) = (seqB xs ++ ones k, 0) := by
  have hc : lngC xs (k : Int) = 0 := by
    unfold lngC
    rw [if_pos h, if_pos (inR_true.2 ⟨by omega, by omega⟩), if_neg (by omega)]
  unfold lngB
  rw [if_pos hc, Int.toNat_natCast]
theorem gx_ones {xs : List Int} {k i : Nat} (h : (seqB xs).length ≤ i) (h2 : i < (seqB xs ++ ones k).length) : gx (seqB xs ++ ones k) i = 1 := by
  have hlt : i - (seqB xs).length < k := by simp [ones] at h2; omega
  rw [gx_append, if_neg (by omega), gx_eq _ _ (by simpa [ones] using hlt)]
  simp [ones]
set_option maxRecDepth 16384 in
set_option maxHeartbeats 25600000 in
theorem walk (w : World) (v0 : Value) (n0 : Nat) (is0 : IsY w w.heap.size v0 n0) :
    Calls Try.prog 4 #[v0] w fun e w' => e = .returned (.bool true) ∧ Below w.heap.size w w' := by
  have Hy := Lib.hid is0
  have hshape := is0
  obtain ⟨A0, c0, hv0, _, _, _⟩ := hshape
  subst hv0
  by_cases hbig : 4096 < n0
  · have hbd : decide (4096 < n0) = true := by simp [hbig]
    go_enter Try.func4, Try.ntmps4
    go_wp2_with fail
    refine (big_any _ _ n0 _ Hy.out).mono ?_
    rintro e w' ⟨rfl, rfl⟩
    rw [hbd]
    go_wp2
    go_ret
    exact ⟨rfl, Below.refl _ _⟩
  · have hbd : decide (4096 < n0) = false := by simp [hbig]
    clear hbig is0
    go_enter Try.func4, Try.ntmps4
    go_wp2_with fail
    refine (big_any _ _ n0 _ Hy.out).mono ?_
    rintro e w' ⟨rfl, rfl⟩
    rw [hbd]
    go_wp2_with fail
    refine (DrawLongSequence_any _ _ n0 _ Hy.out (Nat.le_refl _)).mono ?_
    rintro e w1 ⟨v1, xs, mm, rfl, i1, hb1, hmm1, hmm2⟩
    have hz1 := hb1.size
    obtain ⟨A, n, c, rfl, hnc, hcm, hrd⟩ := i1
    have Hn := Lib.hid hrd.len
    have V2 := Lib.hid (Vr.new (show Is w1 w1.heap.size (.slice A n c) xs from ⟨A, n, c, rfl, hnc, hcm, hrd⟩) 26)
    have hb2 := Lib.hid (hb1.trans ((al_below w1 (.cells #[.slice A n c] 26)).mono hz1))
    unfold maxLen at hcm
    clear hrd hb1
    go_upto_region 4 with fail
    obtain ⟨w2, hw2⟩ : ∃ w2, w2 = w1.alloc (.cells #[.slice A n c] 26) := ⟨_, rfl⟩
    rw [← hw2] at V2 hb2 ⊢
    clear hw2
    have g2 := V2.out.z.1
    obtain ⟨z, hz⟩ : ∃ z, Hid ((lngB xs mm).2 = z) := ⟨_, Lib.hid rfl⟩
    obtain ⟨L, hL⟩ : ∃ L, Hid ((lngB xs mm).1 = L) := ⟨_, Lib.hid rfl⟩
    go_wp2_with fail
    refine (LongSequence_any _ _ xs mm _ V2.out.i (Nat.le_refl _)).mono ?_
    rintro e w3 ⟨v3, rfl, o3, hb3⟩
    rw [hz.out]
    rw [hL.out] at o3
    obtain ⟨A3, N, c3, e3, hnc3, hcm3, hrd3⟩ := o3.is
    subst e3
    have HN := Lib.hid hrd3.len
    have I3 := Lib.hid (show Is w3 w3.heap.size (.slice A3 N c3) L from ⟨A3, N, c3, rfl, hnc3, hcm3, hrd3⟩)
    have V3 := Lib.hid (V2.out.later hb3)
    have B3 := Lib.hid (hb2.out.trans (hb3.mono hb2.out.size))
    have g3 := V3.out.z.1
    clear hb3 V2 hb2 g2 o3 hrd3
    go_wp2_with fail
    refine (sLongSequence_any _ _ xs mm _ V3.out.i (Nat.le_refl _)).mono ?_
    rintro e w4 ⟨v4, rfl, o4, hb4⟩
    rw [hz.out]
    rw [hL.out] at o4
    have I4 := Lib.hid o4.is
    obtain ⟨A4, n4, c4, e4, hnc4, hcm4, hrd4⟩ := o4.is
    subst e4
    have V4 := Lib.hid (V3.out.later hb4)
    have B4 := Lib.hid (B3.out.trans (hb4.mono B3.out.size))
    have J4 := Lib.hid ((I3.out.below hb4).more hb4.size)
    have g4 := V4.out.z.1
    clear hb4 V3 B3 I3 g3 o4 hrd4
    have t1 : (z != z) = false := by simp
    go_wp2_with fail
    refine (likeInts_any _ _ _ _ L L _ J4.out I4.out (Nat.le_refl _) (Nat.le_refl _)).mono ?_
    rintro e w5 ⟨rfl, hb5⟩
    rw [show (L == L) = true by simp]
    have V5 := Lib.hid (V4.out.later hb5)
    have B5 := Lib.hid (B4.out.trans (hb5.mono B4.out.size))
    have J5 := Lib.hid ((J4.out.below hb5).more hb5.size)
    have g5 := V5.out.z.1
    clear hb5 V4 B4 J4 I4 g4
    go_upto_if 63 with fail
    go_cut [9, 10, 11, 12, 13, 14, 15, 16, 17] from 34 to 272 (fun _ _ _ _ _ _ _ _ _ wx => ∃ hc : Below w.heap.size w wx, True)
    case first =>
     as_aux_lemma =>
      by_cases hz0 : z = 0
      · have hzb : (z == 0) = true := by simp [hz0]
        obtain ⟨hbr, mo, hmo, h400, hlB⟩ := lng_yes (xs := xs) (m := mm) (by rw [hz.out]; exact hz0)
        subst hmo
        have hLe : L = seqB xs ++ ones mo := by rw [← hL.out, hlB]
        obtain ⟨Y, HY⟩ : ∃ Y, Hid (seqB xs = Y) := ⟨_, Lib.hid rfl⟩
        obtain ⟨n5, H5⟩ : ∃ n5, Hid (Y.length = n5) := ⟨_, Lib.hid rfl⟩
        have HL := Lib.hid (show L = Y ++ ones mo by rw [hLe, HY.out])
        have Hbr := Lib.hid hbr
        have Hbos := Lib.hid (show bosB L = (xs, 0) by rw [hLe]; exact (bos_seq hbr mo h400).1)
        have Hisq := Lib.hid (show isqB L = true by rw [hLe]; exact (bos_seq hbr mo h400).2)
        have hl5 : 1 ≤ n5 ∧ n5 + mo ≤ 400 := by
          have h1 := seqB_len hbr
          rw [HY.out, H5.out] at h1 h400
          omega
        have hNe := Lib.hid (show N = n5 + mo by rw [← HN.out, HL.out]; simp [ones, H5.out])
        have HLb := Lib.hid (show ∀ x ∈ L, 1 ≤ x ∧ x ≤ 64 by
          intro x hx
          rw [hLe] at hx
          rcases List.mem_append.1 hx with h6 | h6
          · exact seqB_bd hbr x h6
          · unfold ones at h6; rw [(List.mem_replicate.1 h6).2]; omega)
        have Hprox := Lib.hid (show ∀ i, i < N → 1 < gx L i → Hits (gx L i) (L.drop (i + 1)) by
          intro i hi hx
          rw [← HN.out] at hi
          exact prox_at L (by rw [hLe]; exact prox_seq hbr mo) i hi hx)
        have Hone := Lib.hid (show ∀ i, n5 ≤ i → i < N → gx L i = 1 by
          intro i h1 h2
          rw [← HN.out] at h2
          rw [← H5.out, ← HY.out] at h1
          rw [hLe] at h2 ⊢
          exact gx_ones h1 h2)
        have hLl : (L.take n5) = Y := by rw [HL.out, ← H5.out]; simp
        have HLl := Lib.hid hLl
        clear hz0 hz hL h400 hlB hLe hbr hmm1 hmm2 hLl t1
        go_wp2_with fail
        refine (BranchOfSequence_any _ _ L _ J5.out (Nat.le_refl _)).mono ?_
        rintro e w6 ⟨v6, rfl, o6, hb6⟩
        rw [show (bosB L).2 = 0 by rw [Hbos.out]]
        rw [show (bosB L).1 = xs by rw [Hbos.out]] at o6
        have k6 := Lib.hid o6.is
        obtain ⟨A6, c6, e6, _, _⟩ := o6.shape
        subst e6
        rw [Hn.out] at k6 ⊢
        have B6 := Lib.hid (B5.out.trans (hb6.mono B5.out.size))
        have V6 := Lib.hid (V5.out.later hb6)
        have J6 := Lib.hid ((J5.out.below hb6).more hb6.size)
        have ha := al_below w6 (.cells #[.slice A6 n c6] 26)
        have VC := Lib.hid (Vr.new k6.out 26)
        have V7 := Lib.hid (V6.out.later ha)
        have J7 := Lib.hid ((J6.out.below ha).more ha.size)
        have B7 := Lib.hid (B6.out.trans (ha.mono B6.out.size))
        clear ha V5 B5 J5 V6 B6 J6 k6 o6 hb6 g5
        go_upto_region 10 with fail
        obtain ⟨w7, hw7⟩ : ∃ w7, w7 = w6.alloc (.cells #[.slice A6 n c6] 26) := ⟨_, rfl⟩
        rw [← hw7] at VC V7 J7 B7 ⊢
        clear hw7
        have g7 := V7.out.z.1
        go_wp2_with fail
        refine (SequenceOf_any _ _ xs _ V7.out.i (Nat.le_refl _)).mono ?_
        rintro e w8 ⟨v8, rfl, o8, hb8⟩
        have hs0 := Lib.hid (show lngB xs 0 = (Y, 0) by
          have := lng_at Hbr.out 0 (by rw [HY.out, H5.out]; omega)
          simpa [ones, HY.out] using this)
        rw [show (lngB xs 0).2 = 0 by rw [hs0.out]]
        rw [show (lngB xs 0).1 = Y by rw [hs0.out]] at o8
        have S8 := Lib.hid o8.is
        obtain ⟨A8, n8, c8, e8, hnc8, hcm8, hrd8⟩ := o8.is
        obtain rfl : n8 = n5 := by have := hrd8.len; rw [H5.out] at this; exact this.symm
        subst e8
        have VC8 := Lib.hid (VC.out.later hb8)
        have V8 := Lib.hid (V7.out.later hb8)
        have J8 := Lib.hid ((J7.out.below hb8).more hb8.size)
        have B8 := Lib.hid (B7.out.trans (hb8.mono B7.out.size))
        have g8 := V8.out.z.1
        clear hb8 VC V7 J7 B7 g7 o8 hrd8
        go_wp2_with fail
        refine (CountBranchPoints_any _ _ xs _ V8.out.i (Nat.le_refl _)).mono ?_
        rintro e w9 ⟨rfl, hb9⟩
        rw [show (cbpB xs).2 = 0 by unfold cbpB; rw [if_pos Hbr.out], show (cbpB xs).1 = (n8 : Int) by unfold cbpB; rw [if_pos Hbr.out, HY.out, H5.out]]
        have VC9 := Lib.hid (VC8.out.later hb9)
        have V9 := Lib.hid (V8.out.later hb9)
        have J9 := Lib.hid ((J8.out.below hb9).more hb9.size)
        have S9 := Lib.hid ((S8.out.below hb9).more hb9.size)
        have B9 := Lib.hid (B8.out.trans (hb9.mono B8.out.size))
        have g9 := V9.out.z.1
        have k9 := VC9.out.z.1
        clear hb9 VC8 V8 J8 S8 B8 g8
        go_wp2_with fail
        refine (likeInts_any _ _ _ _ xs xs _ VC9.out.i V9.out.i (Nat.le_refl _) (Nat.le_refl _)).mono ?_
        rintro e wa ⟨rfl, hba⟩
        rw [show (xs == xs) = true by simp]
        have Ja := Lib.hid ((J9.out.below hba).more hba.size)
        have Sa := Lib.hid ((S9.out.below hba).more hba.size)
        have Ba := Lib.hid (B9.out.trans (hba.mono B9.out.size))
        clear hba VC9 V9 J9 S9 B9 g9 k9
        go_wp2_with fail
        refine (IsSequence_any _ _ L _ Ja.out (Nat.le_refl _)).mono ?_
        rintro e wb ⟨rfl, hbb⟩
        rw [Hisq.out]
        have Jb := Lib.hid ((Ja.out.below hbb).more hbb.size)
        have Sb := Lib.hid ((Sa.out.below hbb).more hbb.size)
        have Bb := Lib.hid (Ba.out.trans (hbb.mono Ba.out.size))
        have t2 : ((n8 : Int) != (n8 : Int)) = false := by simp
        have t3 : ((N : Int) != (n8 : Int) + (mo : Int)) = false := by have := hNe.out; simp; omega
        have hn8 : 0 ≤ (n8 : Int) ∧ (n8 : Int) ≤ (c3 : Int) := by have := hNe.out; omega
        have hn8' : n8 ≤ c3 := by have := hNe.out; omega
        have hN1 : 1 ≤ N := by have := hNe.out; omega
        have hN4 : N ≤ 400 := by have := hNe.out; omega
        obtain ⟨A9, n9, c9, e9, _, _, hrd9⟩ := Jb.out
        cases e9
        obtain ⟨ad, eA, hab, hcl⟩ := hrd9.pos (by omega)
        subst eA
        have Tk := Lib.hid (show Is wb wb.heap.size (.slice (some ad) n8 c3) Y by
          have := Is.take Jb.out n8 (by have := hNe.out; omega)
          rw [HLl.out] at this; exact this)
        clear hbb Ja Sa Ba hrd9
        go_wp2_with fail
        refine (likeInts_any _ _ _ _ Y Y _ Tk.out Sb.out (Nat.le_refl _) (Nat.le_refl _)).mono ?_
        rintro e wc ⟨rfl, hbc⟩
        rw [show (Y == Y) = true by simp]
        have Bc := Lib.hid (Bb.out.trans (hbc.mono Bb.out.size))
        have HC := Lib.hid (show ∀ j, j < N → wc.cell? (ad.add j) = some (.int .i64 (gx L j)) from fun j hj => (hbc.cell (by rw [block_of_add]; exact hab)).trans (hcl j hj))
        clear hbc Jb Sb Bb Tk hcl t2 t3 hab
        go_upto_region 14 with fail
        go_wp2_with fail
        go_loopw [15, 16, 17] (fun s15 _ _ wr => ∃ i : Nat, i ≤ N ∧ s15 = .int .i64 (i : Int) ∧ Below w.heap.size w wr ∧ Hid (∀ j, j < N → wr.cell? (ad.add j) = some (.int .i64 (gx L j)))) (fun s15 _ _ _ => N - (intOf s15).toNat)
        case atStart => exact ⟨0, Nat.zero_le _, rfl, Bc.out, HC⟩
        case round =>
         as_aux_lemma =>
          clear Bc HC
          obtain ⟨i, hi, rfl, hbe, HC⟩ := hrel
          by_cases hlt : i < N
          · obtain ⟨X, hX⟩ : ∃ X, Hid (gx L i = X) := ⟨_, Lib.hid rfl⟩
            have hcX : wr.cell? (ad.add i) = some (.int .i64 X) := by rw [HC.out i hlt, hX.out]
            have hXb := HLb.out _ (gx_mem L i (by rw [HN.out]; exact hlt))
            rw [hX.out] at hXb
            have hidx : 0 ≤ (i : Int) ∧ (i : Int) < (N : Int) := by omega
            go_upto_region 17 with fail
            go_cut [140] from 124 to 175 (fun t wx => t = .bool false ∧ wx = wr)
            case first =>
              by_cases hge : n8 ≤ i
              · have hge' : (n8 : Int) ≤ (i : Int) := by omega
                have hX1 : X = 1 := by rw [← hX.out]; exact Hone.out i hge hlt
                have hb1 : (X != 1) = false := by simp [hX1]
                clear hX1
                go_wp2
                go_meet
                exact ⟨rfl, rfl⟩
              · have hge' : ¬ (n8 : Int) ≤ (i : Int) := by omega
                go_wp2
                go_meet
                exact ⟨rfl, rfl⟩
            case rest =>
            obtain ⟨rfl, rfl⟩ := hcut
            go_wp2_with fail
            go_loopw [16, 17] (fun s16 s17 wq => ∃ j : Nat, i + 1 ≤ j ∧ j ≤ N ∧ s17 = .int .i64 (j : Int) ∧ s16 = .int .i64 (sg L (i + 1) j) ∧ Hid (1 < X → sg L (i + 1) j ≤ X) ∧ (0 ≤ sg L (i + 1) j ∧ sg L (i + 1) j ≤ 128) ∧ Below w.heap.size w wq ∧ Hid (∀ j, j < N → wq.cell? (ad.add j) = some (.int .i64 (gx L j)))) (fun _ s17 _ => N - (intOf s17).toNat)
            case atStart => exact ⟨i + 1, Nat.le_refl _, by omega, by go_num, by rw [sg_self], Lib.hid (fun _ => by rw [sg_self]; omega), by rw [sg_self]; omega, hbe, HC⟩
            case round =>
             as_aux_lemma =>
              clear hbe HC hcX
              obtain ⟨j, hij, hjN, rfl, rfl, HX, hSb, hbe, HC⟩ := hrel
              have hcX : wr.cell? (ad.add i) = some (.int .i64 X) := by rw [HC.out i hlt, hX.out]
              obtain ⟨S, hS⟩ : ∃ S, Hid (sg L (i + 1) j = S) := ⟨_, Lib.hid rfl⟩
              have Hstep := Lib.hid (fun (h : 1 < X) => sg_hits (l := L) (i := i + 1) (j := j) (x := X) (by have := Hprox.out i hlt (by rw [hX.out]; exact h); rwa [hX.out] at this) (fun y hy => (HLb.out y hy).1) hij (by rw [HN.out]; exact hjN))
              rw [hS.out] at HX hSb Hstep ⊢
              rw [HN.out] at Hstep
              by_cases hj : j < N
              · have hj' : (j : Int) < (N : Int) := by omega
                by_cases hSX : S < X
                · have hcj := HC.out j hj
                  have hbj := HLb.out _ (gx_mem L j (by rw [HN.out]; exact hj))
                  have hsn := Lib.hid (show sg L (i + 1) (j + 1) = S + gx L j by rw [sg_succ L (i + 1) j hij (by rw [HN.out]; exact hj), hS.out])
                  obtain ⟨Z, hZ⟩ : ∃ Z, Hid (gx L j = Z) := ⟨_, Lib.hid rfl⟩
                  rw [hZ.out] at hcj hbj hsn
                  have hjx : 0 ≤ (j : Int) ∧ (j : Int) < (N : Int) := by omega
                  have HX2 := Lib.hid (fun (h : 1 < X) => (Hstep.out h hSX).2)
                  rw [hsn.out] at HX2
                  clear Hstep
                  go_wp2_with fail
                  go_roundw
                  case rel => exact ⟨j + 1, by omega, by omega, by go_num, by rw [hsn.out], by rw [hsn.out]; exact HX2, by rw [hsn.out]; omega, hbe, HC⟩
                  case measure => first | (simp [intOf]; done) | (simp [intOf]; omega)
                · have hgo : ¬ (j < N ∧ S < X) := fun h => hSX h.2
                  by_cases hX1 : 1 < X
                  · have heq : S = X := by
                      have h1 := HX.out hX1
                      rcases Int.lt_or_eq_of_le h1 with h2 | h2
                      · exact absurd ⟨(Hstep.out hX1 h2).1, h2⟩ hgo
                      · exact h2
                    have hbq : (S != X) = false := by simp [heq]
                    have hnlt : ¬ S < X := by omega
                    clear heq Hstep HX hgo
                    go_wp2
                    go_roundw
                    case rel => exact ⟨i + 1, by omega, by go_num, hbe, HC⟩
                    case measure => first | (simp [intOf]; done) | (simp [intOf]; omega)
                  · clear Hstep HX hgo
                    go_wp2
                    go_roundw
                    case rel => exact ⟨i + 1, by omega, by go_num, hbe, HC⟩
                    case measure => first | (simp [intOf]; done) | (simp [intOf]; omega)
              · have hj' : ¬ (j : Int) < (N : Int) := by omega
                have hgo : ¬ (j < N ∧ S < X) := fun h => hj h.1
                by_cases hX1 : 1 < X
                · have heq : S = X := by
                    have h1 := HX.out hX1
                    rcases Int.lt_or_eq_of_le h1 with h2 | h2
                    · exact absurd ⟨(Hstep.out hX1 h2).1, h2⟩ hgo
                    · exact h2
                  have hbq : (S != X) = false := by simp [heq]
                  have hnlt : ¬ S < X := by omega
                  clear heq Hstep HX hgo
                  go_wp2
                  go_roundw
                  case rel => exact ⟨i + 1, by omega, by go_num, hbe, HC⟩
                  case measure => first | (simp [intOf]; done) | (simp [intOf]; omega)
                · clear Hstep HX hgo
                  go_wp2
                  go_roundw
                  case rel => exact ⟨i + 1, by omega, by go_num, hbe, HC⟩
                  case measure => first | (simp [intOf]; done) | (simp [intOf]; omega)
          · go_wp2_with fail
            go_meet
            exact ⟨hbe, trivial⟩
      · have hzb : (z == 0) = false := by rw [beq_eq_false_iff_ne]; exact hz0
        go_wp2
        go_meet
        exact ⟨B5.out, trivial⟩
    case rest =>
     as_aux_lemma =>
      obtain ⟨hbc, _⟩ := hcut
      clear V5 J5 hz hL
      obtain ⟨u0, hu0⟩ : ∃ u0, u0 = wc := ⟨_, rfl⟩
      rw [← hu0] at hbc ⊢
      clear hu0
      have hs0 := hbc.size
      go_wp2_with fail
      refine (DrawStrictTransform_any w.heap.size _ n0 _ (Hy.out.below hbc) hs0).mono ?_
      rintro e u1 ⟨v18, ys, rfl, i1, hb1⟩
      have hB1 := Lib.hid (hbc.trans (hb1.mono hs0))
      obtain ⟨A1, n1, c1, e1, _, _, hrd1⟩ := i1
      subst e1
      have Hn1 := Lib.hid hrd1.len
      have ha := al_below u1 (.cells #[.slice A1 n1 c1] 26)
      have V2' := Lib.hid (Vr.new (show Is u1 u1.heap.size (.slice A1 n1 c1) ys from ⟨A1, n1, c1, rfl, by assumption, by assumption, hrd1⟩) 26)
      have hB2 := Lib.hid (hB1.out.trans (ha.mono hB1.out.size))
      clear ha hrd1 hb1 hB1 hbc
      go_upto_region 27 with fail
      obtain ⟨u2', hu2⟩ : ∃ u2', u2' = u1.alloc (.cells #[.slice A1 n1 c1] 26) := ⟨_, rfl⟩
      rw [← hu2] at V2' hB2 ⊢
      clear hu2
      have g2' := V2'.out.z.1
      obtain ⟨z2, hz2⟩ : ∃ z2, Hid ((stB ys).2 = z2) := ⟨_, Lib.hid rfl⟩
      obtain ⟨T, hT⟩ : ∃ T, Hid ((stB ys).1 = T) := ⟨_, Lib.hid rfl⟩
      obtain ⟨nT, hnT⟩ : ∃ nT, Hid (T.length = nT) := ⟨_, Lib.hid rfl⟩
      go_wp2_with fail
      refine (StrictTransform_any _ _ ys _ V2'.out.i (Nat.le_refl _)).mono ?_
      rintro e u3 ⟨v19, rfl, o3, hb3⟩
      rw [hz2.out]
      rw [hT.out] at o3
      have k3 := Lib.hid o3.is
      obtain ⟨A3', c3', e3, _, _⟩ := o3.shape
      subst e3
      rw [hnT.out] at k3 ⊢
      have hB3 := Lib.hid (hB2.out.trans (hb3.mono hB2.out.size))
      have V3' := Lib.hid (V2'.out.later hb3)
      have ha := al_below u3 (.cells #[.slice A3' nT c3'] 26)
      have VD := Lib.hid (Vr.new k3.out 26)
      have V4' := Lib.hid (V3'.out.later ha)
      have hB4 := Lib.hid (hB3.out.trans (ha.mono hB3.out.size))
      clear ha hB3 V3' k3 o3 hb3 hB2 V2' g2'
      go_upto_region 28 with fail
      obtain ⟨u4', hu4⟩ : ∃ u4', u4' = u3.alloc (.cells #[.slice A3' nT c3'] 26) := ⟨_, rfl⟩
      rw [← hu4] at VD V4' hB4 ⊢
      clear hu4
      have g4' := V4'.out.z.1
      go_wp2_with fail
      refine (sStrictTransform_any _ _ ys _ V4'.out.i (Nat.le_refl _)).mono ?_
      rintro e u5 ⟨v21, rfl, o5, hb5⟩
      rw [hz2.out]
      rw [hT.out] at o5
      have k5 := Lib.hid o5.is
      obtain ⟨A5', c5', e5, _, _⟩ := o5.shape
      subst e5
      rw [hnT.out] at k5 ⊢
      have hB5 := Lib.hid (hB4.out.trans (hb5.mono hB4.out.size))
      have V5' := Lib.hid (V4'.out.later hb5)
      have VD5 := Lib.hid (VD.out.later hb5)
      have ha := al_below u5 (.cells #[.slice A5' nT c5'] 26)
      have VE := Lib.hid (Vr.new k5.out 26)
      have V6' := Lib.hid (V5'.out.later ha)
      have VD6 := Lib.hid (VD5.out.later ha)
      have hB6 := Lib.hid (hB5.out.trans (ha.mono hB5.out.size))
      clear ha hB5 V5' VD5 k5 o5 hb5 hB4 V4' VD g4'
      go_upto_region 29 with fail
      obtain ⟨u6', hu6⟩ : ∃ u6', u6' = u5.alloc (.cells #[.slice A5' nT c5'] 26) := ⟨_, rfl⟩
      rw [← hu6] at VD6 VE V6' hB6 ⊢
      clear hu6
      have t6 : (z2 != z2) = false := by simp
      have g6' := VD6.out.z.1
      have g7' := VE.out.z.1
      go_wp2_with fail
      refine (likeInts_any _ _ _ _ T T _ VD6.out.i VE.out.i (Nat.le_refl _) (Nat.le_refl _)).mono ?_
      rintro e u7 ⟨rfl, hb7⟩
      rw [show (T == T) = true by simp]
      have V7' := Lib.hid (V6'.out.later hb7)
      have VD7 := Lib.hid (VD6.out.later hb7)
      have hB7 := Lib.hid (hB6.out.trans (hb7.mono hB6.out.size))
      clear hb7 V6' VD6 VE hB6 g6' g7' t6
      go_upto_if 200 with fail
      go_cut [23, 24, 25, 26, 27, 28] from 34 to 272 (fun _ _ _ _ _ _ wx => ∃ hc : Below w.heap.size w wx, True)
      case first =>
       as_aux_lemma =>
        by_cases hz0 : z2 = 0
        · have hzb : (z2 == 0) = true := by simp [hz0]
          obtain ⟨hbr, h400, hTe⟩ : isBr ys = true ∧ (seqB ys).length + 1 ≤ 400 ∧ stB ys = ((bsq ((seqB ys ++ ones 1).drop 1)).getD [], 0) := by
            have h1 := hz2.out
            rw [hz0] at h1
            cases hb : isBr ys
            · rw [stB_no hb] at h1; cases h1
            · by_cases h4 : 400 < ((seqB ys).length : Int) + 1
              · rw [stB_long hb h4] at h1; cases h1
              · refine ⟨rfl, by omega, ?_⟩
                unfold stB; rw [hb, if_neg h4]; rfl
          obtain ⟨T', hT1, hT2, hT3, hT4⟩ := strict_seq hbr
          have hTT : T = T' := by rw [← hT.out, hTe, hT1]; rfl
          subst hTT
          obtain ⟨nY, HnY⟩ : ∃ nY, Hid ((seqB ys).length = nY) := ⟨_, Lib.hid rfl⟩
          obtain ⟨nZ, HnZ⟩ : ∃ nZ, Hid ((seqB T).length = nZ) := ⟨_, Lib.hid rfl⟩
          rw [HnY.out, HnZ.out] at hT3 hT4
          rw [HnY.out] at h400
          obtain ⟨dZ, HdZ⟩ : ∃ dZ, Hid (nY - nZ = dZ) := ⟨_, Lib.hid rfl⟩
          rw [HdZ.out] at hT4
          have HbT := Lib.hid hT2
          have HT4 := Lib.hid hT4
          have Hw1 := Lib.hid (show lngB ys 1 = (seqB ys ++ ones 1, 0) from lng_at hbr 1 (by rw [HnY.out]; omega))
          have Hd := Lib.hid (show lngB T (dZ : Int) = (seqB T ++ ones dZ, 0) from lng_at hT2 dZ (by rw [HnZ.out]; have := HdZ.out; omega))
          obtain ⟨W1, HW1⟩ : ∃ W1, Hid (seqB ys ++ ones 1 = W1) := ⟨_, Lib.hid rfl⟩
          have hY1 := (seqB_len hbr).1
          rw [HnY.out] at hY1
          have HW1l := Lib.hid (show W1.length = nY + 1 by rw [← HW1.out]; simp [ones, HnY.out])
          have g7' := V7'.out.z.1
          clear hz0 hbr hTe hT1 hT2 hT4
          go_wp2_with fail
          refine (LongSequence_any _ _ ys 1 _ V7'.out.i (Nat.le_refl _)).mono ?_
          rintro e u8 ⟨v23, rfl, o8, hb8⟩
          rw [show (lngB ys 1).2 = 0 by rw [Hw1.out]]
          rw [show (lngB ys 1).1 = W1 by rw [Hw1.out, HW1.out]] at o8
          obtain ⟨A8, n8, c8, e8, hnc8, hcm8, hrd8⟩ := o8.is
          subst e8
          have Hn8 := Lib.hid (show n8 = nY + 1 by rw [← hrd8.len, HW1l.out])
          have J8 := Lib.hid (show Is u8 u8.heap.size (.slice A8 n8 c8) W1 from ⟨A8, n8, c8, rfl, hnc8, hcm8, hrd8⟩)
          obtain ⟨a8, e8, hab8, _⟩ := hrd8.pos (by have := Hn8.out; omega)
          subst e8
          have VD8 := Lib.hid (VD7.out.later hb8)
          have hB8 := Lib.hid (hB7.out.trans (hb8.mono hB7.out.size))
          have g8' := VD8.out.z.1
          clear hb8 VD7 hB7 V7' o8 hrd8
          go_wp2_with fail
          refine (CountBranchPoints_any _ _ T _ VD8.out.i (Nat.le_refl _)).mono ?_
          rintro e u9 ⟨rfl, hb9⟩
          rw [show (cbpB T).2 = 0 by unfold cbpB; rw [if_pos HbT.out], show (cbpB T).1 = (nZ : Int) by unfold cbpB; rw [if_pos HbT.out, HnZ.out]]
          have VD9 := Lib.hid (VD8.out.later hb9)
          have J9 := Lib.hid ((J8.out.below hb9).more hb9.size)
          have hB9 := Lib.hid (hB8.out.trans (hb9.mono hB8.out.size))
          have g9' := VD9.out.z.1
          have hrunmax : ∀ (W : World) (ts : Array TypeId) (t : TypeId), (Builtin.max_ ts t #[.int .i64 0, .int .i64 ((n8 : Int) - 1 - (nZ : Int))]).run Try.prog W = .ok (.int .i64 (dZ : Int)) W := fun W ts t => by
            rw [run_max_int2]
            have h1 := Hn8.out
            have h3 := HdZ.out
            have h2 : (if (n8 : Int) - 1 - (nZ : Int) > 0 then (n8 : Int) - 1 - (nZ : Int) else 0) = (dZ : Int) := by split <;> omega
            rw [h2]
          have hn8b : n8 ≤ 400 ∧ nZ ≤ 400 := by have := Hn8.out; omega
          clear hb9 VD8 J8 hB8 g8' g7'
          go_wp2_with fail
          refine (LongSequence_any _ _ T (dZ : Int) _ VD9.out.i (Nat.le_refl _)).mono ?_
          rintro e ua ⟨v27, rfl, oa, hba⟩
          rw [show (lngB T (dZ : Int)).2 = 0 by rw [Hd.out]]
          rw [show (lngB T (dZ : Int)).1 = W1.drop 1 by rw [Hd.out, ← HW1.out]; exact HT4.out] at oa
          have Ka := Lib.hid oa.is
          obtain ⟨Aa, na, ca, ea, _, _, _⟩ := oa.is
          subst ea
          have Ja := Lib.hid ((J9.out.below hba).more hba.size)
          have hBa := Lib.hid (hB9.out.trans (hba.mono hB9.out.size))
          have hc82 : 2 ≤ c8 := by have := Hn8.out; omega
          have hn81 : 1 ≤ n8 := by have := Hn8.out; omega
          have hn8i : (1 : Int) ≤ (n8 : Int) := by omega
          have Jt := Lib.hid (tail_is Ja.out hn81 hnc8 hcm8)
          unfold maxLen at hcm8
          clear hba VD9 J9 hB9 g9' oa Ja
          go_wp2_with fail
          refine (likeInts_any _ _ _ _ (W1.drop 1) (W1.drop 1) _ Ka.out Jt.out (Nat.le_refl _) (Nat.le_refl _)).mono ?_
          rintro e ub ⟨rfl, hbb⟩
          rw [show (W1.drop 1 == W1.drop 1) = true by simp]
          have hfin := hBa.out.trans (hbb.mono hBa.out.size)
          clear hbb Ka Jt hBa
          go_wp2_with fail
          go_meet
          exact ⟨hfin, trivial⟩
        · have hzb : (z2 == 0) = false := by rw [beq_eq_false_iff_ne]; exact hz0
          go_wp2
          go_meet
          exact ⟨hB7.out, trivial⟩
      case rest =>
       as_aux_lemma =>
        obtain ⟨hbd2, _⟩ := hcut
        clear V7' VD7 hB7 hz2 hT hnT
        obtain ⟨y0, hy0⟩ : ∃ y0, y0 = wc := ⟨_, rfl⟩
        rw [← hy0] at hbd2 ⊢
        clear hy0
        have hs1 := hbd2.size
        go_wp2_with fail
        refine (DrawBranchOfSequence_any w.heap.size _ n0 _ (Hy.out.below hbd2) hs1).mono ?_
        rintro e y1 ⟨v29, ls, rfl, I1, hb1⟩
        have B1 := Lib.hid (hbd2.trans (hb1.mono hs1))
        have K1 := Lib.hid I1
        obtain ⟨A1', n1', c1', e1, _, _, _⟩ := I1
        subst e1
        clear hb1 hbd2
        obtain ⟨q1, hq1⟩ : ∃ q1, Hid ((bosB ls).2 = q1) := ⟨_, Lib.hid rfl⟩
        obtain ⟨L1, hL1⟩ : ∃ L1, Hid ((bosB ls).1 = L1) := ⟨_, Lib.hid rfl⟩
        obtain ⟨m1, hm1⟩ : ∃ m1, Hid (L1.length = m1) := ⟨_, Lib.hid rfl⟩
        obtain ⟨bq, hbq⟩ : ∃ bq, Hid (isqB ls = bq) := ⟨_, Lib.hid rfl⟩
        have Hbq := Lib.hid (show bq = (q1 == 0) by rw [← hbq.out, ← hq1.out]; exact bos_isq ls)
        go_wp2_with fail
        refine (BranchOfSequence_any _ _ ls _ K1.out (Nat.le_refl _)).mono ?_
        rintro e y2 ⟨v30, rfl, o2, hb2⟩
        rw [hq1.out]
        rw [hL1.out] at o2
        have k2 := Lib.hid o2.is
        obtain ⟨A2', c2', e2, _, _⟩ := o2.shape
        subst e2
        rw [hm1.out] at k2 ⊢
        have B2 := Lib.hid (B1.out.trans (hb2.mono B1.out.size))
        have K2 := Lib.hid ((K1.out.below hb2).more hb2.size)
        have ha := al_below y2 (.cells #[.slice A2' m1 c2'] 26)
        have VX := Lib.hid (Vr.new k2.out 26)
        have K3 := Lib.hid ((K2.out.below ha).more ha.size)
        have B3 := Lib.hid (B2.out.trans (ha.mono B2.out.size))
        clear ha B1 B2 K1 K2 k2 o2 hb2
        go_upto_region 41 with fail
        obtain ⟨y3, hy3⟩ : ∃ y3, y3 = y2.alloc (.cells #[.slice A2' m1 c2'] 26) := ⟨_, rfl⟩
        rw [← hy3] at VX K3 B3 ⊢
        clear hy3
        go_wp2_with fail
        refine (sBranchOfSequence_any _ _ ls _ K3.out (Nat.le_refl _)).mono ?_
        rintro e y4 ⟨v32, rfl, o4, hb4⟩
        rw [hq1.out]
        rw [hL1.out] at o4
        have k4 := Lib.hid o4.is
        obtain ⟨A4', c4', e4, _, _⟩ := o4.shape
        subst e4
        rw [hm1.out] at k4 ⊢
        have B4 := Lib.hid (B3.out.trans (hb4.mono B3.out.size))
        have K4 := Lib.hid ((K3.out.below hb4).more hb4.size)
        have VX4 := Lib.hid (VX.out.later hb4)
        have ha := al_below y4 (.cells #[.slice A4' m1 c4'] 26)
        have VY := Lib.hid (Vr.new k4.out 26)
        have VX5 := Lib.hid (VX4.out.later ha)
        have K5 := Lib.hid ((K4.out.below ha).more ha.size)
        have B5' := Lib.hid (B4.out.trans (ha.mono B4.out.size))
        clear ha B3 B4 K3 K4 VX VX4 k4 o4 hb4
        go_upto_region 42 with fail
        obtain ⟨y5, hy5⟩ : ∃ y5, y5 = y4.alloc (.cells #[.slice A4' m1 c4'] 26) := ⟨_, rfl⟩
        rw [← hy5] at VX5 VY K5 B5' ⊢
        clear hy5
        have t7 : (q1 == q1) = true := by simp
        have t8 : (bq == bq) = true := by simp
        have g1 := VX5.out.z.1
        have g2 := VY.out.z.1
        go_wp2_with fail
        refine (likeInts_any _ _ _ _ L1 L1 _ VX5.out.i VY.out.i (Nat.le_refl _) (Nat.le_refl _)).mono ?_
        rintro e y6 ⟨rfl, hb6⟩
        rw [show (L1 == L1) = true by simp]
        have K6 := Lib.hid ((K5.out.below hb6).more hb6.size)
        have B6 := Lib.hid (B5'.out.trans (hb6.mono B5'.out.size))
        clear hb6 VX5 VY K5 B5' g1 g2
        go_wp2_with fail
        refine (IsSequence_any _ _ ls _ K6.out (Nat.le_refl _)).mono ?_
        rintro e y7 ⟨rfl, hb7⟩
        rw [hbq.out]
        have K7 := Lib.hid ((K6.out.below hb7).more hb7.size)
        have B7 := Lib.hid (B6.out.trans (hb7.mono B6.out.size))
        clear hb7 K6 B6
        go_wp2_with fail
        refine (sIsSequence_any _ _ ls _ K7.out (Nat.le_refl _)).mono ?_
        rintro e y8 ⟨rfl, hb8⟩
        rw [hbq.out]
        have K8 := Lib.hid ((K7.out.below hb8).more hb8.size)
        have B8 := Lib.hid (B7.out.trans (hb8.mono B7.out.size))
        clear hb8 K7 B7
        go_wp2_with fail
        refine (IsSequence_any _ _ ls _ K8.out (Nat.le_refl _)).mono ?_
        rintro e y9 ⟨rfl, hb9⟩
        rw [hbq.out]
        have hfin := B8.out.trans (hb9.mono B8.out.size)
        have t9 : (bq == (q1 == 0)) = true := by rw [Hbq.out]; simp
        clear hb9 K8 B8
        go_wp2
        go_ret
        exact ⟨rfl, hfin⟩
end Go.Proofs.Ytcnoaclijhcckaa.fnSequences
