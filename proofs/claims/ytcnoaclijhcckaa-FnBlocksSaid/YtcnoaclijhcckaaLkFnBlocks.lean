/-
  The law FnBlocks returns true for every code.
  THE WALK THROUGH 'laws.FnBlocks', out of the contracts of what it calls.
-/
import Derived.Test.YtcnoaclijhcckaaWlkF8
import Derived.Test.YtcnoaclijhcckaaWlkL8
import Derived.Test.YtcnoaclijhcckaaWlkL9
import Derived.Test.YtcnoaclijhcckaaWlkD8
import Derived.Test.YtcnoaclijhcckaaPlU
import Derived.Deep.CutRange
namespace Go.Proofs.Ytcnoaclijhcckaa.fnBlocks
open Go.RowKit
set_option linter.unusedVariables false
open Pl K WA WL WC WD WF
theorem dlt_tdiv {v : Int} (h1 : 1 ≤ v) : (v * (v - 1)).tdiv 2 = dlt v := by
  unfold dlt
  exact Int.tdiv_eq_ediv_of_nonneg (Int.mul_nonneg (by omega) (by omega))
set_option maxRecDepth 16384 in
set_option maxHeartbeats 12800000 in
theorem walk (w : World) (v0 : Value) (n0 : Nat) (is0 : IsY w w.heap.size v0 n0) :
    Calls Try.prog 3 #[v0] w fun e w' => e = .returned (.bool true) ∧ Below w.heap.size w w' := by
  have Hy := Lib.hid is0
  have hshape := is0
  obtain ⟨A0, c0, hv0, _, _, _⟩ := hshape
  subst hv0
  by_cases hbig : 4096 < n0
  · have hbd : decide (4096 < n0) = true := by simp [hbig]
    go_enter Try.func3, Try.ntmps3
    go_wp2_with fail
    refine (big_any _ _ n0 _ Hy.out).mono ?_
    rintro e w' ⟨rfl, rfl⟩
    rw [hbd]
    go_wp2
    go_ret
    exact ⟨rfl, Below.refl _ _⟩
  · have hbd : decide (4096 < n0) = false := by simp [hbig]
    clear hbig is0
    go_enter Try.func3, Try.ntmps3
    go_wp2_with fail
    refine (big_any _ _ n0 _ Hy.out).mono ?_
    rintro e w' ⟨rfl, rfl⟩
    rw [hbd]
    go_wp2_with fail
    refine (DrawBlocksOf_any _ _ n0 _ Hy.out (Nat.le_refl _)).mono ?_
    rintro e w1 ⟨v1, xs, rfl, i1, hb1⟩
    have hz1 := hb1.size
    obtain ⟨A, n, c, rfl, hnc, hcm, hrd⟩ := i1
    have Hn := Lib.hid hrd.len
    have V2 := Lib.hid (Vr.new (show Is w1 w1.heap.size (.slice A n c) xs from ⟨A, n, c, rfl, hnc, hcm, hrd⟩) 26)
    have hb2 := Lib.hid (hb1.trans ((al_below w1 (.cells #[.slice A n c] 26)).mono hz1))
    unfold maxLen at hcm
    clear hrd hb1
    go_upto_region 4 with fail
    obtain ⟨w2, hw2⟩ : ∃ w2, w2 = w1.alloc (.cells #[.slice A n c] 26) := ⟨_, rfl⟩
    rw [← hw2] at V2 hb2 ⊢
    clear hw2
    have g2 := V2.out.z.1
    obtain ⟨z, hz⟩ : ∃ z, Hid ((blkB xs).2 = z) := ⟨_, Lib.hid rfl⟩
    obtain ⟨P, hP⟩ : ∃ P, Hid ((blkB xs).1 = P) := ⟨_, Lib.hid rfl⟩
    obtain ⟨m, Hm⟩ : ∃ m, Hid (P.length = m) := ⟨_, Lib.hid rfl⟩
    obtain ⟨d, hd⟩ : ∃ d, Hid ((delB xs).1 = d) := ⟨_, Lib.hid rfl⟩
    obtain ⟨dc, hdc⟩ : ∃ dc, Hid ((delB xs).2 = dc) := ⟨_, Lib.hid rfl⟩
    obtain ⟨u, hu⟩ : ∃ u, Hid ((bluB xs).1 = u) := ⟨_, Lib.hid rfl⟩
    obtain ⟨uc, huc⟩ : ∃ uc, Hid ((bluB xs).2 = uc) := ⟨_, Lib.hid rfl⟩
    go_wp2_with fail
    refine (BlocksOf_any _ _ xs _ V2.out.i (Nat.le_refl _)).mono ?_
    rintro e w3 ⟨v3, rfl, o3, hb3⟩
    rw [hz.out]
    rw [hP.out] at o3
    have R3 := Lib.hid o3.is
    obtain ⟨us3, U3⟩ := o3
    obtain ⟨A3, c3, e3, hnc3, hcm3⟩ := own_shape U3.row
    subst e3
    have V3 := Lib.hid (V2.out.later hb3)
    have B3 := Lib.hid (hb2.out.trans (hb3.mono hb2.out.size))
    have g3 := V3.out.z.1
    rw [Hm.out] at R3 hnc3 ⊢
    clear hb3 U3 V2 hb2 g2
    go_wp2_with fail
    refine (sBlocksOf_any _ _ xs _ V3.out.i (Nat.le_refl _)).mono ?_
    rintro e w4 ⟨v4, rfl, o4, hb4⟩
    rw [hz.out]
    rw [hP.out] at o4
    have R4 := Lib.hid o4.is
    obtain ⟨us4, U4⟩ := o4
    obtain ⟨A4, c4, e4, hnc4, hcm4⟩ := own_shape U4.row
    subst e4
    have V4 := Lib.hid (V3.out.later hb4)
    have B4 := Lib.hid (B3.out.trans (hb4.mono B3.out.size))
    have Q4 := Lib.hid (R3.out.below hb4)
    have z4 := hb4.size
    have g4 := V4.out.z.1
    rw [Hm.out] at R4 hnc4 ⊢
    clear hb4 U4 V3 B3 R3 g3
    go_wp2_with fail
    refine (DeltaInvariant_any _ _ xs _ V4.out.i (Nat.le_refl _)).mono ?_
    rintro e w5 ⟨rfl, hb5⟩
    rw [hd.out, hdc.out]
    have V5 := Lib.hid (V4.out.later hb5)
    have g5 := V5.out.z.1
    go_wp2_with fail
    refine (sDeltaInvariant_any _ _ xs _ V5.out.i (Nat.le_refl _)).mono ?_
    rintro e w6 ⟨rfl, hb6⟩
    rw [hd.out, hdc.out]
    have h46 := hb5.trans (hb6.mono hb5.size)
    have V6 := Lib.hid (V4.out.later h46)
    have g6 := V6.out.z.1
    clear V5 g5 hb5 hb6
    go_wp2_with fail
    refine (CountBlowUps_any _ _ xs _ V6.out.i (Nat.le_refl _)).mono ?_
    rintro e w7 ⟨rfl, hb7⟩
    rw [hu.out, huc.out]
    have h47 := h46.trans (hb7.mono h46.size)
    have V7 := Lib.hid (V4.out.later h47)
    have g7 := V7.out.z.1
    clear V6 g6 h46 hb7
    go_wp2_with fail
    refine (sCountBlowUps_any _ _ xs _ V7.out.i (Nat.le_refl _)).mono ?_
    rintro e w8 ⟨rfl, hb8⟩
    rw [hu.out, huc.out]
    have h48 := h47.trans (hb8.mono h47.size)
    have V8 := Lib.hid (V4.out.later h48)
    have B8 := Lib.hid (B4.out.trans (h48.mono B4.out.size))
    have Q8 := Lib.hid (Q4.out.below (h48.mono z4))
    have R8 := Lib.hid (R4.out.below h48)
    have z8 := h48.size
    have g8 := V8.out.z.1
    clear V7 g7 h47 hb8 V4 B4 Q4 R4 h48 g4
    have t1 : (z != z) = false := by simp
    have t2 : (dc != dc) = false := by simp
    have t3 : (d != d) = false := by simp
    have t4 : (uc != uc) = false := by simp
    have t5 : (u != u) = false := by simp
    go_wp2_with fail
    refine (likeRows5_any _ _ _ _ P P _ Q8.out R8.out (by omega) (by omega)).mono ?_
    rintro e w9 ⟨rfl, hb9⟩
    rw [show (P == P) = true by simp]
    have V9 := Lib.hid (V8.out.later hb9)
    have B9 := Lib.hid (B8.out.trans (hb9.mono B8.out.size))
    have Q9 := Lib.hid (Q8.out.below (hb9.mono (by omega)))
    have z9 := hb9.size
    have g9 := V9.out.z.1
    clear hb9 V8 B8 Q8 R8 g8
    by_cases hz0 : z = 0
    · have hzb : (z != 0) = false := by simp [hz0]
      have hlc : lngC xs 0 = 0 := by
        have h1 := hz.out
        unfold blkB at h1
        split at h1
        · rename_i h; exact h
        · rename_i h; rw [hz0] at h1; exact absurd h1 h
      have hbr : isBr xs = true := by
        unfold lngC at hlc
        split at hlc
        · rename_i h; exact h
        · cases hlc
      have hl400 : (seqB xs).length ≤ 400 := by
        have h1 := hlc
        unfold lngC at h1
        rw [if_pos hbr, if_pos (by decide)] at h1
        split at h1
        · cases h1
        · rename_i h; omega
      have hlB : lngB xs 0 = (seqB xs, 0) := by unfold lngB; rw [if_pos hlc]; simp [ones]
      have HP := Lib.hid (show P = blkL (seqB xs) (seqB xs).length by rw [← hP.out]; unfold blkB; rw [if_pos hlc, hlB])
      have HlB := Lib.hid hlB
      have Hbr := Lib.hid hbr
      obtain ⟨Y, HY⟩ : ∃ Y, Hid (seqB xs = Y) := ⟨_, Lib.hid rfl⟩
      have Hd := Lib.hid (show d = sumW dlt Y by rw [← hd.out, ← HY.out]; unfold delB; rw [if_pos hbr])
      have Hu := Lib.hid (show u = sumW big1 Y by rw [← hu.out, ← HY.out]; unfold bluB; rw [if_pos hbr])
      have hdc0 : dc = 0 := by rw [← hdc.out]; unfold delB; rw [if_pos hbr]
      have HE := Lib.hid (show ex P = Y by rw [HP.out, ← HY.out]; exact blk_seq hbr)
      have HR := Lib.hid (show ∀ s ∈ P, ∃ v c : Int, s = [v, c] ∧ 1 ≤ v ∧ 1 ≤ c by rw [HP.out]; exact blk_rows hbr)
      have HYb := Lib.hid (show ∀ x ∈ Y, 1 ≤ x ∧ x ≤ 64 by rw [← HY.out]; exact seqB_bd hbr)
      rw [HY.out] at hl400
      have HS1 := Lib.hid (fun i => sumW_bd400 (f := dlt) (m := 2016) (by omega) (fun x hx => dlt_bd (HYb.out x hx).1 (HYb.out x hx).2) hl400 i)
      have HS2 := Lib.hid (fun i => sumW_bd400 (f := big1) (m := 1) (by omega) (fun x hx => by unfold big1; split <;> omega) hl400 i)
      have hdb : 0 ≤ d ∧ d ≤ 806400 := by
        have := HS1.out Y.length
        rw [List.take_length] at this
        rw [Hd.out]; omega
      subst hdc0
      clear hz0 hz hP hd hdc hu huc t1 t2 t3 t4 t5 hlc hbr hlB
      go_wp2_with fail
      refine (SequenceOf_any _ _ xs _ V9.out.i (Nat.le_refl _)).mono ?_
      rintro e w10 ⟨v10, rfl, o10, hb10⟩
      rw [show (lngB xs 0).2 = 0 by rw [HlB.out]]
      rw [show (lngB xs 0).1 = Y by rw [HlB.out]; exact HY.out] at o10
      obtain ⟨A10, n10, c10, e10, hnc10, hcm10, hrd10⟩ := o10.is
      have Hn10 := Lib.hid hrd10.len
      subst e10
      have V10 := Lib.hid (V9.out.later hb10)
      have B10 := Lib.hid (B9.out.trans (hb10.mono B9.out.size))
      have Q10 := Lib.hid (Q9.out.below (hb10.mono (by omega)))
      have z10 := hb10.size
      have g10 := V10.out.z.1
      have I10 := Lib.hid hrd10
      clear hb10 V9 B9 Q9 g9 o10 hrd10
      go_wp2_with fail
      refine (MilnorOfBranch_any _ _ xs _ V10.out.i (Nat.le_refl _)).mono ?_
      rintro e w11 ⟨rfl, hb11⟩
      rw [show (milB xs).2 = 0 by unfold milB delB; rw [if_pos Hbr.out], show (milB xs).1 = 2 * d by unfold milB delB; rw [if_pos Hbr.out, Hd.out, HY.out]]
      have B11 := Lib.hid (B10.out.trans (hb11.mono B10.out.size))
      have Q11 := Lib.hid (Q10.out.below (hb11.mono (by omega)))
      have I11 := Lib.hid (I10.out.below hb11)
      have z11 := hb11.size
      have t6 : (2 * d != 2 * d) = false := by simp
      clear hb11 V10 B10 Q10 I10 g10
      rw [Hn10.out] at hl400
      have hn1 : 1 ≤ n10 := by rw [← Hn10.out, ← HY.out]; exact (seqB_len Hbr.out).1
      obtain ⟨a10, hA10, hab10, hcl10⟩ := I11.out.pos hn1
      subst hA10
      have HC10 := Lib.hid hcl10
      obtain ⟨us, hU⟩ := Q11.out
      obtain ⟨A9, c9, e9, _, _, hcl⟩ := hU.sh
      rw [Hm.out] at e9 hcl
      cases e9
      have HUe := Lib.hid hU.each
      have HUc := Lib.hid hcl
      have Hcn := Lib.hid (show cn P m = n10 by rw [← Hm.out, cn_all, HE.out]; exact Hn10.out)
      have hcnle : ∀ i, i < m → ∀ j, j < (gx (gxx P i) 1).toNat → cn P i + j < n10 ∧ gx Y (cn P i + j) = gx (gxx P i) 0 := fun i hi j hj => by
        have := ex_at P i j (by rw [Hm.out]; exact hi) hj
        rwa [HE.out, Hn10.out] at this
      have HcnA := Lib.hid hcnle
      have HcnS := Lib.hid (fun i (hi : i < m) => cn_succ P i (by rw [Hm.out]; exact hi))
      unfold maxLen at hcm10
      clear I11 hcl10 hcl hU hcnle
      go_upto_region 18 with fail
      clear t6
      go_wp2_with fail
      go_loopw [20, 21, 22, 23, 24] (fun s20 s21 s22 s23 _ wr => ∃ i : Nat, i ≤ m ∧ s23 = .int .i64 (i : Int) ∧ s22 = .int .i64 ((cn P i : Nat) : Int) ∧ s20 = .int .i64 (sumW dlt (Y.take (cn P i))) ∧ s21 = .int .i64 (sumW big1 (Y.take (cn P i))) ∧ Below w11.heap.size w11 wr) (fun _ _ _ s23 _ _ => m - (intOf s23).toNat)
      case atStart => exact ⟨0, Nat.zero_le _, rfl, by rw [cn_zero]; rfl, by rw [cn_zero]; simp [sumW], by rw [cn_zero]; simp [sumW], Below.refl _ _⟩
      case round =>
       as_aux_lemma =>
        obtain ⟨i, hi, rfl, rfl, rfl, rfl, hbe⟩ := hrel
        have hzr := hbe.size
        by_cases hlt : i < m
        · obtain ⟨a3, hA3, hab3, hcl3⟩ := HUc.out (by omega)
          subst hA3
          obtain ⟨v, cc, hrow, hv1, hc1⟩ := HR.out (gxx P i) (gxx_mem P i (by rw [Hm.out]; exact hlt))
          have hei := HUe.out i (by rw [Hm.out]; exact hlt)
          rw [hrow] at hei
          obtain ⟨Ai, ni, ci, eui, hnci, hcmi, hrdi⟩ := hei
          obtain rfl : ni = 2 := by have := hrdi.len; simpa using this.symm
          obtain ⟨ai, hAi, habi, hcli⟩ := hrdi.pos (by omega)
          subst hAi
          obtain ⟨cn1, rfl⟩ := Int.eq_ofNat_of_zero_le (show 0 ≤ cc by omega)
          have hux := (hcl3 i hlt).trans (by rw [eui])
          have q0 : wr.cell? (a3.add i) = some (.slice (some ai) 2 ci) := (hbe.cell (by rw [block_of_add]; omega)).trans hux
          have q1 : wr.cell? ⟨ai.block, ai.off + 1, none⟩ = some (.int .i64 (cn1 : Int)) := (hbe.cell (p := ⟨ai.block, ai.off + 1, none⟩) (by show ai.block < _; omega)).trans (by have := hcli 1 (by omega); rw [gx_two1] at this; simpa [Addr.add] using this)
          have Hci0 := Lib.hid (show w11.cell? ai = some (.int .i64 v) by have := hcli 0 (by omega); rw [gx_two0] at this; simpa [Addr.add] using this)
          have HA := Lib.hid (show ∀ j, j < cn1 → cn P i + j < n10 ∧ gx Y (cn P i + j) = v from fun j hj => by
            have := HcnA.out i hlt j (by rw [hrow, gx_two1]; simpa using hj)
            rwa [hrow, gx_two0] at this)
          have HS := Lib.hid (show cn P (i + 1) = cn P i + cn1 by rw [HcnS.out i hlt, hrow, gx_two1]; simp)
          have hv64 : v ≤ 64 := by
            have h0 := HA.out 0 (by omega)
            rw [← h0.2]
            exact (HYb.out _ (gx_mem Y _ (by rw [Hn10.out]; exact h0.1))).2
          have hidx : 0 ≤ (i : Int) ∧ (i : Int) < (m : Int) := by omega
          have h22 : ((2 : Int) != 2) = false := rfl
          have Hux := Lib.hid hux
          unfold maxLen at hcmi
          obtain ⟨t0, ht0⟩ : ∃ t0, t0 = cn P i := ⟨_, rfl⟩
          rw [← ht0] at HA HS ⊢
          have hcn9 : cn1 ≤ 400 := by
            rcases Nat.eq_zero_or_pos cn1 with h | h
            · omega
            · have := (HA.out (cn1 - 1) (by omega)).1; omega
          clear hrow hrdi hcli hcl3 eui ht0
          go_wp2_with fail
          go_loopw [20, 21, 22, 24] (fun s20 s21 s22 s24 wq => ∃ j : Nat, j ≤ cn1 ∧ s24 = .int .i64 ((cn1 : Int) - (j : Int)) ∧ s22 = .int .i64 ((t0 + j : Nat) : Int) ∧ s20 = .int .i64 (sumW dlt (Y.take (t0 + j))) ∧ s21 = .int .i64 (sumW big1 (Y.take (t0 + j))) ∧ Below w11.heap.size w11 wq) (fun _ _ _ s24 _ => (intOf s24).toNat)
          case atStart => exact ⟨0, Nat.zero_le _, by simp, by simp, by simp, by simp, hbe⟩
          case round =>
           as_aux_lemma =>
            clear q0 q1 hbe
            obtain ⟨j, hj, rfl, rfl, rfl, rfl, hbq⟩ := hrel
            have hzq := hbq.size
            by_cases hjl : j < cn1
            · have hpos : (0 : Int) < (cn1 : Int) - (j : Int) := by omega
              obtain ⟨ha1, ha2⟩ := HA.out j hjl
              obtain ⟨t, ht⟩ : ∃ t, Hid (t0 + j = t) := ⟨_, Lib.hid rfl⟩
              have ha3 : t0 + j = t := ht.out
              rw [ha3] at ha1 ha2 ⊢
              clear ha3
              have hT1 := Lib.hid (Pl.sumW_take dlt Y t (by rw [Hn10.out]; exact ha1))
              have hT2 := Lib.hid (Pl.sumW_take big1 Y t (by rw [Hn10.out]; exact ha1))
              rw [ha2] at hT1 hT2
              obtain ⟨S, hS⟩ : ∃ S, Hid (sumW dlt (Y.take t) = S) := ⟨_, Lib.hid rfl⟩
              obtain ⟨K, hK⟩ : ∃ K, Hid (sumW big1 (Y.take t) = K) := ⟨_, Lib.hid rfl⟩
              have hSb := HS1.out t
              have hKb := HS2.out t
              rw [hS.out] at hT1 hSb ⊢
              rw [hK.out] at hT2 hKb ⊢
              have hdv := dlt_bd hv1 hv64
              have r0 : wr.cell? (a3.add i) = some (.slice (some ai) 2 ci) := (hbq.cell (by rw [block_of_add]; omega)).trans Hux.out
              have r1 : wr.cell? ai = some (.int .i64 v) := (hbq.cell (by omega)).trans Hci0.out
              have r2 : wr.cell? (a10.add t) = some (.int .i64 v) := (hbq.cell (by rw [block_of_add]; omega)).trans (by rw [HC10.out t ha1, ha2])
              have hti : 0 ≤ (t : Int) ∧ (t : Int) < (n10 : Int) := by omega
              have hge : ¬ ((n10 : Int) ≤ (t : Int)) := by omega
              have hvv : (v != v) = false := by simp
              have hvm : 0 ≤ v * (v - 1) ∧ v * (v - 1) ≤ 4032 := ⟨Int.mul_nonneg (by omega) (by omega), by have := Int.mul_le_mul hv64 (show v - 1 ≤ 63 by omega) (by omega) (by omega); omega⟩
              have hq := dlt_tdiv hv1
              have hw1 : IntKind.i64.wrap (v - 1) = v - 1 := IntWalk.i64_in _ (by omega)
              have hw2 : IntKind.i64.wrap (v * (v - 1)) = v * (v - 1) := IntWalk.i64_in _ (by omega)
              have hw3 : IntKind.i64.wrap (dlt v) = dlt v := IntWalk.i64_in _ (by omega)
              have hw4 : IntKind.i64.wrap (S + dlt v) = S + dlt v := IntWalk.i64_in _ (by omega)
              have hmn : ¬ (v - 1 < -9223372036854775808) := by omega
              clear ha2 hvm
              go_wp2_with fail
              go_quiet (fail)
              obtain ⟨wd, hwd⟩ : ∃ wd, wd = wr.drewN nq := ⟨_, rfl⟩
              rw [← hwd]
              have r1 : wd.cell? ai = some (.int .i64 v) := by rw [hwd]; exact r1
              have r2 : wd.cell? (a10.add t) = some (.int .i64 v) := by rw [hwd]; exact r2
              have hbd2 : Below w11.heap.size w11 wd := by rw [hwd]; exact below_drewN hbq nq
              clear hwd r0 hbq hzq
              go_wp2_with fail
              go_quiet (fail)
              obtain ⟨we, hwe⟩ : ∃ we, we = wd.drewN nq := ⟨_, rfl⟩
              rw [← hwe]
              have r2 : we.cell? (a10.add t) = some (.int .i64 v) := by rw [hwe]; exact r2
              have hbe2 : Below w11.heap.size w11 we := by rw [hwe]; exact below_drewN hbd2 nq
              clear hwe hbd2 hw1 hw2 hq hw3
              have hjs : (cn1 : Int) - (j : Int) - 1 = (cn1 : Int) - ((j + 1 : Nat) : Int) := by omega
              have htj := Lib.hid (show t0 + (j + 1) = t + 1 by have := ht.out; omega)
              by_cases hv2 : 1 < v
              · have hb1 : big1 v = 1 := by unfold big1; rw [if_pos hv2]
                rw [hb1] at hT2
                clear hb1
                go_wp2
                go_roundw
                case rel => exact ⟨j + 1, by omega, by go_num, by rw [htj.out]; go_num, by rw [htj.out, hT1.out], by rw [htj.out, hT2.out], hbe2⟩
                case measure => first | (simp [intOf]; done) | (simp [intOf]; omega)
              · have hb1 : big1 v = 0 := by unfold big1; rw [if_neg hv2]
                rw [hb1] at hT2
                clear hb1
                go_wp2
                go_roundw
                case rel => exact ⟨j + 1, by omega, by go_num, by rw [htj.out]; go_num, by rw [htj.out, hT1.out], by rw [htj.out, hT2.out, Int.add_zero], hbe2⟩
                case measure => first | (simp [intOf]; done) | (simp [intOf]; omega)
            · obtain rfl : cn1 = j := by omega
              have hpos : ¬ (0 : Int) < (cn1 : Int) - (cn1 : Int) := by omega
              rw [← HS.out]
              go_wp2
              go_roundw
              case rel => exact ⟨i + 1, by omega, by go_num, rfl, rfl, rfl, hbq⟩
              case measure => first | (simp [intOf]; done) | (simp [intOf]; omega)
        · obtain rfl : m = i := by omega
          have Bf := Lib.hid (B11.out.trans (hbe.mono B11.out.size))
          rw [Hcn.out]
          have e1 : Y.take n10 = Y := by rw [← Hn10.out]; exact List.take_length
          rw [e1, ← Hd.out, ← Hu.out]
          have s1 : ((n10 : Int) == (n10 : Int)) = true := by simp
          have s2 : (d == d) = true := by simp
          have s3 : (u == u) = true := by simp
          clear hbe e1
          go_wp2
          go_ret
          exact ⟨rfl, Bf.out⟩
    · have hzb : (z != 0) = true := by simpa using hz0
      go_wp2
      go_ret
      exact ⟨rfl, B9.out⟩
end Go.Proofs.Ytcnoaclijhcckaa.fnBlocks
