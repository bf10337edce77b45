/-
  The law FnCyclotomics returns true for every code.
  THE WALK THROUGH 'laws.FnCyclotomics', out of the contracts of what it calls.
-/
import Derived.Test.YtogkblncdpbhnaaWlkQA
import Derived.Test.YtogkblncdpbhnaaWlkYB
import Derived.Test.YtogkblncdpbhnaaWlkYC
import Derived.Test.YtogkblncdpbhnaaWlkY4
import Derived.Test.YtogkblncdpbhnaaWlkGA
import Derived.Test.YtogkblncdpbhnaaWlkL8
import Derived.Test.YtogkblncdpbhnaaWlkL3
import Derived.Test.YtogkblncdpbhnaaWlkB4
import Derived.Test.YtogkblncdpbhnaaWlkBC
import Derived.Test.YtogkblncdpbhnaaPlCA
import Derived.Deep.CutRange
namespace Go.Proofs.Ytogkblncdpbhnaa.fnCyclotomics
open Go.RowKit
set_option linter.unusedVariables false
open Pl K WA WB WL WY WF
theorem big_any (B : Nat) (v : Value) (n : Nat) (w : World) (h : IsY w B v n) : Calls Try.prog 4 #[v] w fun e w' => e = .returned (.bool (decide (4096 < n))) ∧ w = w' := by
  obtain ⟨A, c, rfl, hnc, hcm, hrd⟩ := h
  unfold maxLen at hcm
  clear hrd
  by_cases h : 4096 < n
  · have h' : (4096 : Int) < (n : Int) := by omega
    go_enter Try.func4, Try.ntmps4
    go_wp2
    go_ret
    exact ⟨ret_b (by simp [h]), rfl⟩
  · have h' : ¬ (4096 : Int) < (n : Int) := by omega
    go_enter Try.func4, Try.ntmps4
    go_wp2
    go_ret
    exact ⟨ret_b (by first | (simp; done) | simp [h]), rfl⟩
/-- What factors say. -/
theorem cfa_ok {p : List Int} {L : List (List Int)} (h : cfaF p = (L, 0)) : ∃ (rows : List (Nat × Nat)) (R : List Int), L = rowsF rows ∧ isPoly p = true ∧ (∀ j, md (gx p j) (ap rows (gx R) j)) ∧ R.length = 1 ∧ (gx R 0 = 1 ∨ gx R 0 = -1) ∧ ∀ x ∈ rows, (1 ≤ x.1 ∧ x.1 ≤ 2000) ∧ 1 ≤ x.2 ∧ x.2 ≤ 50 := by
  unfold cfaF at h
  split at h
  · simp at h
  · rename_i hp
    split at h
    · simp at h
    · rename_i hl
      unfold cfaE at h
      split at h
      · rename_i hr
        simp only [Prod.mk.injEq, and_true] at h
        have hp1 : 1 ≤ p.length := by
          rcases Nat.eq_zero_or_pos p.length with h0 | h0
          · have e : cfR 1000 1 p [] = (p, []) := cfR_stop (by omega)
            rw [e] at hr
            have h9 : p.length = 1 := hr.1
            omega
          · exact h0
        obtain ⟨new, e1, e2, e3⟩ := cfR_md 1000 1 p [] (Nat.le_refl _) (by omega) hp1 (by omega)
        rw [List.nil_append] at e1
        refine ⟨new, (cfR 1000 1 p []).1, by rw [← h, e1], by simpa using hp, e2, hr.1, hr.2, e3⟩
      · simp at h
theorem rows_at (rows : List (Nat × Nat)) (k : Nat) (h : k < rows.length) : gxx (rowsF rows) k = [((rows[k]).1 : Int), ((rows[k]).2 : Int)] := by
  rw [gxx_eq _ _ (by rw [rowsF_len]; exact h)]
  simp [rowsF]
theorem cycF_nat (n : Nat) (h1 : 1 ≤ n) (h2 : n ≤ 2000) : cycF (n : Int) = (phi n, 0) := by
  unfold cycF
  rw [inR_true.2 (by omega)]
  simp
theorem take_rows (rows : List (Nat × Nat)) (k : Nat) (h : k < rows.length) : rows.take (k + 1) = rows.take k ++ [((rows[k]).1, (rows[k]).2)] := by
  rw [List.take_succ_eq_append_getElem h]
theorem one_is (j : Nat) : gx [1] j = one j := by
  unfold one
  by_cases h : j = 0
  · subst h; rfl
  · rw [if_neg h, gx_out [1] j (by simp; omega)]
theorem lit_rows (w : World) (a b : Int) : IsR ((w.alloc (.cells #[.int .i64 a, .int .i64 b] 2)).alloc (.cells #[.slice (some ⟨w.heap.size, 0, none⟩) 2 2] 24)) ((w.alloc (.cells #[.int .i64 a, .int .i64 b] 2)).alloc (.cells #[.slice (some ⟨w.heap.size, 0, none⟩) 2 2] 24)).heap.size (.slice (some ⟨w.heap.size + 1, 0, none⟩) 1 1) [[a, b]] := by
  have hu := (WA.ow_lit2 w a b (.cells #[.slice (some ⟨w.heap.size, 0, none⟩) 2 2] 24)).is
  refine ⟨[.slice (some ⟨w.heap.size, 0, none⟩) 2 2], rfl, ⟨_, 1, rfl, Nat.le_refl _, by unfold maxLen; omega, fun _ => ⟨_, rfl, by simp, fun j hj => ?_⟩⟩, fun i hi => ?_⟩
  · obtain rfl : j = 0 := by simpa using hj
    simp [Addr.add, ux]
  · obtain rfl : i = 0 := by simpa using hi
    exact hu
set_option maxRecDepth 16384 in
set_option maxHeartbeats 25600000 in
theorem walk (w : World) (v0 : Value) (n0 : Nat) (is0 : IsY w w.heap.size v0 n0) :
    Calls Try.prog 3 #[v0] w fun e w' => e = .returned (.bool true) ∧ Below w.heap.size w w' := by
  have Hy := Lib.hid is0
  have hshape := is0
  obtain ⟨A0, c0, hv0, _, _, _⟩ := hshape
  subst hv0
  by_cases hbig : 4096 < n0
  · have hbd : decide (4096 < n0) = true := by simp [hbig]
    go_enter Try.func3, Try.ntmps3
    go_wp2_with fail
    refine (big_any _ _ n0 _ Hy.out).mono ?_
    rintro e w' ⟨rfl, rfl⟩
    rw [hbd]
    go_wp2
    go_ret
    exact ⟨rfl, Below.refl _ _⟩
  · have hbd : decide (4096 < n0) = false := by simp [hbig]
    clear hbig is0
    go_enter Try.func3, Try.ntmps3
    go_wp2_with fail
    refine (big_any _ _ n0 _ Hy.out).mono ?_
    rintro e w' ⟨rfl, rfl⟩
    rw [hbd]
    go_wp2_with fail
    refine (DrawCyclotomicFactors_any _ _ n0 _ Hy.out (Nat.le_refl _)).mono ?_
    rintro e w1 ⟨v3, p, rfl, i3, hb⟩
    obtain ⟨A3, n3, c3, e3, hnc3, hcm3, _⟩ := id i3
    subst e3
    have I1 := Lib.hid i3
    have B1 := Lib.hid hb
    clear hb i3
    obtain ⟨z, hz⟩ : ∃ z, Hid ((cfaF p).2 = z) := ⟨_, Lib.hid rfl⟩
    obtain ⟨L, hL⟩ : ∃ L, Hid ((cfaF p).1 = L) := ⟨_, Lib.hid rfl⟩
    obtain ⟨N, HN⟩ : ∃ N, Hid (L.length = N) := ⟨_, Lib.hid rfl⟩
    go_wp2_with fail
    refine (CyclotomicFactors_any _ _ p _ I1.out (Nat.le_refl _)).mono ?_
    rintro e w2 ⟨v4, rfl, oo, hb⟩
    rw [hz.out]
    rw [hL.out] at oo
    have J2 := Lib.hid oo.is
    have I2 := Lib.hid ((I1.out.below hb).more hb.size)
    have B2 := Lib.hid (B1.out.trans (hb.mono B1.out.size))
    clear hb oo I1 B1
    obtain ⟨us4, hU4⟩ := J2.out
    obtain ⟨A4, c4, e4, hnc4, hcm4, _⟩ := hU4.sh
    rw [HN.out] at e4 hnc4
    subst e4
    clear hU4
    go_wp2_with fail
    refine (sCyclotomicFactors_any _ _ p _ I2.out (Nat.le_refl _)).mono ?_
    rintro e w3 ⟨v6, rfl, oo, hb⟩
    rw [hz.out]
    rw [hL.out] at oo
    have K3 := Lib.hid oo.is
    have I3 := Lib.hid ((I2.out.below hb).more hb.size)
    have J3 := Lib.hid ((J2.out.below hb).more hb.size)
    have B3 := Lib.hid (B2.out.trans (hb.mono B2.out.size))
    clear hb oo I2 J2 B2
    obtain ⟨us6, hU6⟩ := K3.out
    obtain ⟨A6, c6, e6, _, _, _⟩ := hU6.sh
    rw [HN.out] at e6
    subst e6
    clear hU6
    have n1 : (z != z) = false := by simp
    go_wp2_with fail
    refine (likeRows5_any _ _ _ _ L L _ J3.out K3.out (Nat.le_refl _) (Nat.le_refl _)).mono ?_
    rintro e w4 ⟨rfl, hb⟩
    rw [show (L == L) = true by simp]
    have I4 := Lib.hid ((I3.out.below hb).more hb.size)
    have J4 := Lib.hid ((J3.out.below hb).more hb.size)
    have B4 := Lib.hid (B3.out.trans (hb.mono B3.out.size))
    clear hb I3 J3 K3 B3
    go_upto_if 61 with fail
    clear n1
    go_cut [8, 9, 10, 11, 12, 13, 14, 15, 16] from 61 to 148 (fun _ _ _ _ _ _ _ _ _ wx => Below w4.heap.size w4 wx)
    case first =>
     as_aux_lemma =>
      by_cases hz0 : z = 0
      · have hzb : (z == 0) = true := by simp [hz0]
        obtain ⟨rows, R, hLr, hpp, HR, hR1, hRs, hrows⟩ := cfa_ok (p := p) (L := L) (by rw [← hL.out, ← hz0, ← hz.out])
        have HRd := Lib.hid HR; have HR1 := Lib.hid hR1; have HRs := Lib.hid hRs; have Hrows := Lib.hid hrows; have Hpp := Lib.hid hpp
        have hNr := Lib.hid (show rows.length = N by rw [← HN.out, hLr, rowsF_len])
        rw [hLr] at J4
        obtain ⟨us, hU⟩ := J4.out
        obtain ⟨A9, c9, e9, hnc9, hcm9, hrd9⟩ := hU.sh
        rw [rowsF_len, hNr.out] at e9 hnc9 hrd9
        cases e9
        have Heach := Lib.hid hU.each
        have Hrd := Lib.hid hrd9
        unfold maxLen at hcm9
        rw [hzb]
        clear hz0 hzb HR hR1 hRs hrows hpp hLr hU hrd9 hL hz
        have o0 : Ow (w4.alloc (.cells #[.int .i64 1] 2)) w4.heap.size (w4.alloc (.cells #[.int .i64 1] 2)).heap.size (.slice (some ⟨w4.heap.size, 0, none⟩) 1 1) [1] := Ow.of_own (n := 1) (World.ownsRow_lit (base := w4.heap.size) (e := 2) (size := 1) w4 #[.int .i64 1] 1 (Nat.le_refl _) (by unfold maxLen; omega) rfl)
        have hb0 : Below w4.heap.size w4 (w4.alloc (.cells #[.int .i64 1] 2)) := (Below.refl _ _).alloc (Nat.le_refl _) _
        have P0 := Lib.hid o0.is
        clear o0
        go_wp2_with fail
        go_loopw [8, 9] (fun x i wr => ∃ (k n : Nat) (A : Option Addr) (c : Nat) (P : List Int), k ≤ N ∧ i = .int .i64 (k : Int) ∧ x = .slice A n c ∧ 0 < n ∧ n ≤ 2001 ∧ Hid (P.length = n) ∧ isPoly P = true ∧ Hid (∀ j, gx P j = ap (rows.take k) one j) ∧ Hid (Is wr wr.heap.size (.slice A n c) P) ∧ Below w4.heap.size w4 wr) (fun _ i _ => N - (intOf i).toNat)
        case atStart => exact ⟨0, 1, _, 1, [1], Nat.zero_le _, rfl, rfl, by omega, by omega, Lib.hid rfl, by decide, Lib.hid (fun j => by rw [List.take_zero]; exact one_is j), P0, hb0⟩
        case round =>
          clear P0 hb0
          obtain ⟨k, n, A, c, P, hk, rfl, rfl, hn0, hn1, HPl, hPp, HPg, HP, hbe⟩ := hrel
          by_cases hlt : k < N
          · as_aux_lemma =>
            have hkr : k < rows.length := by rw [hNr.out]; exact hlt
            obtain ⟨nn, ee, hne⟩ : ∃ nn ee : Nat, Hid (rows[k] = (nn, ee)) := ⟨_, _, Lib.hid rfl⟩
            have hbnd := Hrows.out _ (List.getElem_mem hkr)
            rw [hne.out] at hbnd
            obtain ⟨⟨hnn1, hnn2⟩, hee1, hee2⟩ := hbnd
            have hrk := rows_at rows k hkr
            rw [hne.out] at hrk
            have Htk := Lib.hid (show rows.take (k + 1) = rows.take k ++ [(nn, ee)] by rw [take_rows rows k hkr, hne.out])
            obtain ⟨ad, rfl, had, hcc⟩ := Hrd.out (by omega)
            have hck0 := (hbe.cell (p := ad.add k) (by rw [block_of_add]; exact had)).trans (hcc k hlt)
            obtain ⟨Ak, nk, ck, euk, hnck, hcmk, hrdk⟩ := Heach.out k (by rw [rowsF_len]; exact hkr)
            rw [hrk] at hrdk
            rw [euk] at hck0
            have hnk : nk = 2 := by have := hrdk.len; simpa using this.symm
            subst hnk
            obtain ⟨ak, rfl, hak, hcc2⟩ := hrdk.pos (by omega)
            have hk0 : wr.cell? ak = some (.int .i64 (nn : Int)) := (hbe.cell hak).trans (by have := hcc2 0 (by omega); simpa [Addr.add, gx] using this)
            have hk1 : wr.cell? ⟨ak.block, ak.off + 1, none⟩ = some (.int .i64 (ee : Int)) := (hbe.cell (p := ⟨ak.block, ak.off + 1, none⟩) hak).trans (by have := hcc2 1 (by omega); simpa [Addr.add, gx] using this)
            have hck : wr.cell? (ad.add k) = some (.slice (some ak) 2 ck) := hck0
            have hik : 0 ≤ (k : Int) ∧ (k : Int) < (N : Int) := by omega
            have h22 : ((2 : Int) != 2) = false := rfl
            have hi2 : (1 : Int) ≤ (ee : Int) ∧ (ee : Int) ≤ 50 := by omega
            unfold maxLen at hcmk
            have e0 : ((0 : Int) != 0) = false := rfl
            have Hcy := cycF_nat nn hnn1 hnn2
            have Hc1 := Lib.hid (show (cycF (nn : Int)).1 = phi nn by rw [Hcy])
            have Hc2 := Lib.hid (show (cycF (nn : Int)).2 = 0 by rw [Hcy])
            have Hkeep := Lib.hid (fun w' (hb : Below w4.heap.size w4 w') => show w'.cell? (ad.add k) = some (.slice (some ak) 2 ck) ∧ w'.cell? ⟨ak.block, ak.off + 1, none⟩ = some (.int .i64 (ee : Int)) from ⟨(hb.cell (p := ad.add k) (by rw [block_of_add]; exact had)).trans ((hcc k hlt).trans (by rw [euk])), (hb.cell (p := ⟨ak.block, ak.off + 1, none⟩) hak).trans (by have := hcc2 1 (by omega); simpa [Addr.add, gx] using this)⟩)
            clear hck0 hcc hrdk hcc2 Hcy hrk euk
            go_wp2_with fail
            refine (CyclotomicPolynomial_any (nn : Int) _).mono ?_
            rintro e w5 ⟨v10, rfl, oo, hb⟩
            rw [Hc2.out]
            rw [Hc1.out] at oo
            have Q5 := Lib.hid oo.is
            obtain ⟨A10, n10, c10, e10, _, _, _⟩ := oo.is
            subst e10
            have P5 := Lib.hid ((HP.out.below hb).more hb.size)
            have hbe5 := hbe.trans (hb.mono hbe.size)
            obtain ⟨hck, hk1⟩ := Hkeep.out _ hbe5
            have hphp := Lib.hid (isPoly_phi nn hnn1 hnn2)
            have hphl := Lib.hid (show 0 < (phi nn).length by have := phi_ge nn hnn1 hnn2; omega)
            obtain ⟨ph, hph⟩ : ∃ ph, Hid (phi nn = ph) := ⟨_, Lib.hid rfl⟩
            rw [hph.out] at Q5 hphp hphl
            have Hstep := Lib.hid (show ∀ g, ap (rows.take (k + 1)) g = mfn ph ee (ap (rows.take k) g) from fun g => by rw [Htk.out, ap_snoc, hph.out])
            have hfinal := B4.out
            clear hb oo hbe HP Hc1 Hc2 Htk hne hkr Hkeep hph
            go_wp2_with fail
            go_loopw [8, 12] (fun x y wr => ∃ (e' n' : Nat) (A' : Option Addr) (c' : Nat) (P' : List Int), e' ≤ ee ∧ y = .int .i64 (e' : Int) ∧ x = .slice A' n' c' ∧ 0 < n' ∧ n' ≤ 2001 ∧ Hid (P'.length = n') ∧ isPoly P' = true ∧ Hid (∀ j, gx P' j = mfn ph (ee - e') (ap (rows.take k) one) j) ∧ Hid (Is wr wr.heap.size (.slice A' n' c') P') ∧ Hid (Is wr wr.heap.size (.slice A10 n10 c10) ph) ∧ Below w4.heap.size w4 wr) (fun _ y _ => (intOf y).toNat)
            case atStart => exact ⟨ee, n, A, c, P, Nat.le_refl _, rfl, rfl, hn0, hn1, HPl, hPp, Lib.hid (fun j => by rw [Nat.sub_self]; exact HPg.out j), P5, Q5, hbe5⟩
            case round =>
              clear P5 Q5 hbe5 hck hk1 hn0 hn1 HPl hPp
              obtain ⟨e', n', A', c', P', hle, rfl, rfl, hn0', hn1', HPl', hPp', HPg', HP', HQ', hbe'⟩ := hrel
              by_cases he' : 0 < e'
              · as_aux_lemma =>
                have he'' : (0 : Int) < (e' : Int) := by omega
                have hes : (e' : Int) - 1 = ((e' - 1 : Nat) : Int) := by omega
                have hsz := hbe'.size
                obtain ⟨zc, hzc⟩ : ∃ z, Hid ((mulP P' ph).2 = z) := ⟨_, Lib.hid rfl⟩
                obtain ⟨A8, hA8⟩ : ∃ z, Hid ((mulP P' ph).1 = z) := ⟨_, Lib.hid rfl⟩
                have hcode := mulP_code hPp' hphp.out
                rw [hzc.out] at hcode
                have Hcode := Lib.hid hcode
                clear hcode
                go_wp2_with fail
                refine (MultiplyPolynomials_any _ _ _ P' ph _ HP'.out HQ'.out (Nat.le_refl _)).mono ?_
                rintro e w6 ⟨v13, rfl, oo, hb⟩
                rw [hzc.out]
                rw [hA8.out] at oo
                have P6 := Lib.hid oo.is
                obtain ⟨A13, n13, c13, e13, _, _, hrd13⟩ := oo.is
                subst e13
                have hl13 := Lib.hid hrd13.len
                have Q6 := Lib.hid ((HQ'.out.below hb).more hb.size)
                have hbe6 := hbe'.trans (hb.mono hsz)
                have hfin6 := hfinal.trans (hbe6.mono hfinal.size)
                clear hb oo HP' HQ' hbe' hrd13
                rcases Hcode.out with h0 | h3
                · have t3 : (zc == 3) = false := by rw [h0]; rfl
                  obtain ⟨m1, m2, m3⟩ := mul_more (P := P') (q := ph) (A := A8) (g := mfn ph (ee - e') (ap (rows.take k) one)) (by rw [← hA8.out, ← h0, ← hzc.out]) HPg'.out (by rw [HPl'.out]; exact hn0') hphl.out
                  have M1 := Lib.hid (show ∀ j, gx A8 j = mfn ph (ee - (e' - 1)) (ap (rows.take k) one) j from fun j => by rw [m1 j, show ee - (e' - 1) = (ee - e') + 1 by omega]; rfl)
                  have hn13 : 0 < n13 ∧ n13 ≤ 2001 := by rw [← hl13.out]; exact ⟨m3, (isPoly_true.1 m2).1⟩
                  clear h0 m1 m3 Hcode
                  go_wp2
                  go_roundw
                  case rel => exact ⟨e' - 1, n13, A13, c13, A8, by omega, by go_num, rfl, hn13.1, hn13.2, hl13, m2, M1, P6, Q6, hbe6⟩
                  case measure => first | (simp [intOf]; done) | (simp [intOf]; omega)
                · have t3 : (zc == 3) = true := by rw [h3]; rfl
                  clear h3 Hcode
                  go_wp2
                  go_ret
                  exact ⟨rfl, hfin6⟩
              · obtain rfl : e' = 0 := by omega
                have hg2 := Lib.hid (show ∀ j, gx P' j = ap (rows.take (k + 1)) one j from fun j => by rw [HPg'.out j, Hstep.out, Nat.sub_zero])
                go_wp2
                go_roundw
                case rel => exact ⟨k + 1, n', A', c', P', by omega, by go_num, rfl, hn0', hn1', HPl', hPp', hg2, HP', hbe'⟩
                case measure => first | (simp [intOf]; done) | (simp [intOf]; omega)
          · obtain rfl : k = N := by omega
            have HPg2 := Lib.hid (show ∀ j, gx P j = ap rows one j from fun j => by rw [HPg.out j, List.take_of_length_le (by rw [hNr.out]; exact Nat.le_refl _)])
            have Hfp := Lib.hid (fac_prod Hpp.out hPp HRd.out HR1.out HRs.out HPg2.out)
            have hbr := hbe.size
            clear HPg HPg2 hlt hk Heach Hrd Hrows
            obtain ⟨W, hW⟩ : ∃ W, W = wr := ⟨_, rfl⟩
            subst hW
            have hm0 := Lib.hid (World.ownsRow_lit (base := W.heap.size) (e := 2) (size := 1) W #[] 0 (Nat.le_refl _) (by unfold maxLen; omega) rfl)
            have hmb := Lib.hid (show Below W.heap.size W (W.alloc (.cells #[] 2)) from (Below.refl _ _).alloc (Nat.le_refl _) _)
            go_wp2_with fail
            go_loopw [15, 16] (fun x i wr => ∃ (j : Nat) (A' : Option Addr) (c' : Nat), j ≤ n ∧ i = .int .i64 (j : Int) ∧ x = .slice A' j c' ∧ Hid (wr.ownsRow W.heap.size 2 1 (.slice A' j c') j (((P.take j).map fun x => -x).map (Value.int .i64))) ∧ Hid (Below W.heap.size W wr)) (fun _ i _ => n - (intOf i).toNat)
            case atStart => exact ⟨0, _, 0, Nat.zero_le _, rfl, rfl, hm0, hmb⟩
            case round =>
              clear hm0 hmb
              obtain ⟨j, A', c', hj, rfl, rfl, hown, Hbm⟩ := hrel
              have hszm := Hbm.out.size
              by_cases hjl : j < n
              · as_aux_lemma =>
                obtain ⟨A8, n8, c8, e8, hnc8, hcm8, hrd8⟩ := HP.out
                cases e8
                obtain ⟨g, rfl, hg, hcc⟩ := hrd8.pos (by omega)
                have hcj : wr.cell? (g.add j) = some (.int .i64 (gx P j)) := (Hbm.out.cell (p := g.add j) (by rw [block_of_add]; exact hg)).trans (hcc j hjl)
                have hij : 0 ≤ (j : Int) ∧ (j : Int) < (n : Int) := by omega
                have hbd := isPoly_gx hPp j
                have hwn : IntKind.i64.wrap (-(gx P j)) = -(gx P j) := IntWalk.i64_in _ (by omega)
                have Hsn := Lib.hid (show (P.take (j + 1)).map (fun x => -x) = (P.take j).map (fun x => -x) ++ [-(gx P j)] by rw [take_snoc P j (by rw [HPl.out]; exact hjl), List.map_append]; rfl)
                obtain ⟨tl, htl⟩ : ∃ tl, Hid ((P.take j).map (fun x => -x) = tl) := ⟨_, Lib.hid rfl⟩
                rw [htl.out] at hown Hsn
                unfold maxLen at hcm8
                clear hcc hrd8
                go_wp2_with (at_builtin; refine wp_append_i rfl _ _ rfl W.heap.size _ j tl rfl (hown.out.alloc _) wr.heap.size (-(gx P j)) 1 rfl (by simp) (by omega) (by simp; omega) ?_)
                intro g' cap' w7 hown7 hgrow hat hlt7
                have hb7 := Lib.hid (show Below W.heap.size W w7 from (Hbm.out.alloc hszm _).grown hgrow (by simp; omega) (fun k e => (hown.out.lt k e).1))
                have own7 := Lib.hid (show w7.ownsRow W.heap.size 2 1 (.slice (some ⟨g', 0, none⟩) (j + 1) cap') (j + 1) (((P.take (j + 1)).map fun x => -x).map (Value.int .i64)) by rw [Hsn.out]; simpa using hown7)
                clear hown hgrow hat hown7 Hbm
                go_wp2
                go_roundw
                case rel => exact ⟨j + 1, _, _, by omega, by go_num, rfl, own7, hb7⟩
                case measure => first | (simp [intOf]; done) | (simp [intOf]; omega)
              · obtain rfl : j = n := by omega
                have hM := Lib.hid (show Is wr wr.heap.size (.slice A' j c') (P.map fun x => -x) by
                  have h := hown.out
                  rw [List.take_of_length_le (by rw [HPl.out]; exact Nat.le_refl _)] at h
                  exact (Ow.of_own (n := j) h).is)
                have HP1 := Lib.hid ((HP.out.below Hbm.out).more hszm)
                have hbe1 := hbe.trans (Hbm.out.mono hbr)
                have I9 := Lib.hid ((I4.out.below hbe1).more hbe1.size)
                clear hown HP hbe Hbm hjl hj
                go_wp2_with fail
                refine (likeInts_any _ _ _ _ P p _ HP1.out I9.out (Nat.le_refl _) (Nat.le_refl _)).mono ?_
                rintro e w8 ⟨rfl, hb⟩
                have hM8 := Lib.hid ((hM.out.below hb).more hb.size)
                have I8 := Lib.hid ((I9.out.below hb).more hb.size)
                have hbe8 := Lib.hid (hbe1.trans (hb.mono hbe1.size))
                clear hb hbe1 hM I9 HP1
                cases hPq : (P == p)
                · have hmq : (P.map fun x => -x) = p := by
                    rcases Hfp.out with h | h
                    · rw [h] at hPq; simp at hPq
                    · exact h
                  have Hmq := Lib.hid (show ((P.map fun x => -x) == p) = true by rw [hmq]; simp)
                  clear hmq
                  go_wp2_with fail
                  refine (likeInts_any _ _ _ _ _ p _ hM8.out I8.out (Nat.le_refl _) (Nat.le_refl _)).mono ?_
                  rintro e w9 ⟨rfl, hb⟩
                  rw [Hmq.out]
                  have hbe9 := Lib.hid (hbe8.out.trans (hb.mono hbe8.out.size))
                  clear hb
                  go_wp2
                  go_meet
                  exact hbe9.out
                · go_wp2
                  go_meet
                  exact hbe8.out
      · have hzb : (z == 0) = false := by rw [beq_eq_false_iff_ne]; exact hz0
        clear hz0
        go_wp2
        go_meet
        exact Below.refl _ _
    case rest =>
     as_aux_lemma =>
      obtain ⟨w5, hw5⟩ : ∃ w5, w5 = wc := ⟨_, rfl⟩
      rw [← hw5] at hcut ⊢
      have B5 := Lib.hid (B4.out.trans (hcut.mono B4.out.size))
      clear hw5 hcut B4 I4 J4 hz hL HN
      have hs5 := B5.out.size
      go_wp2_with fail
      refine (DrawCyclotomicPolynomial_any w.heap.size _ n0 _ (Hy.out.below B5.out) hs5).mono ?_
      rintro e w6 ⟨x, rfl, hx, hb⟩
      have B6 := Lib.hid (B5.out.trans (hb.mono hs5))
      clear hb B5 hs5
      obtain ⟨y, hy⟩ : ∃ z, Hid ((cycF x).2 = z) := ⟨_, Lib.hid rfl⟩
      obtain ⟨Q, hQ⟩ : ∃ z, Hid ((cycF x).1 = z) := ⟨_, Lib.hid rfl⟩
      go_wp2_with fail
      refine (CyclotomicPolynomial_any x _).mono ?_
      rintro e w7 ⟨v18, rfl, oo, hb⟩
      rw [hy.out]
      rw [hQ.out] at oo
      have I7 := Lib.hid oo.is
      obtain ⟨A18, n18, c18, e18, _, _, _⟩ := oo.is
      subst e18
      have B7 := Lib.hid (B6.out.trans (hb.mono B6.out.size))
      clear oo hb B6
      go_wp2_with fail
      refine (sCyclotomicPolynomial_any x _).mono ?_
      rintro e w8 ⟨v20, rfl, oo, hb⟩
      rw [hy.out]
      rw [hQ.out] at oo
      have J8 := Lib.hid oo.is
      obtain ⟨A20, n20, c20, e20, _, _, _⟩ := oo.is
      subst e20
      have I8 := Lib.hid ((I7.out.below hb).more hb.size)
      have B8 := Lib.hid (B7.out.trans (hb.mono B7.out.size))
      clear oo hb B7 I7
      have n1 : (y != y) = false := by simp
      go_wp2_with fail
      refine (likeInts_any _ _ _ _ Q Q _ I8.out J8.out (Nat.le_refl _) (Nat.le_refl _)).mono ?_
      rintro e w9 ⟨rfl, hb⟩
      rw [show (Q == Q) = true by simp]
      have I9 := Lib.hid ((I8.out.below hb).more hb.size)
      have B9 := Lib.hid (B8.out.trans (hb.mono B8.out.size))
      clear hb I8 J8 B8
      go_upto_region 37 with fail
      clear n1
      go_cut [175] from 171 to 175 (fun t wx => t = .bool (decide (y = 0 ∧ x ≤ 60)) ∧ wx = w9)
      case first =>
       as_aux_lemma =>
        by_cases k0 : y = 0
        · by_cases k1 : x ≤ 60
          · have hd : decide (y = 0 ∧ x ≤ 60) = true := decide_eq_true ⟨k0, k1⟩
            have k0b : (y == 0) = true := beqT k0
            clear k0
            go_wp2
            go_meet
            exact ⟨by rw [hd], rfl⟩
          · have hd : decide (y = 0 ∧ x ≤ 60) = false := decide_eq_false (fun h => k1 h.2)
            have k0b : (y == 0) = true := beqT k0
            clear k0
            go_wp2
            go_meet
            exact ⟨by rw [hd], rfl⟩
        · have hd : decide (y = 0 ∧ x ≤ 60) = false := decide_eq_false (fun h => k0 h.1)
          have k0b : (y == 0) = false := beqF k0
          clear k0
          go_wp2
          go_meet
          exact ⟨by rw [hd], rfl⟩
      case rest =>
      obtain ⟨rfl, hwc⟩ := hcut
      rw [hwc]
      clear hwc
      obtain ⟨bt, hbt⟩ : ∃ bt, Hid (decide (y = 0 ∧ x ≤ 60) = bt) := ⟨_, Lib.hid rfl⟩
      rw [hbt.out]
      go_upto_if 175 with fail
      go_cut [22, 23, 24, 25, 26, 27, 28, 29, 30, 31] from 175 to 233 (fun _ _ _ _ _ _ _ _ _ _ wx => Below w9.heap.size w9 wx)
      case first =>
       as_aux_lemma =>
        cases bt
        · go_wp2
          go_meet
          exact Below.refl _ _
        · obtain ⟨hy0, hx60⟩ := of_decide_eq_true hbt.out
          have hx1 : 1 ≤ x := by
            have h := hy.out
            rw [hy0] at h
            unfold cycF at h
            split at h
            · rename_i h2; exact (inR_true.1 h2).1
            · simp at h
          obtain ⟨n, rfl⟩ := Int.eq_ofNat_of_zero_le (show 0 ≤ x by omega)
          have hn1 : 1 ≤ n := by omega
          have hn60 : n ≤ 60 := by omega
          obtain ⟨hC1, hC2, hC3⟩ := chkC_parts (chkC_all n hn1 hn60)
          have HC1 := Lib.hid hC1
          have HQ := Lib.hid (show Q = phi n by rw [← hQ.out, cycF_nat n hn1 (by omega)])
          obtain ⟨Bn, hBn⟩ : ∃ z, Hid ((bnP [[(n : Int), 1]]).1 = z) := ⟨_, Lib.hid rfl⟩
          rw [hBn.out] at HC1
          have HC2 := Lib.hid hC2
          obtain ⟨bb, hbb⟩ : ∃ bb, Hid (decide (1 < n) = bb) := ⟨_, Lib.hid rfl⟩
          have HS1 := Lib.hid (show (symP Q).1 = bb by rw [HQ.out, hC3, ← hbb.out])
          have HS2 := Lib.hid (show (symP Q).2 = 0 by rw [HQ.out, hC3])
          have hdb : decide ((1 : Int) < (n : Int)) = bb := by rw [← hbb.out]; congr 1; exact propext ⟨fun h => by omega, fun h => by omega⟩
          have o0 : Ow (w9.alloc (.cells #[.int .i64 1] 2)) w9.heap.size (w9.alloc (.cells #[.int .i64 1] 2)).heap.size (.slice (some ⟨w9.heap.size, 0, none⟩) 1 1) [1] := Ow.of_own (n := 1) (World.ownsRow_lit (base := w9.heap.size) (e := 2) (size := 1) w9 #[.int .i64 1] 1 (Nat.le_refl _) (by unfold maxLen; omega) rfl)
          have hb0 : Below w9.heap.size w9 (w9.alloc (.cells #[.int .i64 1] 2)) := (Below.refl _ _).alloc (Nat.le_refl _) _
          have P0 := Lib.hid o0.is
          clear o0 hC1 hC2 hC3 hy0 hx60 hx1 hbt hy hQ
          go_wp2_with fail
          go_loopw [22, 23] (fun x d wr => ∃ (k m d' : Nat) (A : Option Addr) (c : Nat) (P : List Int), k ≤ n ∧ Hid (d' = k + 1) ∧ d = .int .i64 (d' : Int) ∧ x = .slice A m c ∧ Hid (pdC n k = some P) ∧ Hid (Is wr wr.heap.size (.slice A m c) P) ∧ Below w9.heap.size w9 wr) (fun _ d _ => n + 1 - (intOf d).toNat)
          case atStart => exact ⟨0, 1, 1, _, 1, [1], Nat.zero_le _, Lib.hid rfl, rfl, rfl, Lib.hid rfl, P0, hb0⟩
          case round =>
            clear P0 hb0
            obtain ⟨k, m, d, A, c, P, hk, hd, rfl, rfl, HP, HI, hbe⟩ := hrel
            have hsz := hbe.size
            by_cases hlt : k < n
            · as_aux_lemma =>
              have hdn : (d : Int) ≤ (n : Int) := by have := hd.out; omega
              have hd0 : ¬ (d : Int) = 0 := by have := hd.out; omega
              have hd1 : 1 ≤ d := by have := hd.out; omega
              have hd2 : d ≤ 60 := by have := hd.out; omega
              obtain ⟨r, hr⟩ : ∃ r, Hid (n % d = r) := ⟨_, Lib.hid rfl⟩
              have m2 : (n : Int) % (d : Int) = (r : Int) := by rw [← hr.out]; omega
              have m1 : (n : Int).tmod (d : Int) = (r : Int) := by rw [Int.tmod_eq_emod_of_nonneg (by omega), m2]
              have Hms := Lib.hid (show n + 1 - (d + 1) < n + 1 - d by have := hd.out; omega)
              by_cases hr0 : r = 0
              · have t1 : ((r : Int) != 0) = false := by rw [hr0]; rfl
                obtain ⟨A', hA'⟩ := pdC_back (n - (k + 1)) (k + 1) (B := Bn) (by rw [show k + 1 + (n - (k + 1)) = n by omega]; exact HC1.out)
                obtain ⟨P2, e1, e2⟩ := pdC_yes (by rw [← hd.out, hr.out]; exact hr0) hA'
                rw [HP.out] at e1
                cases e1
                rw [← hd.out] at e2 hA'
                have Hm1 := Lib.hid (show (mulP P (phi d)).1 = A' by rw [e2])
                have Hm2 := Lib.hid (show (mulP P (phi d)).2 = 0 by rw [e2])
                have HA' := Lib.hid hA'
                have Hcy := cycF_nat d hd1 (by omega)
                have Hc1 := Lib.hid (show (cycF (d : Int)).1 = phi d by rw [Hcy])
                have Hc2 := Lib.hid (show (cycF (d : Int)).2 = 0 by rw [Hcy])
                have e0 : ((0 : Int) != 0) = false := rfl
                clear hr0 e2 hA' Hcy
                go_wp2_with fail
                refine (CyclotomicPolynomial_any (d : Int) _).mono ?_
                rintro e w10 ⟨v24, rfl, oo, hb⟩
                rw [Hc2.out]
                rw [Hc1.out] at oo
                have J10 := Lib.hid oo.is
                obtain ⟨A24, n24, c24, e24, _, _, _⟩ := oo.is
                subst e24
                have I10 := Lib.hid ((HI.out.below hb).more hb.size)
                have hbe10 := hbe.trans (hb.mono hsz)
                clear oo hb HI hbe
                go_wp2_with fail
                refine (MultiplyPolynomials_any _ _ _ P (phi d) _ I10.out J10.out (Nat.le_refl _)).mono ?_
                rintro e w11 ⟨v26, rfl, oo, hb⟩
                rw [Hm2.out]
                rw [Hm1.out] at oo
                have K11 := Lib.hid oo.is
                obtain ⟨A26, n26, c26, e26, _, _, _⟩ := oo.is
                subst e26
                have hbe11 := hbe10.trans (hb.mono hbe10.size)
                clear oo hb I10 J10 hbe10
                have HA2 := Lib.hid (show pdC n (k + 1) = some A' by rw [← hd.out]; exact HA'.out)
                have hd' := Lib.hid (show d + 1 = (k + 1) + 1 by rw [hd.out])
                go_wp2
                go_roundw
                case rel => exact ⟨k + 1, n26, d + 1, A26, c26, A', by omega, hd', by go_num, rfl, HA2, K11, hbe11⟩
                case measure => first | (simp [intOf]; done) | (simp [intOf]; omega)
              · have t1 : ((r : Int) != 0) = true := by simp [hr0]
                have HA2 := Lib.hid (show pdC n (k + 1) = some P by rw [pdC_no (by rw [← hd.out, hr.out]; exact hr0)]; exact HP.out)
                have hd' := Lib.hid (show d + 1 = (k + 1) + 1 by rw [hd.out])
                clear hr0
                go_wp2
                go_roundw
                case rel => exact ⟨k + 1, m, d + 1, A, c, P, by omega, hd', by go_num, rfl, HA2, HI, hbe⟩
                case measure => first | (simp [intOf]; done) | (simp [intOf]; omega)
            · obtain rfl : k = n := by omega
              have hdn : ¬ (d : Int) ≤ (k : Int) := by have := hd.out; omega
              have hPB : P = Bn := by have h := HP.out; rw [HC1.out] at h; exact (Option.some.inj h).symm
              subst hPB
              obtain ⟨W, hW⟩ : ∃ W, W = wr := ⟨_, rfl⟩
              subst hW
              have HR := Lib.hid (lit_rows W (k : Int) 1)
              have hbl := Lib.hid (show Below W.heap.size W ((W.alloc (.cells #[.int .i64 (k : Int), .int .i64 1] 2)).alloc (.cells #[.slice (some ⟨W.heap.size, 0, none⟩) 2 2] 24)) from ((Below.refl _ _).alloc (Nat.le_refl _) _).alloc (by simp) _)
              have P1 := Lib.hid ((HI.out.below hbl.out).more hbl.out.size)
              have hb1 := Lib.hid (hbe.trans (hbl.out.mono hsz))
              have Q1 := Lib.hid ((I9.out.below hb1.out).more hb1.out.size)
              have e0 : ((0 : Int) != 0) = false := rfl
              have nb : (bb != bb) = false := by cases bb <;> rfl
              clear HI hbe hbl hlt hk hd I9
              go_wp2_with fail
              refine (BinomialProduct_any _ _ [[(k : Int), 1]] _ HR.out (Nat.le_refl _)).mono ?_
              rintro e w10 ⟨v28, rfl, oo, hb⟩
              rw [HC2.out]
              rw [hBn.out] at oo
              have J10 := Lib.hid oo.is
              obtain ⟨A28, n28, c28, e28, _, _, _⟩ := oo.is
              subst e28
              have P10 := Lib.hid ((P1.out.below hb).more hb.size)
              have Q10 := Lib.hid ((Q1.out.below hb).more hb.size)
              have hb10 := Lib.hid (hb1.out.trans (hb.mono hb1.out.size))
              clear oo hb P1 Q1 hb1 HR
              go_wp2_with fail
              refine (IsSymmetricPolynomial_any _ _ Q _ Q10.out (Nat.le_refl _)).mono ?_
              rintro e w11 ⟨rfl, hb⟩
              rw [HS1.out, HS2.out]
              have P11 := Lib.hid ((P10.out.below hb).more hb.size)
              have J11 := Lib.hid ((J10.out.below hb).more hb.size)
              have hb11 := Lib.hid (hb10.out.trans (hb.mono hb10.out.size))
              clear hb P10 Q10 J10 hb10
              go_wp2_with fail
              refine (likeInts_any _ _ _ _ P P _ P11.out J11.out (Nat.le_refl _) (Nat.le_refl _)).mono ?_
              rintro e w12 ⟨rfl, hb⟩
              rw [show (P == P) = true by simp]
              have hb12 := Lib.hid (hb11.out.trans (hb.mono hb11.out.size))
              clear hb
              go_wp2
              go_meet
              exact hb12.out
      case rest =>
       as_aux_lemma =>
        obtain ⟨w10, hw10⟩ : ∃ w10, w10 = wc := ⟨_, rfl⟩
        rw [← hw10] at hcut ⊢
        have B10 := Lib.hid (B9.out.trans (hcut.mono B9.out.size))
        clear hw10 hcut B9 I9 hy hQ hbt hx
        have hs10 := B10.out.size
        go_wp2_with fail
        refine (DrawBinomialProduct_any w.heap.size _ n0 _ (Hy.out.below B10.out) hs10).mono ?_
        rintro e w11 ⟨v32, xss, rfl, ir, hb⟩
        have I11 := Lib.hid ir
        have B11 := Lib.hid (B10.out.trans (hb.mono hs10))
        obtain ⟨us32, hU32⟩ := ir
        obtain ⟨A32, c32, e32, _, _, _⟩ := hU32.sh
        obtain ⟨N32, HN32⟩ : ∃ N, Hid (xss.length = N) := ⟨_, Lib.hid rfl⟩
        rw [HN32.out] at e32
        subst e32
        clear hU32 hb B10 hs10
        obtain ⟨y2, hy2⟩ : ∃ z, Hid ((bnP xss).2 = z) := ⟨_, Lib.hid rfl⟩
        obtain ⟨X, hX⟩ : ∃ z, Hid ((bnP xss).1 = z) := ⟨_, Lib.hid rfl⟩
        go_wp2_with fail
        refine (BinomialProduct_any _ _ xss _ I11.out (Nat.le_refl _)).mono ?_
        rintro e w12 ⟨v33, rfl, oo, hb⟩
        rw [hy2.out]
        rw [hX.out] at oo
        have X12 := Lib.hid oo.is
        obtain ⟨A33, n33, c33, e33, _, _, _⟩ := oo.is
        subst e33
        have I12 := Lib.hid ((I11.out.below hb).more hb.size)
        have B12 := Lib.hid (B11.out.trans (hb.mono B11.out.size))
        clear oo hb B11 I11
        go_wp2_with fail
        refine (sBinomialProduct_any _ _ xss _ I12.out (Nat.le_refl _)).mono ?_
        rintro e w13 ⟨v35, rfl, oo, hb⟩
        rw [hy2.out]
        rw [hX.out] at oo
        have Y13 := Lib.hid oo.is
        obtain ⟨A35, n35, c35, e35, _, _, _⟩ := oo.is
        subst e35
        have X13 := Lib.hid ((X12.out.below hb).more hb.size)
        have B13 := Lib.hid (B12.out.trans (hb.mono B12.out.size))
        clear oo hb B12 I12 X12
        have n1 : (y2 == y2) = true := by simp
        go_wp2_with fail
        refine (likeInts_any _ _ _ _ X X _ X13.out Y13.out (Nat.le_refl _) (Nat.le_refl _)).mono ?_
        rintro e w14 ⟨rfl, hb⟩
        rw [show (X == X) = true by simp]
        have hfin := Lib.hid (B13.out.trans (hb.mono B13.out.size))
        clear hb
        go_wp2
        go_ret
        exact ⟨rfl, hfin.out⟩
end Go.Proofs.Ytogkblncdpbhnaa.fnCyclotomics
