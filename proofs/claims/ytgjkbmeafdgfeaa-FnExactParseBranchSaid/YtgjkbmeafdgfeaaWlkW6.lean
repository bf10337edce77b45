/-
  WALKS, CHAPTER 3: a text parsed to a branch by the reference.
-/
import Derived.Test.YtgjkbmeafdgfeaaWlkW5
namespace Go.Proofs.Ytgjkbmeafdgfeaa
open Go.RowKit
set_option linter.unusedVariables false
namespace WW
open K Pl WA WL WC
theorem vlI_b (l : List UInt8) : -1 ≤ vlI l ∧ vlI l ≤ 1000000000 := by have := vlI_bd l; omega
set_option maxHeartbeats 3200000 in
theorem sParseBranch_any (s : ByteArray) (w : World) (hs : s.size ≤ 100000000) : Calls Try.prog 4 #[.string s] w (LiB (pbT (L s)) w) := by
  have hb1 : ∀ o, Below w.heap.size w (w.alloc o) := fun o => (Below.refl _ _).alloc (Nat.le_refl _) o
  by_cases h3 : s.size < 2
  · have Hr := Lib.hid (show pbT (L s) = ([], 6) by unfold pbT shell; rw [L_len, decide_eq_false (show ¬ 2 ≤ s.size by omega)]; rfl)
    have e3 : decide ((s.size : Int) < 2) = true := by simp; omega
    clear h3
    go_enter Try.func4, Try.ntmps4
    go_wp2_with fail
    exact bodyPost_ret (v := .tuple #[.agg #[.slice none 0 0], .int .i64 6]) (by simp [results, Try.results4, go_sem]) rfl (LiB.nil Hr.out (hb1 _))
  · have e3 : decide ((s.size : Int) < 2) = false := by simp; omega
    have hsl : ((s.size : Int) - 1).toNat = s.size - 1 := by omega
    cases hsh : shell 2 (L s)
    · have Hr := Lib.hid (show pbT (L s) = ([], 6) by unfold pbT; rw [hsh]; rfl)
      obtain ⟨h0, h1, hx⟩ := shell_cases 2 s (by omega) hsh (by omega)
      have hib : (0 : Int) ≤ (s.size : Int) - 1 ∧ (s.size : Int) - 1 < (s.size : Int) := by omega
      clear h3 hsh
      rcases hx with hx | ⟨hy, hx⟩
      · have hx2 := neqT hx
        go_enter Try.func4, Try.ntmps4
        go_wp2_with fail
        exact bodyPost_ret (v := .tuple #[.agg #[.slice none 0 0], .int .i64 6]) (by simp [results, Try.results4, go_sem]) rfl (LiB.nil Hr.out (hb1 _))
      · have hx2 := neqT hx
        have hy2 := neqF hy
        go_enter Try.func4, Try.ntmps4
        go_wp2_with fail
        exact bodyPost_ret (v := .tuple #[.agg #[.slice none 0 0], .int .i64 6]) (by simp [results, Try.results4, go_sem]) rfl (LiB.nil Hr.out (hb1 _))
    · obtain ⟨h2, h0, h1, hx, hy⟩ := shell_bytes 2 s (by omega) hsh
      have hx2 := neqF hx
      have hy2 := neqF hy
      have hib : (0 : Int) ≤ (s.size : Int) - 1 ∧ (s.size : Int) - 1 < (s.size : Int) := by omega
      have hib2 : (1 : Int) ≤ (s.size : Int) - 1 ∧ (s.size : Int) - 1 ≤ (s.size : Int) := by omega
      have Hm := Lib.hid (L_mid s (by omega))
      have Hms := Lib.hid (show (s.extract 1 (s.size - 1)).size ≤ 100000000 by
        rw [← L_len, Hm.out]; unfold mid; simp [L_len]; omega)
      have hml : (mid (L s)).length ≤ 100000000 := by rw [← Hm.out, L_len]; exact Hms.out
      have HO0 := Lib.hid (show outS (L s) = vlI (gs (spl 59 (mid (L s))) 0) :: (if (spl 59 (mid (L s))).length = 2 then (spl 44 (gs (spl 59 (mid (L s))) 1)).map vlI else []) from rfl)
      have HL0 := Lib.hid (show mid (L s) = mid (L s) from rfl)
      obtain ⟨m, hm⟩ : ∃ m, m = mid (L s) := ⟨_, rfl⟩
      have Hmm := Lib.hid hm
      rw [← hm] at hml HO0 Hm
      clear h3 hx hy hm HL0
      go_enter Try.func4, Try.ntmps4
      go_wp2_with fail
      refine (l01Split_any _ 59 _ rfl _ (by have := Hms.out; omega)).mono ?_
      rintro e w1 ⟨v1, rfl, o1, hw1⟩
      rw [Hm.out] at o1
      have hne := spl_ne 59 m
      have hll := spl_len 59 m
      have hmem := spl_mem_len 59 m
      generalize hH : spl 59 m = H at *
      have HH := Lib.hid hH
      have hlp : 0 < H.length := by cases H <;> simp at hne ⊢
      obtain ⟨g1, c1, rfl⟩ := Go.Joins.ownsRow_form o1.1 hlp
      have hcc : H.length ≤ c1 ∧ c1 ≤ maxLen := by
        obtain ⟨_, _, e0, q1, q2, _⟩ := o1.is
        simp only [Value.slice.injEq] at e0
        obtain ⟨_, _, e1⟩ := e0
        subst e1
        exact ⟨q1, q2⟩
      obtain ⟨hc1a, hc1b⟩ := hcc
      unfold maxLen at hc1b
      have hcell : ∀ j, j < H.length → w1.cell? ⟨g1, j, none⟩ = some (.string (S (gs H j))) := fun j hj => by rw [o1.1.cellAt j (by omega)]; exact map_sv H j hj
      have hce0 := hcell 0 hlp
      have hg1 : g1 < w1.heap.size := World.block_lt_of_cell? w1 ⟨g1, 0, none⟩ hce0
      have hz0 : (S (gs H 0)).size ≤ 100000000 := by rw [S_size]; have := hmem _ (gs_mem H 0 hlp); omega
      have hr1 : Rz w1 w.heap.size (.slice none 0 0) := (Rz.new w _ _).later hw1
      have hbw1 : Below w.heap.size w w1 := (hb1 _).trans (hw1.mono (by simp))
      have hs1 : w.heap.size + 1 ≤ w1.heap.size := hr1.here
      have hHc : Hid (1 < H.length → w1.cell? ⟨g1, 1, none⟩ = some (.string (S (gs H 1)))) := Lib.hid (fun h => hcell 1 h)
      have hz1 : Hid (1 < H.length → (S (gs H 1)).size ≤ 100000000) := Lib.hid (fun h => by rw [S_size]; have := hmem _ (gs_mem H 1 h); omega)
      have hlI : (0 : Int) < (H.length : Int) := by omega
      clear hw1 o1 hcell hb1 hmem hne hH
      go_wp2_with fail
      refine (l01Value_any (S (gs H 0)) _ (by omega)).mono ?_
      rintro e w' ⟨rfl, rfl⟩
      rw [L_S]
      generalize hz : vlI (gs H 0) = z at *
      have HV0 := Lib.hid (Bv.lit (t := 24) w1 z (Nat.le_refl _))
      have hR0 := fun o o' => Lib.hid ((hr1.al o).al o')
      have hB0 : ∀ o o', Below w.heap.size w ((w1.alloc o).alloc o') := fun o o' => ((hbw1.alloc hbw1.size _).alloc (by have := hbw1.size; simp; omega) _)
      have hW0 : ∀ o o', Below w1.heap.size w1 ((w1.alloc o).alloc o') := fun o o' => ((Below.refl _ _).alloc (Nat.le_refl _) _).alloc (by simp) _
      by_cases hl2 : H.length = 2
      · have e2 : ((H.length : Int) == 2) = true := beqT (by omega)
        have hc1 := fun o o' => ((hW0 o o').cell (p := ⟨g1, 1, none⟩) (by show g1 < _; omega)).trans (hHc.out (by omega))
        have hzz := hz1.out (by omega)
        have hlI2 : (1 : Int) < (H.length : Int) := by omega
        have e4 : decide ((2 : Int) < (H.length : Int)) = false := by simp; omega
        clear hHc hz1
        go_wp2_with fail
        refine (l01Split_any (S (gs H 1)) 44 _ rfl _ (by omega)).mono ?_
        rintro e w3 ⟨v3, rfl, o3, hw3⟩
        rw [L_S] at o3
        have HV3 := Lib.hid (HV0.out.later hw3)
        have hR3 := (hR0 _ _).out.later hw3
        have hB3 := (hB0 _ _).trans (hw3.mono (hB0 _ _).size)
        have hs3 : w1.heap.size + 2 ≤ w3.heap.size := by have := hw3.size; simpa using this
        have o3' : OwS w3 (w1.heap.size + 2) w3.heap.size v3 (spl 44 (gs H 1)) := by simpa using o3
        have hlw := spl_len 44 (gs H 1)
        have hmw := Lib.hid (spl_mem_len 44 (gs H 1))
        rw [← L_S (gs H 1), L_len] at hlw
        rw [L_S] at hlw
        generalize hws : spl 44 (gs H 1) = ws at *
        obtain ⟨A3, c3, rfl, hc3a, hc3b, _⟩ := o3'.is
        unfold maxLen at hc3b
        generalize hn : ws.length = n at *
        have Hn := Lib.hid hn
        have O3 := Lib.hid o3'
        have HO := Lib.hid (show outS (L s) = z :: ws.map vlI by rw [HO0.out, if_pos hl2])
        have hgl : Hid ((gs H 1).length ≤ 100000000) := Lib.hid (by rw [← S_size]; exact hzz)
        clear hn HV0 hR0 hB0 hW0 o3 o3' hw3 hc1
        go_wp2_with fail
        go_loopw [8] (fun i wr => ∃ (k : Nat) (A6 : Option Addr) (c6 : Nat), k ≤ n ∧ i = .int .i64 k ∧ Hid (Bv wr (w1.heap.size + 1) w1.heap.size A6 (k + 1) c6 (z :: (ws.take k).map vlI)) ∧ Hid (OwS wr (w1.heap.size + 2) w3.heap.size (.slice A3 n c3) ws) ∧ Hid (∀ g, (Value.slice A6 (k + 1) c6).ownBlock = some g → g < w1.heap.size + 2 ∨ w3.heap.size ≤ g) ∧ Hid (Rz wr w.heap.size (.slice none 0 0)) ∧ Below w.heap.size w wr ∧ w3.heap.size ≤ wr.heap.size) (fun i _ => n - (intOf i).toNat)
        case atStart => exact ⟨0, _, _, Nat.zero_le _, rfl, HV3, O3, Lib.hid (fun g hg => by simp [Value.ownBlock] at hg; omega), Lib.hid hR3, hB3, Nat.le_refl _⟩
        case round =>
          clear HV3 O3 hR3 hB3
          obtain ⟨k, A6, c6, hk, rfl, HV, HW, Hob, HRz, hBw, hsw⟩ := hrel
          by_cases hlt : k < n
          · obtain ⟨A', c', e', q1, q2, q3⟩ := HW.out.is
            simp only [Value.slice.injEq] at e'
            obtain ⟨eA, en, ec⟩ := e'
            subst eA ec
            clear en
            obtain ⟨ad3, rfl, hab, hcell⟩ := q3 (by rw [Hn.out]; omega)
            have hck := hcell k (by rw [Hn.out]; exact hlt)
            have hi1 : (0 : Int) ≤ (k : Int) ∧ (k : Int) < (n : Int) := by omega
            have hsz : (S (gs ws k)).size ≤ 100000000 := by
              rw [S_size]
              have := hmw.out _ (gs_mem ws k (by rw [Hn.out]; exact hlt))
              have := hgl.out
              omega
            have HT := Lib.hid (show z :: (ws.take (k + 1)).map vlI = (z :: (ws.take k).map vlI) ++ [vlI (gs ws k)] by
              rw [gs_take ws k (by rw [Hn.out]; exact hlt)]; simp)
            have hcx := HV.out.cell
            have hfx := HV.out.free
            have hbw := hBw.size
            have hbv := HV.out.lt
            have hbd := HV.out.bounds
            have Hval := Lib.hid (fun W => l01Value_any (S (gs ws k)) W (by omega))
            rw [L_S] at Hval
            generalize hv : vlI (gs ws k) = y at *
            clear q1 q2 q3 hcell hv
            go_wp2_with fail
            go_region_law (first | (go_simp; go_at_call 10; refine (Hval.out _).mono ?_; rintro e w' ⟨rfl, rfl⟩) | (refine step_append_i (by rfl) _ _ (by rfl) w1.heap.size (.slice A6 (k + 1) c6) (k + 1) (z :: (ws.take k).map vlI) (by simp [Act.eval]) (HV.out.own.alloc _) wr.heap.size y 1 (by simp [Act.eval]) (by simp [go_sem]) (by omega) (by simp; omega) ?_; intro g' cap' w2 hown2 hgrow hat hlt3; obtain ⟨q1, q2⟩ := HV.out.after hgrow rfl))
            all_goals
              have Hv2 := Lib.hid (HV.out.step hgrow rfl hown2 hat)
              rw [← HT.out] at Hv2
              have hbe2 := fun u => HV.out.below (B := w.heap.size) (by omega) (by omega) hBw hgrow ⟨rfl, rfl, rfl, rfl⟩ u
              have Hob2 := Lib.hid (show ∀ g, (Value.slice (some ⟨g', 0, none⟩) (k + 1 + 1) cap').ownBlock = some g → g < w1.heap.size + 2 ∨ w3.heap.size ≤ g from fun g hg => by
                simp [Value.ownBlock] at hg
                subst hg
                rcases hat with e | e
                · exact Hob.out _ e
                · simp at e; omega)
              have HW2 := Lib.hid (show ∀ u, OwS (w2.setCell ⟨w1.heap.size + 1, 0, none⟩ u) (w1.heap.size + 2) w3.heap.size (.slice (some ad3) n c3) ws from fun u => by
                obtain ⟨a, b, hcg, hd⟩ := chg_of_grown (lo := w1.heap.size + 2) (hi := w3.heap.size) hgrow (fun g hg => Hob.out g hg)
                have x : OwS (wr.alloc (.cells #[.int .i64 y] 2)).drew (w1.heap.size + 2) w3.heap.size (.slice (some ad3) n c3) ws := HW.out.alloc _
                exact (x.keep hcg hd).keep (Chg.setCell (lo := w1.heap.size + 1) (hi := w1.heap.size + 2) (p := ⟨w1.heap.size + 1, 0, none⟩) ⟨by simp, by simp⟩ u) (.inr (Nat.le_refl _)))
              have HRz2 := Lib.hid (show ∀ u, Rz (w2.setCell ⟨w1.heap.size + 1, 0, none⟩ u) w.heap.size (.slice none 0 0) from fun u => by
                have x : Rz (wr.alloc (.cells #[.int .i64 y] 2)).drew w.heap.size (.slice none 0 0) := HRz.out.al _
                exact (x.grown hgrow (fun k' e => by have := (HV.out.own.lt k' e).1; omega)).far (by omega) u)
              have hsz2 : w3.heap.size ≤ w2.heap.size := by have := hgrow.size; simp at this; omega
              clear HV hown2 hgrow hat q1 q2 hcx hfx Hob HW HRz hck
              go_wp2_with fail
              go_roundw
              case rel => exact ⟨k + 1, _, _, by omega, by go_num, Hv2, Lib.hid (HW2.out _), Hob2, Lib.hid (HRz2.out _), hbe2 _, by simpa using hsz2⟩
              case measure => first | (simp [intOf]; done) | (simp [intOf]; omega)
          · have HO2 := Lib.hid (show outS (L s) = z :: (ws.take k).map vlI by rw [HO.out, List.take_of_length_le (by rw [Hn.out]; omega)])
            have HD := Lib.hid (show decide (2 < (spl 59 (mid (L s))).length) = false by rw [← Hmm.out, HH.out]; simp; omega)
            have hRz := HRz.out
            clear HO HO0 HW Hob HRz
            have HO := HO2
            clear HO2
            generalize z :: (ws.take k).map vlI = xs at *
            have HM := Lib.hid (HV.out.ow (Nat.le_refl _)).is
            have hcx := HV.out.cell
            have hrc := hRz.1
            have hrf := hRz.2
            have hbl2 := hBw.size
            have hvl := HV.out.lt
            cases hbr : isBr (xs)
            · have Hr := Lib.hid (show pbT (L s) = ([], 6) by unfold pbT; rw [HO.out, hbr]; simp)
              go_wp2_with fail
              refine (l03Is_any _ _ (xs) _ HM.out (Nat.le_refl _)).mono ?_
              rintro e w6 ⟨rfl, hb6⟩
              rw [hbr]
              have z1 := hRz.later hb6
              have z4 := hBw.trans (hb6.mono hbl2)
              have u4 := Lib.hid (res_none z1.1 (Nat.le_refl _) z4)
              have u5 := u4.out.1
              have u6 := z1.1
              have u7 := z1.2
              clear hcx hrc hrf z1 z4 hb6 hRz
              go_wp2_with fail
              exact bodyPost_ret (v := .tuple #[.agg #[.slice none 0 0], .int .i64 6]) (by simp [results, Try.results4, go_sem, u5]) rfl (LiB.nil Hr.out u4.out.2)
            · have hb0 := (isBr_true.1 hbr).1
              have hb7 := isBr_len_le hbr
              have hbg := Lib.hid (isBr_range hbr)
              go_wp2_with fail
              refine (l03Is_any _ _ (xs) _ HM.out (Nat.le_refl _)).mono ?_
              rintro e w6 ⟨rfl, hb6⟩
              rw [hbr]
              have z1 := hRz.later hb6
              have z2 := Lib.hid (HV.out.later hb6)
              have z4 := hBw.trans (hb6.mono hbl2)
              have z5 := hb6.size
              have z6 := z2.out.cell
              have HM6 := Lib.hid (z2.out.ow (Nat.le_refl _)).is
              have z7 := z1.1
              have z8 := z1.2
              clear hcx hrc hrf hb6 hRz HM
              go_wp2_with fail
              refine (l03Text_any _ _ (xs) _ HM6.out (Nat.le_refl _) hb0 (by omega) (fun i hi => by have := hbg.out i hi; omega)).mono ?_
              rintro e w7 ⟨rfl, hb8⟩
              have y1 := z1.later hb8
              have y2 := Lib.hid (z2.out.later hb8)
              have y4 := z4.trans (hb8.mono z4.size)
              have y5 := hb8.size
              have y6 := y2.out.cell
              have y7 := y1.1
              have y8 := y1.2
              clear z1 z2 z4 z6 z7 z8 hb8 HM6
              have YB := Lib.hid y4
              by_cases ht : txB (xs) = L s
              · have Hr := Lib.hid (show pbT (L s) = (xs, 0) by unfold pbT; rw [HO.out, hbr, ht]; simp [hsh, HD.out])
                have u4 := Lib.hid (res_out2 (y2.out.ow (Nat.le_refl _)) (by omega) (Nat.le_refl _) y1.1 (Nat.le_refl _) YB.out)
                have u5 := u4.out.1
                have t1 : ((S (txB (xs))).toList == s.toList) = true := by rw [toList_L, toList_L, L_S, ht]; simp
                have t2 : (S (txB (xs))).toList = s.toList := by rw [toList_L, toList_L, L_S, ht]
                clear ht y4
                generalize S (txB (xs)) = tx at *
                go_wp2_with fail
                exact bodyPost_ret (v := .tuple #[.agg #[.slice A6 (k + 1) c6], .int .i64 0]) (by simp [results, Try.results4, go_sem, u5]) rfl ⟨_, by rw [Hr.out], by rw [Hr.out]; exact u4.out.2.1, u4.out.2.2⟩
              · have Hr := Lib.hid (show pbT (L s) = ([], 6) by unfold pbT; rw [HO.out]; simp [ht])
                have u4 := Lib.hid (res_none y1.1 (Nat.le_refl _) YB.out)
                have u5 := u4.out.1
                have t1 : ((S (txB (xs))).toList == s.toList) = false := by rw [toList_L, toList_L, L_S]; simp [ht]
                have t2 : ¬ (S (txB (xs))).toList = s.toList := by rw [toList_L, toList_L, L_S]; exact ht
                clear ht y4
                generalize S (txB (xs)) = tx at *
                go_wp2_with fail
                exact bodyPost_ret (v := .tuple #[.agg #[.slice none 0 0], .int .i64 6]) (by simp [results, Try.results4, go_sem, u5]) rfl (LiB.nil Hr.out u4.out.2)
      · have e2 : ((H.length : Int) == 2) = false := beqF (by omega)
        have HO := Lib.hid (show outS (L s) = [z] by rw [HO0.out, if_neg hl2])
        have hRz := (hR0 (.cells #[.int .i64 z] 2) (.cells #[.slice (some ⟨w1.heap.size, 0, none⟩) 1 1] 24)).out
        have hBw := hB0 (.cells #[.int .i64 z] 2) (.cells #[.slice (some ⟨w1.heap.size, 0, none⟩) 1 1] 24)
        have HV := HV0
        clear hHc hz1 hR0 hB0 hW0 HV0 HO0
        by_cases hl3 : 2 < H.length
        · have e4 : decide ((2 : Int) < (H.length : Int)) = true := by simp; omega
          have Hr := Lib.hid (show pbT (L s) = ([], 6) by unfold pbT; rw [← Hmm.out, HH.out, decide_eq_true hl3]; simp)
          have u4 := Lib.hid (res_none hRz.1 (Nat.le_refl _) hBw)
          have u5 := u4.out.1
          have u6 := hRz.1
          have u7 := hRz.2
          clear hRz hBw HV hl2 hl3
          go_wp2_with fail
          exact bodyPost_ret (v := .tuple #[.agg #[.slice none 0 0], .int .i64 6]) (by simp [results, Try.results4, go_sem, u5]) rfl (LiB.nil Hr.out u4.out.2)
        · have e4 : decide ((2 : Int) < (H.length : Int)) = false := by simp; omega
          have HD := Lib.hid (show decide (2 < (spl 59 (mid (L s))).length) = false by rw [← Hmm.out, HH.out]; simp; omega)
          clear hl2 hl3
          have HM := Lib.hid (HV.out.ow (Nat.le_refl _)).is
          have hcx := HV.out.cell
          have hrc := hRz.1
          have hrf := hRz.2
          have hbl2 := hBw.size
          have hvl := HV.out.lt
          cases hbr : isBr ([z])
          · have Hr := Lib.hid (show pbT (L s) = ([], 6) by unfold pbT; rw [HO.out, hbr]; simp)
            go_wp2_with fail
            refine (l03Is_any _ _ ([z]) _ HM.out (Nat.le_refl _)).mono ?_
            rintro e w6 ⟨rfl, hb6⟩
            rw [hbr]
            have z1 := hRz.later hb6
            have z4 := hBw.trans (hb6.mono hbl2)
            have u4 := Lib.hid (res_none z1.1 (Nat.le_refl _) z4)
            have u5 := u4.out.1
            have u6 := z1.1
            have u7 := z1.2
            clear hcx hrc hrf z1 z4 hb6 hRz
            go_wp2_with fail
            exact bodyPost_ret (v := .tuple #[.agg #[.slice none 0 0], .int .i64 6]) (by simp [results, Try.results4, go_sem, u5]) rfl (LiB.nil Hr.out u4.out.2)
          · have hb0 := (isBr_true.1 hbr).1
            have hb7 := isBr_len_le hbr
            have hbg := Lib.hid (isBr_range hbr)
            go_wp2_with fail
            refine (l03Is_any _ _ ([z]) _ HM.out (Nat.le_refl _)).mono ?_
            rintro e w6 ⟨rfl, hb6⟩
            rw [hbr]
            have z1 := hRz.later hb6
            have z2 := Lib.hid (HV.out.later hb6)
            have z4 := hBw.trans (hb6.mono hbl2)
            have z5 := hb6.size
            have z6 := z2.out.cell
            have HM6 := Lib.hid (z2.out.ow (Nat.le_refl _)).is
            have z7 := z1.1
            have z8 := z1.2
            clear hcx hrc hrf hb6 hRz HM
            go_wp2_with fail
            refine (l03Text_any _ _ ([z]) _ HM6.out (Nat.le_refl _) hb0 (by omega) (fun i hi => by have := hbg.out i hi; omega)).mono ?_
            rintro e w7 ⟨rfl, hb8⟩
            have y1 := z1.later hb8
            have y2 := Lib.hid (z2.out.later hb8)
            have y4 := z4.trans (hb8.mono z4.size)
            have y5 := hb8.size
            have y6 := y2.out.cell
            have y7 := y1.1
            have y8 := y1.2
            clear z1 z2 z4 z6 z7 z8 hb8 HM6
            have YB := Lib.hid y4
            by_cases ht : txB ([z]) = L s
            · have Hr := Lib.hid (show pbT (L s) = ([z], 0) by unfold pbT; rw [HO.out, hbr, ht]; simp [hsh, HD.out])
              have u4 := Lib.hid (res_out2 (y2.out.ow (Nat.le_refl _)) (by omega) (Nat.le_refl _) y1.1 (Nat.le_refl _) YB.out)
              have u5 := u4.out.1
              have t1 : ((S (txB ([z]))).toList == s.toList) = true := by rw [toList_L, toList_L, L_S, ht]; simp
              have t2 : (S (txB ([z]))).toList = s.toList := by rw [toList_L, toList_L, L_S, ht]
              clear ht y4
              generalize S (txB ([z])) = tx at *
              go_wp2_with fail
              exact bodyPost_ret (v := .tuple #[.agg #[.slice (some ⟨w1.heap.size, 0, none⟩) 1 1], .int .i64 0]) (by simp [results, Try.results4, go_sem, u5]) rfl ⟨_, by rw [Hr.out], by rw [Hr.out]; exact u4.out.2.1, u4.out.2.2⟩
            · have Hr := Lib.hid (show pbT (L s) = ([], 6) by unfold pbT; rw [HO.out]; simp [ht])
              have u4 := Lib.hid (res_none y1.1 (Nat.le_refl _) YB.out)
              have u5 := u4.out.1
              have t1 : ((S (txB ([z]))).toList == s.toList) = false := by rw [toList_L, toList_L, L_S]; simp [ht]
              have t2 : ¬ (S (txB ([z]))).toList = s.toList := by rw [toList_L, toList_L, L_S]; exact ht
              clear ht y4
              generalize S (txB ([z])) = tx at *
              go_wp2_with fail
              exact bodyPost_ret (v := .tuple #[.agg #[.slice none 0 0], .int .i64 6]) (by simp [results, Try.results4, go_sem, u5]) rfl (LiB.nil Hr.out u4.out.2)
theorem sParseBranch_b (s : ByteArray) (w : World) (hs : s.size ≤ 100000000) : Calls Try.prog 4 #[.string s] w (LiB (pbB (L s)) w) := by
  rw [← pbT_eq]; exact sParseBranch_any s w hs
end WW
end Go.Proofs.Ytgjkbmeafdgfeaa
