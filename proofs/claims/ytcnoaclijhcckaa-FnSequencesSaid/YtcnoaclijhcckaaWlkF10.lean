/-
  WALKS, DRAWS: lists that are mostly sequences.
-/
import Derived.Test.YtcnoaclijhcckaaWlkFB
import Derived.Deep.CutRange
namespace Go.Proofs.Ytcnoaclijhcckaa
open Go.RowKit
set_option linter.unusedVariables false
namespace WF
open K Pl WA WC WD
theorem Is.take {w : World} {B n c : Nat} {A : Option Addr} {xs : List Int} (h : Is w B (.slice A n c) xs) (k : Nat) (hk : k ≤ n) : Is w B (.slice A k c) (xs.take k) := by
  obtain ⟨A', n', c', e, h1, h2, h3⟩ := h
  cases e
  have hl := h3.len
  refine ⟨A, k, c, rfl, by omega, h2, ⟨by rw [List.length_take]; omega, fun hp => ?_⟩⟩
  obtain ⟨ad, e1, e2, e3⟩ := h3.pos (by omega)
  exact ⟨ad, e1, e2, fun j hj => by rw [e3 j (by omega), gx_take _ _ _ hj]⟩
def maxI (a b : Int) : Int := if b > a then b else a
theorem al_w (w : World) (o : Obj) : Below w.heap.size w (w.alloc o) := (Below.refl _ _).alloc (Nat.le_refl _) o
theorem br23 : isBr [2, 3] = true := by
  have := br_pair (t := 2) (k := 1) (.inl rfl) (by omega)
  simpa using this
set_option maxHeartbeats 25600000 in
theorem l04Some_any (B : Nat) (v : Value) (n0 : Nat) (w : World) (h : IsY w B v n0) (hB : B ≤ w.heap.size) :
    Calls Try.prog 48 #[v] w fun e w' => ∃ v' xs, e = .returned v' ∧ Is w' w'.heap.size v' xs ∧ Below w.heap.size w w' := by
  go_enter Try.func48, Try.ntmps48
  go_wp2_with fail
  refine (l01From_any B v n0 _ h hB).mono ?_
  rintro e w1 ⟨rfl, hs1, hb1⟩
  have hsz := hb1.size
  have hbw := hs1.here
  go_wp2_with fail
  refine (l03Draw_any B w.heap.size _ hs1).mono ?_
  rintro e w2 ⟨v2, xs, rfl, ow2, hxs, hs2, hc2⟩
  have c2 := hb1.trans (hc2.below hsz (.inl (Nat.le_refl _)))
  have z2 := hc2.size
  have hb3 := (Below.refl w2.heap.size w2).alloc (Nat.le_refl _) (.cells #[v2] 26)
  have i3 := Lib.hid (Il.later (Ow.il ow2 (lo' := w.heap.size + 1) hbw) hb3)
  have x3 := Lib.hid (Rz.new w2 v2 26)
  have s3 := Lib.hid (Src.al hs2 (.cells #[v2] 26))
  have c3 := Lib.hid (c2.alloc (o := .cells #[v2] 26) (by omega))
  obtain ⟨A2, n2, c2', e2, _⟩ := ow2.is
  subst e2
  have Hxs := Lib.hid hxs
  clear hb1 hc2 hs2 c2 ow2 hs1 hb3 hxs
  go_upto_region 3 with fail
  obtain ⟨w3, hw3⟩ : ∃ w3, w3 = w2.alloc (.cells #[.slice A2 n2 c2'] 26) := ⟨_, rfl⟩
  have z3 : w2.heap.size + 1 ≤ w3.heap.size := by rw [hw3]; simp
  rw [← hw3] at i3 x3 s3 c3 ⊢
  clear hw3
  have x3c := x3.out.1
  go_wp2_with fail
  refine (l04Count_any _ _ xs _ i3.out.1 (Nat.le_refl _) Hxs.out).mono ?_
  rintro e w4 ⟨rfl, hb4⟩
  have s4 := Lib.hid (s3.out.later hb4)
  have c4 := Lib.hid (c3.out.trans (hb4.mono (by omega)))
  have z4 := hb4.size
  have x4 := Lib.hid (x3.out.later hb4)
  have i4 := Lib.hid (Il.later i3.out hb4)
  obtain ⟨x4c, x4f⟩ := x4.out
  clear x3c x3 i3 s3 c3 hb4
  obtain ⟨CN, hCN⟩ : ∃ CN, Hid (((seqB xs).length : Int) = CN) := ⟨_, Lib.hid rfl⟩
  rw [hCN.out]
  go_upto_if 14 with fail
  go_cut [] from 15 to 16 (fun wx => ∃ (A : Option Addr) (m c : Nat) (ys : List Int), Hid (Rz wx w2.heap.size (.slice A m c)) ∧ Hid (Il wx (w.heap.size + 1) (.slice A m c) ys) ∧ Hid (isBr ys = true) ∧ Src wx B w.heap.size ∧ Below w.heap.size w wx)
  case first =>
   as_aux_lemma =>
    by_cases hbig : 390 < CN
    · have hlw : w2.heap.size < w4.heap.size := by omega
      have hwz := fun v => w4.setCell ⟨w2.heap.size, 0, none⟩ v
      have x5 := Lib.hid ((x4.out.set (.slice (some ⟨w4.heap.size, 0, none⟩) 2 2)).al (.cells #[.int .i64 2, .int .i64 3] 2))
      have s5 := Lib.hid (Src.al (s4.out.keep (Chg.setC (lo := w2.heap.size) (hi := w2.heap.size + 1) (p := ⟨w2.heap.size, 0, none⟩) ⟨Nat.le_refl _, Nat.lt_succ_self _⟩ (.slice (some ⟨w4.heap.size, 0, none⟩) 2 2)) (.inl (by omega)) (.inl (by have := s4.out.lt; omega))) (.cells #[.int .i64 2, .int .i64 3] 2))
      have c5 := Lib.hid ((c4.out.setCell (p := ⟨w2.heap.size, 0, none⟩) (by show w.heap.size ≤ w2.heap.size; omega) (.slice (some ⟨w4.heap.size, 0, none⟩) 2 2)).alloc (o := .cells #[.int .i64 2, .int .i64 3] 2) (by simp; omega))
      have i5 := Lib.hid (show Il ((w4.setCell ⟨w2.heap.size, 0, none⟩ (.slice (some ⟨w4.heap.size, 0, none⟩) 2 2)).alloc (.cells #[.int .i64 2, .int .i64 3] 2)) (w.heap.size + 1) (.slice (some ⟨w4.heap.size, 0, none⟩) 2 2) [2, 3] by
        have hl : (w4.setCell ⟨w2.heap.size, 0, none⟩ (.slice (some ⟨w4.heap.size, 0, none⟩) 2 2)).heap.size = w4.heap.size := by simp
        have ho := World.ownsRow_lit (base := w.heap.size + 1) (e := 2) (size := 1) (w4.setCell ⟨w2.heap.size, 0, none⟩ (.slice (some ⟨w4.heap.size, 0, none⟩) 2 2)) #[.int .i64 2, .int .i64 3] 2 (by rw [hl]; omega) (by unfold maxLen; omega) rfl
        rw [hl] at ho
        exact Ow.il (Ow.of_own (n := 2) (xs := [2, 3]) ho) (Nat.le_refl _))
      clear s4 c4 i4 x4 hwz
      go_wp2_with fail
      go_meet
      exact ⟨_, _, _, [2, 3], x5, i5, Lib.hid br23, s5.out, c5.out⟩
    · go_wp2
      go_meet
      exact ⟨_, _, _, xs, x4, i4, Hxs, s4.out, c4.out⟩
  case rest =>
   as_aux_lemma =>
    obtain ⟨A, m, c, ys, x5, i5, Hbr, hs5, c5⟩ := hcut
    clear x4 i4 s4 c4 Hxs x4c x4f z4
    have hz5 := c5.size
    have hlw := x5.out.here
    have x5c := x5.out.1
    have hb5 := hs5.here
    have S0 : Src wc B w.heap.size ∧ wc.cell? ⟨w2.heap.size, 0, none⟩ = some (.slice A m c) := ⟨hs5, x5c⟩
    have C5 := Lib.hid c5
    clear c5
    go_wp2_with fail
    go_region_held3 (fun W => Src W B w.heap.size ∧ W.cell? ⟨w2.heap.size, 0, none⟩ = some (.slice A m c)) (first | exact s2_drew S0 | exact qq | assumption)
      (first
        | (go_at_call 42; refine (l01Next_any B w.heap.size 5 _ (s2_drew S0).1 (by omega)).mono ?_; rintro e w6 ⟨r6, rfl, hr6, hs6, hc6⟩; have hr60 := hr6.1; have hr61 := hr6.2.1 (by omega); obtain ⟨q, rfl⟩ := Int.eq_ofNat_of_zero_le hr60; have hc6' := (show Chg w.heap.size (w.heap.size + 1) wc w6 from (Chg.of_drew _ _ _).trans hc6); have qq := And.intro hs6 ((x5.out.chg hc6' (.inr (by omega))).1); have z6 := hc6'.size)
        | (go_at_call 32; refine (l04Full_any _ _ ys q _ ((Il.chg i5.out hc6' (Nat.le_refl _)).1) (Nat.le_refl _) Hbr.out (by omega)).mono ?_; rintro e w7 ⟨v7, rfl, o7, hb7⟩; have qq := And.intro (qq.1.later hb7) ((hb7.cell (p := ⟨w2.heap.size, 0, none⟩) (World.block_lt_of_cell? _ ⟨w2.heap.size, 0, none⟩ qq.2)).trans qq.2)))
    obtain ⟨L, hL⟩ : ∃ L, Hid (seqB ys ++ ones q = L) := ⟨_, Lib.hid rfl⟩
    have hLb := Lib.hid (show ∀ x ∈ L, 1 ≤ x ∧ x ≤ 64 by
      intro x hx
      rw [← hL.out] at hx
      rcases List.mem_append.1 hx with h6 | h6
      · exact seqB_bd Hbr.out x h6
      · unfold ones at h6; rw [(List.mem_replicate.1 h6).2]; omega)
    have hLn : 1 ≤ L.length ∧ L.length ≤ 1000005 := by
      have := seqB_len Hbr.out
      rw [← hL.out]; simp [ones]; omega
    rw [hL.out] at o7
    obtain ⟨A7, c7, e7, hnc7, hcm7⟩ := o7.shape
    subst e7
    obtain ⟨N, hN⟩ : ∃ N, Hid (L.length = N) := ⟨_, Lib.hid rfl⟩
    rw [hN.out] at o7 hnc7 hLn ⊢
    obtain ⟨g, cg, eg⟩ := Go.Joins.ownsRow_form (Ow.n o7 hN) (by omega)
    obtain rfl : A7 = some ⟨g, 0, none⟩ := by cases eg; rfl
    clear eg
    have z7 := hb7.size
    have o8 := Lib.hid (o7.wide (show w.heap.size + 1 ≤ w6.heap.size by omega) (Nat.le_refl _))
    have c8 := Lib.hid ((C5.out.trans (hc6'.below hz5 (.inl (Nat.le_refl _)))).trans (hb7.mono (by omega)))
    have s8 := Lib.hid qq.1
    clear hr6 hr60 hr61 hc6 hc6' hs6 hb7 o7 qq S0 C5 i5 x5 x5c hs5
    go_wp2_with fail
    refine (l01Next_any B w.heap.size 10 _ s8.out (by omega)).mono ?_
    rintro e w9 ⟨r9, rfl, hr9, hs9, hc9⟩
    have z9 := hc9.size
    have c9 := Lib.hid (c8.out.trans (hc9.below (by omega) (.inl (Nat.le_refl _))))
    have o9 := Lib.hid ((o8.out.keep hc9 (.inr (Nat.le_refl _))).wide (Nat.le_refl _) hc9.size)
    have s9 := Lib.hid hs9
    have hgl := (o9.out.low (k := g) rfl)
    clear hr9 hs9 hc9 o8 c8 s8
    have hi00 : 0 < N := by omega
    by_cases h0 : r9 = 0
    · have h0' : (r9 == 0) = true := by simp [h0]
      clear h0
      go_wp2_with fail
      refine (l01Next_any B w.heap.size (N : Int) _ s9.out (by omega)).mono ?_
      rintro e wa ⟨ra, rfl, hra, hsa, hca⟩
      have hra1 := hra.2.1 (by omega)
      obtain ⟨k, rfl⟩ := Int.eq_ofNat_of_zero_le hra.1
      have za := hca.size
      have ca := Lib.hid (c9.out.trans (hca.below (by omega) (.inl (Nat.le_refl _))))
      have oa := Lib.hid (o9.out.keep hca (.inr (Nat.le_refl _)))
      clear hra hca o9 c9 s9
      go_wp2_with fail
      refine (l01Pick_any B w.heap.size wa.heap.size 5 [1, 2, 3, 0, 65] _ (Src.al hsa _) (by omega) (by omega) (lit_own hsa.here _ 5 rfl (by omega))).mono ?_
      rintro e wb ⟨rb, rfl, hrb, hsb, hcb⟩
      have hcb' : Chg w.heap.size (w.heap.size + 1) wa wb := (Chg.al _ _).trans hcb
      have cb := Lib.hid (ca.out.trans (hcb'.below (by omega) (.inl (Nat.le_refl _))))
      have ob := Lib.hid (oa.out.keep hcb' (.inr (Nat.le_refl _)))
      have hkN : k < N := by omega
      have hki : 0 ≤ (k : Int) ∧ (k : Int) < (N : Int) := by omega
      have hst := (Ow.n ob.out hN).stored k (.int .i64 rb)
      have hfr := (Ow.n ob.out hN).frozenAt k
      obtain ⟨old, hold⟩ := own_old (Ow.n ob.out hN) hkN
      have Hst := Lib.hid hst.1
      have Hb := Lib.hid (cb.out.setCell (p := ⟨g, k, none⟩) (by show w.heap.size ≤ g; omega) (.int .i64 rb))
      clear hrb hsb hcb hcb' hst oa ca cb ob hsa
      go_wp2_with fail
      go_ret
      have hfin : Is (wb.setCell ⟨g, k, none⟩ (.int .i64 rb)) (wb.setCell ⟨g, k, none⟩ (.int .i64 rb)).heap.size (.slice (some ⟨g, 0, none⟩) N c7) (L.set k rb) := (Ow.of_own (n := N) (lo := w.heap.size + 1) (by rw [List.map_set]; exact Hst.out)).is
      first | exact ⟨_, _, rfl, hfin, Hb.out⟩ | exact ⟨_, rfl, ⟨_, hfin⟩, Hb.out⟩ | exact ⟨_, rfl, _, hfin, Hb.out⟩
    · have h0' : (r9 == 0) = false := by rw [beq_eq_false_iff_ne]; exact h0
      clear h0
      by_cases h1 : r9 = 1
      · have h1' : (r9 == 1) = true := by simp [h1]
        clear h1
        go_wp2_with fail
        refine (l01Next_any B w.heap.size (N : Int) _ s9.out (by omega)).mono ?_
        rintro e wa ⟨ra, rfl, hra, hsa, hca⟩
        have hra1 := hra.2.1 (by omega)
        obtain ⟨k, rfl⟩ := Int.eq_ofNat_of_zero_le hra.1
        have ca := Lib.hid (c9.out.trans (hca.below (by omega) (.inl (Nat.le_refl _))))
        have oa := Lib.hid (o9.out.keep hca (.inr (Nat.le_refl _)))
        have hfin := Lib.hid (Is.take oa.out.is (k + 1) (by omega))
        have hk1 : 1 + (k : Int) = ((k + 1 : Nat) : Int) := by omega
        have hk2 : 0 ≤ ((k + 1 : Nat) : Int) ∧ ((k + 1 : Nat) : Int) ≤ (c7 : Int) := by omega
        have hk3 : k + 1 ≤ c7 := by omega
        have hk4 : 0 ≤ 1 + (k : Int) ∧ 1 + (k : Int) ≤ (c7 : Int) := by omega
        clear hra hca o9 c9 s9 oa hsa
        go_wp2_with fail
        go_ret
        first | exact ⟨_, _, rfl, hfin.out, ca.out⟩ | exact ⟨_, rfl, ⟨_, hfin.out⟩, ca.out⟩ | exact ⟨_, rfl, _, hfin.out, ca.out⟩
      · have h1' : (r9 == 1) = false := by rw [beq_eq_false_iff_ne]; exact h1
        clear h1
        by_cases h2 : r9 = 2
        · have h2' : (r9 == 2) = true := by simp [h2]
          clear h2
          have hi1 : (1 : Int) ≤ (N : Int) := by omega
          by_cases hc1 : c7 = 1
          · obtain rfl : N = 1 := by omega
            subst hc1
            have hnil := Lib.hid (show Is w9 w9.heap.size (.slice (some ⟨g, 0, none⟩) 0 0) [] from ⟨_, 0, 0, rfl, by omega, by unfold maxLen; omega, ⟨rfl, fun h => by omega⟩⟩)
            clear o9
            go_wp2_with fail
            go_ret
            first | exact ⟨_, _, rfl, hnil.out, c9.out⟩ | exact ⟨_, rfl, ⟨_, hnil.out⟩, c9.out⟩ | exact ⟨_, rfl, _, hnil.out, c9.out⟩
          · have hc2 : 2 ≤ c7 := by omega
            have hfin := Lib.hid (tail_is o9.out.is (by omega) hnc7 (by unfold maxLen; omega))
            clear o9
            go_wp2_with fail
            go_ret
            first | exact ⟨_, _, rfl, hfin.out, c9.out⟩ | exact ⟨_, rfl, ⟨_, hfin.out⟩, c9.out⟩ | exact ⟨_, rfl, _, hfin.out, c9.out⟩
        · have h2' : (r9 == 2) = false := by rw [beq_eq_false_iff_ne]; exact h2
          clear h2
          by_cases h3 : r9 = 3
          · have h3' : (r9 == 3) = true := by simp [h3]
            clear h3
            go_wp2_with fail
            refine (l01Next_any B w.heap.size 8 _ s9.out (by omega)).mono ?_
            rintro e wa ⟨ra, rfl, hra, hsa, hca⟩
            have hra0 := hra.1
            have hra1 := hra.2.1 (by omega)
            have za := hca.size
            have ca := Lib.hid (c9.out.trans (hca.below (by omega) (.inl (Nat.le_refl _))))
            have oa := Lib.hid (o9.out.keep hca (.inr (Nat.le_refl _)))
            have hal := al_w wa (.cells #[.int .i64 (1 + ra)] 2)
            obtain ⟨A9, n9, c9', e9, _, _, hrd9⟩ := oa.out.is.below hal
            cases e9
            have Hrd := Lib.hid hrd9
            have hown := World.ownsRow_lit (base := wa.heap.size) (e := 2) (size := 1) wa #[.int .i64 (1 + ra)] 1 (Nat.le_refl _) (by unfold maxLen; omega) rfl
            clear hra hca o9 s9 hrd9
            go_wp2_with (at_builtin; refine wp_append_ints rfl _ _ rfl wa.heap.size _ [1 + ra] rfl hown wa.heap.size _ N c7 L rfl Hrd.out (by simp; omega) (by simp) ?_)
            intro v' wb hownb hgrow
            have hfin := Lib.hid (is_of_own (xs := (1 + ra) :: L) (n := ((1 + ra) :: L).length) (by simpa using hownb))
            have Hb := Lib.hid ((ca.out.alloc (o := .cells #[.int .i64 (1 + ra)] 2) ca.out.size).grown hgrow (by simp; omega) (fun k e => by have := (hown.lt k e).1; omega))
            obtain ⟨Ab, cb, eb, _, _⟩ := own_shape hownb
            subst eb
            clear hownb hgrow hown Hrd oa ca
            go_wp2_with fail
            go_ret
            first | exact ⟨_, _, rfl, hfin.out, Hb.out⟩ | exact ⟨_, rfl, ⟨_, hfin.out⟩, Hb.out⟩ | exact ⟨_, rfl, _, hfin.out, Hb.out⟩
          · have h3' : (r9 == 3) = false := by rw [beq_eq_false_iff_ne]; exact h3
            clear h3
            by_cases h4 : r9 = 4
            · have h4' : (r9 == 4) = true := by simp [h4]
              clear h4
              go_wp2_with fail
              go_loopw [6, 7] (fun u i wr => ∃ (k : Nat) (S : Int), k ≤ 4 ∧ k ≤ N ∧ i = .int .i64 (k : Int) ∧ u = .int .i64 S ∧ (0 ≤ S ∧ S ≤ 64 * (k : Int)) ∧ Src wr B w.heap.size ∧ Chg w.heap.size (w.heap.size + 1) w9 wr) (fun _ i _ => 4 - (intOf i).toNat)
              case atStart => exact ⟨0, 0, by omega, by omega, rfl, rfl, by omega, s9.out, Chg.refl⟩
              case round =>
               as_aux_lemma =>
                obtain ⟨k, S, hk4, hkN, rfl, rfl, hS, hsr, hcr⟩ := hrel
                have zr := hcr.size
                go_wp2_with fail
                refine (l01Next_any B w.heap.size 4 _ hsr (by omega)).mono ?_
                rintro e wa ⟨ra, rfl, hra, hsa, hca⟩
                have hra0 := hra.1
                have hra1 := hra.2.1 (by omega)
                have hca' := hcr.trans hca
                have oa := Lib.hid (o9.out.keep hca' (.inr (Nat.le_refl _)))
                clear hra hca hsr hcr
                by_cases hle : (k : Int) ≤ ra
                · by_cases hlt : k < N
                  · have hlt' : (k : Int) < (N : Int) := by omega
                    have hcell : wa.cell? ⟨g, k, none⟩ = some (.int .i64 (gx L k)) := by rw [(Ow.n oa.out hN).cellAt k (by omega), map_gx _ _ (by rw [hN.out]; exact hlt)]
                    have hbd := hLb.out _ (gx_mem L k (by rw [hN.out]; exact hlt))
                    have hidx : 0 ≤ (k : Int) ∧ (k : Int) < (N : Int) := by omega
                    generalize gx L k = X at hcell hbd
                    go_wp2_with fail
                    go_roundw
                    case rel => exact ⟨k + 1, S + X, by omega, by omega, by go_num, rfl, by omega, hsa, hca'⟩
                    case measure => first | (simp [intOf]; done) | (simp [intOf]; omega)
                  · have hlt' : ¬ (k : Int) < (N : Int) := by omega
                    have hal := al_w wa (.cells #[.int .i64 (maxI S 1)] 2)
                    obtain ⟨A9, n9, c9', e9, _, _, hrd9⟩ := oa.out.is.below hal
                    cases e9
                    have Hrd := Lib.hid hrd9
                    have hown := World.ownsRow_lit (base := wa.heap.size) (e := 2) (size := 1) wa #[.int .i64 (maxI S 1)] 1 (Nat.le_refl _) (by unfold maxLen; omega) rfl
                    have ca := Lib.hid (c9.out.trans (hca'.below (by omega) (.inl (Nat.le_refl _))))
                    have hrunmax : ∀ (W : World) (ts : Array TypeId) (t : TypeId), (Builtin.max_ ts t #[.int .i64 S, .int .i64 1]).run Try.prog W = .ok (.int .i64 (maxI S 1)) W := fun W ts t => by rw [run_max_int2]; rfl
                    clear hrd9 oa hca' hsa
                    go_wp2_with (at_builtin; refine wp_append_ints rfl _ _ rfl wa.heap.size _ [maxI S 1] rfl hown wa.heap.size _ N c7 L rfl Hrd.out (by simp; omega) (by simp) ?_)
                    intro v' wb hownb hgrow
                    have hfin := Lib.hid (is_of_own (xs := maxI S 1 :: L) (n := (maxI S 1 :: L).length) (by simpa using hownb))
                    have hwa := ca.out.size
                    have Hb := Lib.hid ((ca.out.alloc (o := .cells #[.int .i64 (maxI S 1)] 2) ca.out.size).grown hgrow (by simp; omega) (fun k e => by have := (hown.lt k e).1; omega))
                    obtain ⟨Ab, cb, eb, _, _⟩ := own_shape hownb
                    subst eb
                    clear hownb hgrow hown Hrd ca
                    go_wp2_with fail
                    go_ret
                    first | exact ⟨_, _, rfl, hfin.out, Hb.out⟩ | exact ⟨_, rfl, ⟨_, hfin.out⟩, Hb.out⟩ | exact ⟨_, rfl, _, hfin.out, Hb.out⟩
                · have hal := al_w wa (.cells #[.int .i64 (maxI S 1)] 2)
                  obtain ⟨A9, n9, c9', e9, _, _, hrd9⟩ := oa.out.is.below hal
                  cases e9
                  have Hrd := Lib.hid hrd9
                  have hown := World.ownsRow_lit (base := wa.heap.size) (e := 2) (size := 1) wa #[.int .i64 (maxI S 1)] 1 (Nat.le_refl _) (by unfold maxLen; omega) rfl
                  have ca := Lib.hid (c9.out.trans (hca'.below (by omega) (.inl (Nat.le_refl _))))
                  have hrunmax : ∀ (W : World) (ts : Array TypeId) (t : TypeId), (Builtin.max_ ts t #[.int .i64 S, .int .i64 1]).run Try.prog W = .ok (.int .i64 (maxI S 1)) W := fun W ts t => by rw [run_max_int2]; rfl
                  clear hrd9 oa hca' hsa
                  go_wp2_with (at_builtin; refine wp_append_ints rfl _ _ rfl wa.heap.size _ [maxI S 1] rfl hown wa.heap.size _ N c7 L rfl Hrd.out (by simp; omega) (by simp) ?_)
                  intro v' wb hownb hgrow
                  have hfin := Lib.hid (is_of_own (xs := maxI S 1 :: L) (n := (maxI S 1 :: L).length) (by simpa using hownb))
                  have hwa := ca.out.size
                  have Hb := Lib.hid ((ca.out.alloc (o := .cells #[.int .i64 (maxI S 1)] 2) ca.out.size).grown hgrow (by simp; omega) (fun k e => by have := (hown.lt k e).1; omega))
                  obtain ⟨Ab, cb, eb, _, _⟩ := own_shape hownb
                  subst eb
                  clear hownb hgrow hown Hrd ca
                  go_wp2_with fail
                  go_ret
                  first | exact ⟨_, _, rfl, hfin.out, Hb.out⟩ | exact ⟨_, rfl, ⟨_, hfin.out⟩, Hb.out⟩ | exact ⟨_, rfl, _, hfin.out, Hb.out⟩
            · have h4' : (r9 == 4) = false := by rw [beq_eq_false_iff_ne]; exact h4
              clear h4
              have hfin := Lib.hid o9.out.is
              clear o9
              go_wp2_with fail
              go_ret
              first | exact ⟨_, _, rfl, hfin.out, c9.out⟩ | exact ⟨_, rfl, ⟨_, hfin.out⟩, c9.out⟩ | exact ⟨_, rfl, _, hfin.out, c9.out⟩
theorem DrawBranchOfSequence_any (B : Nat) (v : Value) (n : Nat) (w : World) (h : IsY w B v n) (hB : B ≤ w.heap.size) :
    Calls Try.prog 26 #[v] w fun e w' => ∃ v' xs, e = .returned v' ∧ Is w' w'.heap.size v' xs ∧ Below w.heap.size w w' := by
  go_enter Try.func26, Try.ntmps26
  go_wp2_with fail
  refine (l04Some_any B v n _ h hB).mono ?_
  rintro e w1 ⟨v1, xs, rfl, hi, hb⟩
  go_wp2_with fail
  go_ret
  first | exact ⟨_, _, rfl, hi, hb⟩ | exact ⟨_, rfl, _, hi, hb⟩ | exact ⟨_, rfl, ⟨_, hi⟩, hb⟩
end WF
end Go.Proofs.Ytcnoaclijhcckaa
