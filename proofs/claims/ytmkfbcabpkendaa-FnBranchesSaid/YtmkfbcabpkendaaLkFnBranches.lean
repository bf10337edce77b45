/-
  The law FnBranches returns true for every code.
  THE WALK THROUGH 'laws.FnBranches', out of the contracts of what it calls.
-/
import Derived.Test.YtmkfbcabpkendaaWlkF7
import Derived.Test.YtmkfbcabpkendaaWlkL8
import Derived.Test.YtmkfbcabpkendaaWlkC18
import Derived.Test.YtmkfbcabpkendaaWlkC8
import Derived.Deep.CutRange
namespace Go.Proofs.Ytmkfbcabpkendaa.fnBranches
open Go.RowKit
set_option linter.unusedVariables false
open Pl K WA WL WC WF
theorem big_any (B : Nat) (v : Value) (n : Nat) (w : World) (h : IsY w B v n) : Calls Try.prog 4 #[v] w fun e w' => e = .returned (.bool (decide (4096 < n))) ∧ w = w' := by
  obtain ⟨A, c, rfl, hnc, hcm, hrd⟩ := h
  unfold maxLen at hcm
  clear hrd
  by_cases h : 4096 < n
  · have h' : (4096 : Int) < (n : Int) := by omega
    go_enter Try.func4, Try.ntmps4
    go_wp2
    go_ret
    exact ⟨ret_b (by simp [h]), rfl⟩
  · have h' : ¬ (4096 : Int) < (n : Int) := by omega
    go_enter Try.func4, Try.ntmps4
    go_wp2
    go_ret
    exact ⟨ret_b (by first | (simp; done) | simp [h]), rfl⟩
/-- The first rows of some rows. -/
theorem IsR.take {w : World} {B m c : Nat} {A : Option Addr} {xss : List (List Int)} (h : IsR w B (.slice A m c) xss) (k : Nat) (hm : xss.length = m) (hk : k ≤ m) : IsR w B (.slice A k c) (xss.take k) := by
  obtain ⟨us, h⟩ := h
  obtain ⟨A', c', e, h1, h2, h3⟩ := h.sh
  cases e
  have hl := h.len
  have hlt : (xss.take k).length = k := by rw [List.length_take]; omega
  refine ⟨us.take k, ⟨by simp; omega, ⟨A, c, by rw [hlt], by omega, h2, fun hp => ?_⟩, fun i hi => ?_⟩⟩
  · rw [hlt] at hp ⊢
    obtain ⟨ad, e1, e2, e3⟩ := h3 (by omega)
    refine ⟨ad, e1, e2, fun j hj => ?_⟩
    rw [e3 j (by omega)]
    simp [ux, List.getD, hj]
  · rw [hlt] at hi
    have := h.each i (by omega)
    have e1 : ux (us.take k) i = ux us i := by simp [ux, List.getD, hi]
    have e2 : gxx (xss.take k) i = gxx xss i := by simp [gxx, List.getD, hi]
    rw [e1, e2]; exact this
/-- A variable that holds a list. -/
structure Vr (w : World) (p : Nat) (v : Value) (xs : List Int) : Prop where
  z : Rz w p v
  i : Is w w.heap.size v xs
theorem Vr.later {w w' : World} {p : Nat} {v : Value} {xs : List Int} (h : Vr w p v xs) (hb : Below w.heap.size w w') : Vr w' p v xs := ⟨h.z.later hb, (h.i.below hb).more hb.size⟩
theorem Vr.new {w : World} {v : Value} {xs : List Int} (h : Is w w.heap.size v xs) (t : TypeId) : Vr (w.alloc (.cells #[v] t)) w.heap.size v xs :=
  ⟨Rz.new w v t, (h.below ((Below.refl _ _).alloc (Nat.le_refl _) _)).more (by simp)⟩
section
variable {w W : World} {p : Nat} {q : Addr} {u v : Value}
theorem s3_al (h : Below w.heap.size w W ∧ W.cell? ⟨p, 0, none⟩ = some u ∧ W.cell? q = some v) (o : Obj) : Below w.heap.size w (W.alloc o) ∧ (W.alloc o).cell? ⟨p, 0, none⟩ = some u ∧ (W.alloc o).cell? q = some v :=
  ⟨h.1.alloc h.1.size o, cell_alloc h.2.1 o, cell_alloc h.2.2 o⟩
theorem s3_set (h : Below w.heap.size w W ∧ W.cell? ⟨p, 0, none⟩ = some u ∧ W.cell? q = some v) (r : Nat) (x : Value) (hr : w.heap.size ≤ r) (h1 : p ≠ r) (h2 : q.block ≠ r) :
    Below w.heap.size w (W.setCell ⟨r, 0, none⟩ x) ∧ (W.setCell ⟨r, 0, none⟩ x).cell? ⟨p, 0, none⟩ = some u ∧ (W.setCell ⟨r, 0, none⟩ x).cell? q = some v :=
  ⟨h.1.setCell (p := ⟨r, 0, none⟩) hr _, cell_far (q := ⟨p, 0, none⟩) h.2.1 h1, cell_far h.2.2 h2⟩
end
theorem al_below (w : World) (o : Obj) : Below w.heap.size w (w.alloc o) := (Below.refl _ _).alloc (Nat.le_refl _) o
set_option maxRecDepth 16384 in
set_option maxHeartbeats 12800000 in
theorem walk (w : World) (v0 : Value) (n0 : Nat) (is0 : IsY w w.heap.size v0 n0) :
    Calls Try.prog 3 #[v0] w fun e w' => e = .returned (.bool true) ∧ Below w.heap.size w w' := by
  have Hy := Lib.hid is0
  have hshape := is0
  obtain ⟨A0, c0, hv0, _, _, _⟩ := hshape
  subst hv0
  by_cases hbig : 4096 < n0
  · have hbd : decide (4096 < n0) = true := by simp [hbig]
    go_enter Try.func3, Try.ntmps3
    go_wp2_with fail
    refine (big_any _ _ n0 _ Hy.out).mono ?_
    rintro e w' ⟨rfl, rfl⟩
    rw [hbd]
    go_wp2
    go_ret
    exact ⟨rfl, Below.refl _ _⟩
  · have hbd : decide (4096 < n0) = false := by simp [hbig]
    clear hbig is0
    go_enter Try.func3, Try.ntmps3
    go_wp2_with fail
    refine (big_any _ _ n0 _ Hy.out).mono ?_
    rintro e w' ⟨rfl, rfl⟩
    rw [hbd]
    go_wp2_with fail
    refine (DrawPuiseuxPairs_any _ _ n0 _ Hy.out (Nat.le_refl _)).mono ?_
    rintro e w1 ⟨v1, xs, rfl, i1, hb1⟩
    have hz1 := hb1.size
    have ha1 := (Below.refl w1.heap.size w1).alloc (Nat.le_refl _) (.cells #[v1] 26)
    have i2 := Lib.hid (i1.below ha1)
    have x2 := Lib.hid (Rz.new w1 v1 26)
    have hb2 := Lib.hid (hb1.trans (ha1.mono hz1))
    obtain ⟨A, n, c, rfl, hnc, hcm, hrd⟩ := i1
    have Hn := Lib.hid hrd.len
    unfold maxLen at hcm
    clear hrd ha1 hb1
    go_upto_region 4 with fail
    obtain ⟨w2, hw2⟩ : ∃ w2, w2 = w1.alloc (.cells #[.slice A n c] 26) := ⟨_, rfl⟩
    have hz2 : w1.heap.size + 1 ≤ w2.heap.size := by rw [hw2]; simp
    rw [← hw2] at i2 x2 hb2 ⊢
    clear hw2
    have x2c := x2.out.1
    obtain ⟨z, hz⟩ : ∃ z, Hid ((puiB xs).2 = z) := ⟨_, Lib.hid rfl⟩
    obtain ⟨P, hP⟩ : ∃ P, Hid ((puiB xs).1 = P) := ⟨_, Lib.hid rfl⟩
    obtain ⟨m, Hm⟩ : ∃ m, Hid (P.length = m) := ⟨_, Lib.hid rfl⟩
    go_wp2_with fail
    refine (PuiseuxPairs_any w1.heap.size _ xs _ i2.out (by omega)).mono ?_
    rintro e w3 ⟨v3, rfl, o3, hb3⟩
    rw [hz.out]
    rw [hP.out] at o3
    have hz3 := hb3.size
    have x3 := Lib.hid (x2.out.later hb3)
    have i3 := Lib.hid (i2.out.below (hb3.mono (by omega)))
    have x3c := x3.out.1
    have hB3 := Lib.hid (hb2.out.trans (hb3.mono (by omega)))
    clear hb3
    go_wp2_with fail
    refine (sPuiseuxPairs_any w1.heap.size _ xs _ i3.out (by omega)).mono ?_
    rintro e w4 ⟨v4, rfl, o4, hb4⟩
    rw [hz.out]
    rw [hP.out] at o4
    have hz4 := hb4.size
    have x4 := Lib.hid (x3.out.later hb4)
    have i4 := Lib.hid (i3.out.below (hb4.mono (by omega)))
    have x4c := x4.out.1
    have hB4 := Lib.hid (hB3.out.trans (hb4.mono (by omega)))
    have r3 := Lib.hid (o3.later hb4).is
    have r4 := Lib.hid o4.is
    obtain ⟨us3, U3⟩ := o3
    obtain ⟨us4, U4⟩ := o4
    obtain ⟨A3, c3, e3, hnc3, hcm3⟩ := own_shape U3.row
    obtain ⟨A4, c4, e4, hnc4, hcm4⟩ := own_shape U4.row
    subst e3
    subst e4
    have hA3 := Lib.hid (show (A3 = none ∧ m = 0 ∧ c3 = 0) ∨ ∃ g, A3 = some ⟨g, 0, none⟩ by
      rcases U3.row.2 with ⟨e, h0⟩ | ⟨g, cap, cur, e, _⟩
      · simp only [Value.slice.injEq] at e; exact .inl ⟨e.1, by rw [← Hm.out]; exact h0, e.2.2⟩
      · simp only [Value.slice.injEq] at e; exact .inr ⟨g, e.1⟩)
    rw [Hm.out] at r3 r4 hnc3 hnc4 ⊢
    clear hb4 U3 U4 x2 x3 i2 i3 x2c x3c hB3 hb2
    go_upto_region 6 with fail
    have hzz : (z != z) = false := by simp
    have hPP : (P == P) = true := by simp
    have hII : (isBr xs != isBr xs) = false := by simp
    go_wp2_with fail
    go_region_held3 (fun W => Below w4.heap.size w4 W ∧ W.cell? ⟨w1.heap.size, 0, none⟩ = some (.slice A n c)) (first | exact ⟨(Below.refl _ _).drew, x4c⟩ | exact qq | assumption)
      (first
        | (go_at_call 8; obtain ⟨sb, sc⟩ := (by assumption : Below w4.heap.size w4 _ ∧ _); refine (likeRows5_any _ _ _ _ P P _ (r3.out.below sb) (r4.out.below sb) sb.size sb.size).mono ?_; rintro e w5 ⟨rfl, hbq⟩; rw [hPP]; have qq := And.intro (sb.trans (hbq.mono sb.size)) ((hbq.cell (p := ⟨w1.heap.size, 0, none⟩) (World.block_lt_of_cell? _ ⟨w1.heap.size, 0, none⟩ sc)).trans sc); clear sb sc)
        | (go_at_call 9; obtain ⟨sb, sc⟩ := (by assumption : Below w4.heap.size w4 _ ∧ _); refine (IsBranch_any w1.heap.size _ xs _ (i4.out.below (sb.mono (by omega))) (by have := sb.size; omega)).mono ?_; rintro e w6 ⟨rfl, hbq⟩; have qq := And.intro (sb.trans (hbq.mono sb.size)) ((hbq.cell (p := ⟨w1.heap.size, 0, none⟩) (World.block_lt_of_cell? _ ⟨w1.heap.size, 0, none⟩ sc)).trans sc); clear sb sc)
        | (go_at_call 10; obtain ⟨sb, sc⟩ := (by assumption : Below w4.heap.size w4 _ ∧ _); refine (sIsBranch_any w1.heap.size _ xs _ (i4.out.below (sb.mono (by omega))) (by have := sb.size; omega)).mono ?_; rintro e w7 ⟨rfl, hbq⟩; have qq := And.intro (sb.trans (hbq.mono sb.size)) ((hbq.cell (p := ⟨w1.heap.size, 0, none⟩) (World.block_lt_of_cell? _ ⟨w1.heap.size, 0, none⟩ sc)).trans sc); clear sb sc))
    have hz7 := qq.1.size
    have hB7 := Lib.hid (hB4.out.trans (qq.1.mono (by omega)))
    have V7 := Lib.hid (show Vr w7 w1.heap.size (.slice A n c) xs from ⟨x4.out.later qq.1, (i4.out.below (qq.1.mono (by omega))).more (by omega)⟩)
    have R7 := Lib.hid (r3.out.below qq.1)
    clear r3 r4 x4 i4 x4c hB4 hPP hII hbq qq
    go_upto_if 70 with fail
    go_cut [8, 9, 10, 11, 12, 13, 14, 15, 16, 17, 18, 19, 20, 21, 22, 23, 24, 25, 26, 27, 28] from 39 to 313 (fun _ _ _ _ _ _ _ _ _ _ _ _ _ _ _ _ _ _ _ _ _ wx => ∃ hc : Below w.heap.size w wx, True)
    case first =>
     as_aux_lemma =>
      by_cases hz0 : z = 0
      · have hzb : (z == 0) = true := by simp [hz0]
        have hbr : isBr xs = true := by
          have h1 := hz.out
          unfold puiB at h1
          split at h1
          · rename_i h; exact h
          · rw [hz0] at h1; cases h1
        have HP := Lib.hid (show P = puiL xs (xs.length - 1) by rw [← hP.out]; unfold puiB; rw [if_pos hbr])
        have h0 := br0 hbr
        have h7 := isBr_len_le hbr
        have hnm := Lib.hid (show n = m + 1 by rw [← Hm.out, HP.out, puiL_len]; rw [Hn.out] at h0 ⊢; omega)
        have hm6 : m ≤ 6 := by have := hnm.out; rw [Hn.out] at h7; omega
        have Hbr := Lib.hid hbr
        clear hz0 hz hP hzz h0 h7 hbr
        have v7c := V7.out.z.1
        have hb1e := Lib.hid (show bopB false P = (xs, 0) by rw [HP.out]; exact bop_pui Hbr.out)
        go_wp2_with fail
        refine (BranchOfPuiseux_any w4.heap.size _ P _ R7.out hz7).mono ?_
        rintro e w8 ⟨u8, rfl, o8, hb8⟩
        rw [show (bopB false P).2 = 0 by rw [hb1e.out]]
        rw [show (bopB false P).1 = xs by rw [hb1e.out]] at o8
        have hB8 := Lib.hid (hB7.out.trans (hb8.mono hB7.out.size))
        have V8 := Lib.hid (V7.out.later hb8)
        have R8 := Lib.hid (R7.out.below (hb8.mono hz7))
        have L8 := Lib.hid o8.is
        have hz8 := hb8.size
        obtain ⟨A8, c8, rfl, _, _⟩ := o8.shape
        rw [Hn.out] at L8 ⊢
        clear hb8 o8 V7 R7 v7c hB7
        -- the variable of the first branch
        have ha := al_below w8 (.cells #[.slice A8 n c8] 26)
        have VC := Lib.hid (Vr.new L8.out 26)
        have V9 := Lib.hid (V8.out.later ha)
        have R9 := Lib.hid (R8.out.below (ha.mono (by omega)))
        have hB9 := Lib.hid (hB8.out.trans (ha.mono hB8.out.size))
        have hv9 := V9.out.z.1
        clear ha V8 R8 hB8 L8
        go_upto_region 10 with fail
        obtain ⟨w9, hw9⟩ : ∃ w9, w9 = w8.alloc (.cells #[.slice A8 n c8] 26) := ⟨_, rfl⟩
        have hz9 : w8.heap.size + 1 ≤ w9.heap.size := by rw [hw9]; simp
        rw [← hw9] at VC V9 R9 hB9 hv9 ⊢
        clear hw9
        go_wp2_with fail
        refine (NewtonPairs_any _ _ xs _ V9.out.i (Nat.le_refl _)).mono ?_
        rintro e w10 ⟨u10, rfl, o10, hb10⟩
        have hn2e := Lib.hid (show newB xs = (newL xs (xs.length - 1), 0) by unfold newB; rw [if_pos Hbr.out])
        rw [show (newB xs).2 = 0 by rw [hn2e.out]]
        rw [show (newB xs).1 = newL xs (xs.length - 1) by rw [hn2e.out]] at o10
        have hz10 := hb10.size
        have hB10 := Lib.hid (hB9.out.trans (hb10.mono hB9.out.size))
        have VC10 := Lib.hid (VC.out.later hb10)
        have V10 := Lib.hid (V9.out.later hb10)
        have R10 := Lib.hid (R9.out.below (hb10.mono (by omega)))
        have N10 := Lib.hid o10.is
        obtain ⟨us10, U10⟩ := o10
        obtain ⟨A10, c10, e10, _, _⟩ := own_shape U10.row
        subst e10
        have Hlm := Lib.hid (show (newL xs (xs.length - 1)).length = m by rw [newL_len, Hn.out]; have := hnm.out; omega)
        rw [Hlm.out] at N10 ⊢
        have hbne := Lib.hid (bop_new Hbr.out)
        clear hb10 U10 VC V9 R9 hB9 hv9
        go_wp2_with fail
        refine (BranchOfNewton_any w10.heap.size _ (newL xs (xs.length - 1)) _ N10.out (Nat.le_refl _)).mono ?_
        rintro e w11 ⟨u11, rfl, o11, hb11⟩
        rw [show (bopB true (newL xs (xs.length - 1))).2 = 0 by rw [hbne.out]]
        rw [show (bopB true (newL xs (xs.length - 1))).1 = xs by rw [hbne.out]] at o11
        have L11 := Lib.hid o11.is
        obtain ⟨A11, c11, rfl, _, _⟩ := o11.shape
        rw [Hn.out] at L11 ⊢
        have hz11 := hb11.size
        have hB11 := Lib.hid (hB10.out.trans (hb11.mono hB10.out.size))
        have VC11 := Lib.hid (VC10.out.later hb11)
        have V11 := Lib.hid (V10.out.later hb11)
        have R11 := Lib.hid (R10.out.below (hb11.mono (by omega)))
        have ha := al_below w11 (.cells #[.slice A11 n c11] 26)
        have VD := Lib.hid (Vr.new L11.out 26)
        have VC12 := Lib.hid (VC11.out.later ha)
        have V12 := Lib.hid (V11.out.later ha)
        have R12 := Lib.hid (R11.out.below (ha.mono (by omega)))
        have hB12 := Lib.hid (hB11.out.trans (ha.mono hB11.out.size))
        clear ha hb11 VC10 V10 R10 hB10 N10 VC11 V11 R11 hB11 L11 o11
        go_upto_region 12 with fail
        obtain ⟨w12, hw12⟩ : ∃ w12, w12 = w11.alloc (.cells #[.slice A11 n c11] 26) := ⟨_, rfl⟩
        have hz12 : w11.heap.size + 1 ≤ w12.heap.size := by rw [hw12]; simp
        rw [← hw12] at VD VC12 V12 R12 hB12 ⊢
        clear hw12
        have hbx1 := Lib.hid (show (bex (gx xs 0) (xs.drop 1)).1 = xs by rw [bex_back Hbr.out])
        have hbx2 := Lib.hid (show (bex (gx xs 0) (xs.drop 1)).2 = 0 by rw [bex_back Hbr.out])
        have hn1 : 1 ≤ n := by have := hnm.out; omega
        obtain ⟨ad, eA, hab, hca⟩ : ∃ ad, A = some ad ∧ ad.block < w12.heap.size ∧ w12.cell? ad = some (.int .i64 (gx xs 0)) := by
          obtain ⟨A9, n9, c9, e9, _, _, hrd9⟩ := V12.out.i
          cases e9
          obtain ⟨ad, e, h1, h2⟩ := hrd9.pos (by omega)
          exact ⟨ad, e, h1, by have := h2 0 (by omega); simpa [Addr.add] using this⟩
        subst eA
        have hv12 := V12.out.z.1
        have hi0 : (0 : Int) < (n : Int) := by omega
        have hi00 : 0 < n := by omega
        have hi1 : (1 : Int) ≤ (n : Int) := by omega
        obtain ⟨vt, hvt, HT⟩ : ∃ vt : Value, Hid (vt = if c = 1 then .slice (some ad) (n - 1) 0 else .slice (some ⟨ad.block, ad.off + 1, none⟩) (n - 1) (c - 1)) ∧ Hid (Is w12 w12.heap.size vt (xs.drop 1)) := by
          refine ⟨_, Lib.hid rfl, Lib.hid ?_⟩
          split
          · have : n = 1 := by omega
            refine ⟨some ad, n - 1, 0, rfl, by omega, by unfold maxLen; omega, ⟨by simp [Hn.out], fun h => by omega⟩⟩
          · exact is_tail V12.out.i hn1 hnc (by unfold maxLen; omega)
        go_cut [14, 15] from 86 to 96 (fun a b wx => ∃ (p : Nat) (A14 : Option Addr) (c14 : Nat), a = .pointer (some ⟨p, 0, none⟩) ∧ b = .int .i64 0 ∧ Hid (Vr wx p (.slice A14 n c14) xs) ∧ Below w12.heap.size w12 wx)
        case first =>
         as_aux_lemma =>
          by_cases hc1 : c = 1
          · have hn1' : n = 1 := by omega
            have hvt2 : vt = .slice (some ad) 0 0 := by have := hvt.out; rw [if_pos hc1, hn1'] at this; exact this
            subst hvt2
            subst hc1
            subst hn1'
            clear hvt
            go_wp2_with fail
            go_region_held3 (fun W => Below w12.heap.size w12 W ∧ W.cell? ⟨w1.heap.size, 0, none⟩ = some (.slice (some ad) 1 1) ∧ W.cell? ad = some (.int .i64 (gx xs 0))) (first | exact ⟨(Below.refl _ _).drew, hv12, hca⟩ | exact qq | exact s3_al qq _ | exact s3_al ⟨(Below.refl _ _).drew, hv12, hca⟩ _ | exact s3_set qq _ _ (Nat.le_refl _) (by omega) (by omega) | exact s3_set (s3_al qq _) _ _ (by have := qq.1.size; omega) (by have := qq.1.size; omega) (by have := qq.1.size; omega) | assumption)
              (first
                | (go_at_call 14; obtain ⟨sb, sc, sd⟩ := (by assumption : Below w12.heap.size w12 _ ∧ _); refine (BranchOfExponents_any w12.heap.size (gx xs 0) _ (xs.drop 1) _ (HT.out.below sb) sb.size).mono ?_; rintro e w14 ⟨v14, rfl, o14, hb14⟩; rw [hbx2.out]; rw [hbx1.out] at o14; obtain ⟨A14, c14, e14, _, _⟩ := o14.shape; subst e14; rw [Hn.out] at o14 ⊢; (first | (have q5 := Rz.later (w' := w14) (b := w12.heap.size) (u := .slice none 0 0) (by exact Rz.new w12 _ 26) hb14; have q6 := q5.1; have q7 := q5.2) | skip); have qq := And.intro (sb.trans (hb14.mono sb.size)) (And.intro ((hb14.cell (p := ⟨w1.heap.size, 0, none⟩) (World.block_lt_of_cell? _ ⟨w1.heap.size, 0, none⟩ sc)).trans sc) ((hb14.cell (World.block_lt_of_cell? _ _ sd)).trans sd)); clear sb sc sd))
            · rename_i hH
              go_wp2
              go_meet
              exact ⟨w14.heap.size, A14, c14, rfl, rfl, Lib.hid (Vr.new o14.is 26), hH.1⟩
            · rename_i hH
              go_wp2
              go_meet
              refine ⟨w12.heap.size, A14, c14, rfl, rfl, Lib.hid ⟨q5.set _, ?_⟩, hH.1⟩
              exact (Il.chg (Ow.il o14 (lo' := w12.heap.size + 1) (by simp)) (Chg.setC (lo := w12.heap.size) (hi := w12.heap.size + 1) (p := ⟨w12.heap.size, 0, none⟩) ⟨Nat.le_refl _, Nat.lt_succ_self _⟩ _) (Nat.le_refl _)).1
          · have hvt2 : vt = .slice (some ⟨ad.block, ad.off + 1, none⟩) (n - 1) (c - 1) := by have := hvt.out; rw [if_neg hc1] at this; exact this
            subst hvt2
            have hc2 : 2 ≤ c := by omega
            clear hvt
            go_wp2_with fail
            go_region_held3 (fun W => Below w12.heap.size w12 W ∧ W.cell? ⟨w1.heap.size, 0, none⟩ = some (.slice (some ad) n c) ∧ W.cell? ad = some (.int .i64 (gx xs 0))) (first | exact ⟨(Below.refl _ _).drew, hv12, hca⟩ | exact qq | exact s3_al qq _ | exact s3_al ⟨(Below.refl _ _).drew, hv12, hca⟩ _ | exact s3_set qq _ _ (Nat.le_refl _) (by omega) (by omega) | exact s3_set (s3_al qq _) _ _ (by have := qq.1.size; omega) (by have := qq.1.size; omega) (by have := qq.1.size; omega) | assumption)
              (first
                | (go_at_call 14; obtain ⟨sb, sc, sd⟩ := (by assumption : Below w12.heap.size w12 _ ∧ _); refine (BranchOfExponents_any w12.heap.size (gx xs 0) _ (xs.drop 1) _ (HT.out.below sb) sb.size).mono ?_; rintro e w14 ⟨v14, rfl, o14, hb14⟩; rw [hbx2.out]; rw [hbx1.out] at o14; obtain ⟨A14, c14, e14, _, _⟩ := o14.shape; subst e14; rw [Hn.out] at o14 ⊢; (first | (have q5 := Rz.later (w' := w14) (b := w12.heap.size) (u := .slice none 0 0) (by exact Rz.new w12 _ 26) hb14; have q6 := q5.1; have q7 := q5.2) | skip); have qq := And.intro (sb.trans (hb14.mono sb.size)) (And.intro ((hb14.cell (p := ⟨w1.heap.size, 0, none⟩) (World.block_lt_of_cell? _ ⟨w1.heap.size, 0, none⟩ sc)).trans sc) ((hb14.cell (World.block_lt_of_cell? _ _ sd)).trans sd)); clear sb sc sd))
            · rename_i hH
              go_wp2
              go_meet
              exact ⟨w14.heap.size, A14, c14, rfl, rfl, Lib.hid (Vr.new o14.is 26), hH.1⟩
            · rename_i hH
              go_wp2
              go_meet
              refine ⟨w12.heap.size, A14, c14, rfl, rfl, Lib.hid ⟨q5.set _, ?_⟩, hH.1⟩
              exact (Il.chg (Ow.il o14 (lo' := w12.heap.size + 1) (by simp)) (Chg.setC (lo := w12.heap.size) (hi := w12.heap.size + 1) (p := ⟨w12.heap.size, 0, none⟩) ⟨Nat.le_refl _, Nat.lt_succ_self _⟩ _) (Nat.le_refl _)).1
        case rest =>
         as_aux_lemma =>
          obtain ⟨p14, A14, c14, rfl, rfl, V14, hbc⟩ := hcut
          have hzc := hbc.size
          have VCc := Lib.hid (VC12.out.later hbc)
          have Vc := Lib.hid (V12.out.later hbc)
          have VDc := Lib.hid (VD.out.later hbc)
          have Rc := Lib.hid (R12.out.below (hbc.mono (by omega)))
          have hBc := Lib.hid (hB12.out.trans (hbc.mono hB12.out.size))
          have hcac := (hbc.cell hab).trans hca
          have habc : ad.block < wc.heap.size := by omega
          have hvc := Vc.out.z.1
          clear VC12 V12 VD R12 hB12 hvt HT hbx1 hbx2 hbc hca hab hv12
          go_wp2_with fail
          refine (DivisorsOf_any _ _ xs _ Vc.out.i (Nat.le_refl _)).mono ?_
          rintro e w15 ⟨u15, rfl, o15, hb15⟩
          have hdve := Lib.hid (show divB xs = (divs xs, 0) by unfold divB; rw [if_pos Hbr.out])
          rw [show (divB xs).2 = 0 by rw [hdve.out]]
          rw [show (divB xs).1 = divs xs by rw [hdve.out]] at o15
          have Ld := Lib.hid (show (divs xs).length = n by rw [divs_len]; exact Hn.out)
          obtain ⟨A15, n15, c15, e15, hnc15, hcm15, hrd15⟩ := o15.is
          obtain rfl : n15 = n := by have := hrd15.len; rw [Ld.out] at this; exact this.symm
          subst e15
          obtain ⟨a15, e15, hab15, hcl15⟩ := hrd15.pos (by omega)
          subst e15
          have Dv := Lib.hid (show ∀ j, j < n15 → w15.cell? (a15.add j) = some (.int .i64 (dg xs (j + 1))) from fun j hj => by rw [hcl15 j hj, gx_divs _ _ (by rw [Hn.out]; exact hj)])
          have hz15 := hb15.size
          have V15 := Lib.hid (Vc.out.later hb15)
          have VC15 := Lib.hid (VCc.out.later hb15)
          have VD15 := Lib.hid (VDc.out.later hb15)
          have VE15 := Lib.hid (V14.out.later hb15)
          have R15 := Lib.hid (Rc.out.below (hb15.mono (by omega)))
          have hB15 := Lib.hid (hBc.out.trans (hb15.mono hBc.out.size))
          have hca15 := (hb15.cell habc).trans hcac
          have hv15 := V15.out.z.1
          unfold maxLen at hcm15
          clear hb15 Vc VCc VDc V14 Rc hBc hcac hvc o15 hrd15 hcl15 hdve
          go_wp2_with fail
          refine (CountPairs_any _ _ xs _ V15.out.i (Nat.le_refl _)).mono ?_
          rintro e w16 ⟨rfl, hb16⟩
          rw [show (cntB xs).2 = 0 by unfold cntB; rw [if_pos Hbr.out], show (cntB xs).1 = (n15 : Int) - 1 by unfold cntB; rw [if_pos Hbr.out, Hn.out]]
          have hv16 := (V15.out.later hb16).z.1
          have V16 := Lib.hid (V15.out.later hb16)
          go_wp2_with fail
          refine (MultiplicityOf_any _ _ xs _ V16.out.i (Nat.le_refl _)).mono ?_
          rintro e w17 ⟨rfl, hb17⟩
          rw [show (mulB xs).2 = 0 by unfold mulB; rw [if_pos Hbr.out], show (mulB xs).1 = gx xs 0 by unfold mulB; rw [if_pos Hbr.out]]
          have hb157 := hb16.trans (hb17.mono hb16.size)
          have hz17 := hb157.size
          have V17 := Lib.hid (V15.out.later hb157)
          have VC17 := Lib.hid (VC15.out.later hb157)
          have VD17 := Lib.hid (VD15.out.later hb157)
          have VE17 := Lib.hid (VE15.out.later hb157)
          have R17 := Lib.hid (R15.out.below (hb157.mono (by omega)))
          have hB17 := Lib.hid (hB15.out.trans (hb157.mono hB15.out.size))
          have hca17 := (hb157.cell (by omega)).trans hca15
          have Dv17 := Lib.hid (show ∀ j, j < n15 → w17.cell? (a15.add j) = some (.int .i64 (dg xs (j + 1))) from fun j hj => (hb157.cell (by rw [block_of_add]; exact hab15)).trans (Dv.out j hj))
          clear hb16 hb17 hb157 V15 VC15 VD15 VE15 R15 hB15 hca15 Dv hv15 hv16 V16
          have g1 := V17.out.z.1; have g2 := VC17.out.z.1
          obtain ⟨G, hG⟩ : ∃ G, Hid (gx xs 0 = G) := ⟨_, Lib.hid rfl⟩
          rw [hG.out] at hca17 ⊢
          go_wp2_with fail
          refine (likeInts_any _ _ _ _ xs xs _ VC17.out.i V17.out.i (Nat.le_refl _) (Nat.le_refl _)).mono ?_
          rintro e w18 ⟨rfl, hb18⟩
          rw [show (xs == xs) = true by simp]
          have g1 := (V17.out.later hb18).z.1; have g2 := (VD17.out.later hb18).z.1
          go_wp2_with fail
          refine (likeInts_any _ _ _ _ xs xs _ (VD17.out.later hb18).i (V17.out.later hb18).i (Nat.le_refl _) (Nat.le_refl _)).mono ?_
          rintro e w19 ⟨rfl, hb19⟩
          rw [show (xs == xs) = true by simp]
          have hb179 := hb18.trans (hb19.mono hb18.size)
          have g1 := (V17.out.later hb179).z.1; have g2 := (VE17.out.later hb179).z.1
          go_wp2_with fail
          refine (likeInts_any _ _ _ _ xs xs _ (VE17.out.later hb179).i (V17.out.later hb179).i (Nat.le_refl _) (Nat.le_refl _)).mono ?_
          rintro e w20 ⟨rfl, hb20⟩
          rw [show (xs == xs) = true by simp]
          have hb170 := hb179.trans (hb20.mono hb179.size)
          have hz20 := hb170.size
          have V20 := Lib.hid (V17.out.later hb170)
          have R20 := Lib.hid (R17.out.below (hb170.mono (by omega)))
          have hB20 := Lib.hid (hB17.out.trans (hb170.mono hB17.out.size))
          have hca20 := (hb170.cell (by omega)).trans hca17
          have Dv20 := Lib.hid (show ∀ j, j < n15 → w20.cell? (a15.add j) = some (.int .i64 (dg xs (j + 1))) from fun j hj => (hb170.cell (by rw [block_of_add]; omega)).trans (Dv17.out j hj))
          clear hb18 hb19 hb179 hb20 hb170 V17 VC17 VD17 VE17 R17 hB17 hca17 Dv17 g1 g2
          have g1 := V20.out.z.1
          have d0 : w20.cell? a15 = some (.int .i64 G) := by have := Dv20.out 0 hi00; rw [dg_br1 Hbr.out, hG.out] at this; simpa [Addr.add] using this
          have dm : w20.cell? (a15.add m) = some (.int .i64 1) := by have := Dv20.out m (by have := hnm.out; omega); rw [← hnm.out, ← Hn.out, dg_last Hbr.out] at this; exact this
          have hmi : 0 ≤ (m : Int) ∧ (m : Int) < (n15 : Int) := by have := hnm.out; omega
          have hmi2 : m < n15 := by have := hnm.out; omega
          have t1 : (G != G) = false := by simp
          have t2 : ((n15 : Int) - 1 != (m : Int)) = false := by have := hnm.out; simp; omega
          have t3 : ((n15 : Int) != (m : Int) + 1) = false := by have := hnm.out; simp; omega
          have t4 : ((m : Int) != (m : Int)) = false := by simp
          go_upto_region 18 with fail
          clear d0 dm t1 t2 t3 t4 hca20 hmi hmi2 g1
          go_wp2_with fail
          go_loopw [22] (fun i wr => ∃ k : Nat, k ≤ m ∧ i = .int .i64 (k : Int) ∧ Below w20.heap.size w20 wr) (fun i _ => m - (intOf i).toNat)
          case atStart => exact ⟨0, Nat.zero_le _, rfl, Below.refl _ _⟩
          case round =>
           as_aux_lemma =>
            obtain ⟨k, hk, rfl, hbe⟩ := hrel
            have hzr := hbe.size
            by_cases hlt : k < m
            · obtain ⟨us, hU⟩ := R20.out
              obtain ⟨A9, c9, e9, _, _, hcl⟩ := hU.sh
              rw [Hm.out] at e9 hcl
              cases e9
              obtain ⟨a3, rfl, hab3, hcl3⟩ := hcl (by omega)
              have hrow := hU.each k (by rw [Hm.out]; exact hlt)
              have hPk := Lib.hid (show gxx P k = [gx xs (k + 1) / dg xs (k + 2), dg xs (k + 1) / dg xs (k + 2)] by rw [HP.out]; unfold puiL; rw [gxx_range _ _ _ (by rw [Hn.out]; have := hnm.out; omega)])
              rw [hPk.out] at hrow
              obtain ⟨Ak, nk, ck, euk, hnck, hcmk, hrdk⟩ := hrow
              obtain rfl : nk = 2 := by have := hrdk.len; simpa using this.symm
              obtain ⟨ak, rfl, habk, hclk⟩ := hrdk.pos (by omega)
              have q0 : wr.cell? (a3.add k) = some (.slice (some ak) 2 ck) := (hbe.cell (by rw [block_of_add]; omega)).trans (by rw [hcl3 k hlt, euk])
              obtain ⟨d1, hd1⟩ : ∃ d1, Hid (dg xs (k + 1) = d1) := ⟨_, Lib.hid rfl⟩
              obtain ⟨d2, hd2⟩ : ∃ d2, Hid (dg xs (k + 2) = d2) := ⟨_, Lib.hid rfl⟩
              obtain ⟨q, hq⟩ : ∃ q, Hid (dg xs (k + 1) / dg xs (k + 2) = q) := ⟨_, Lib.hid rfl⟩
              have q1 : wr.cell? ⟨ak.block, ak.off + 1, none⟩ = some (.int .i64 q) := (hbe.cell (p := ⟨ak.block, ak.off + 1, none⟩) (by show ak.block < _; omega)).trans (by have := hclk 1 (by omega); rw [gx_two1, hq.out] at this; simpa [Addr.add] using this)
              have q2 : wr.cell? (a15.add k) = some (.int .i64 d1) := (hbe.cell (by rw [block_of_add]; omega)).trans (by rw [← hd1.out]; exact Dv20.out k (by have := hnm.out; omega))
              have q3 : wr.cell? ⟨a15.block, a15.off + (k + 1), none⟩ = some (.int .i64 d2) := (hbe.cell (p := ⟨a15.block, a15.off + (k + 1), none⟩) (by show a15.block < _; omega)).trans (by rw [← hd2.out]; have := Dv20.out (k + 1) (by have := hnm.out; omega); simpa [Addr.add] using this)
              have hmul : d2 * q = d1 := by rw [← hd1.out, ← hd2.out, ← hq.out, Int.mul_comm]; exact rat_mul Hbr.out (k + 1) (by omega)
              have hd1b : 1 ≤ d1 ∧ d1 ≤ 64 := by rw [← hd1.out]; exact isBr_dg Hbr.out (k + 1) (by omega)
              have hw1 : IntKind.i64.wrap (d2 * q) = d1 := by rw [hmul]; exact IntWalk.i64_in _ (by omega)
              have hw2 : IntKind.i64.wrap ((k : Int) + 1) = (k : Int) + 1 := IntWalk.i64_in _ (by omega)
              have hi1 : 0 ≤ (k : Int) ∧ (k : Int) < (m : Int) := by omega
              have hi2 : 0 ≤ (k : Int) ∧ (k : Int) < (n15 : Int) := by have := hnm.out; omega
              have hi3 : 0 ≤ (k : Int) + 1 ∧ (k : Int) + 1 < (n15 : Int) := by have := hnm.out; omega
              have hi4 : k < n15 := by omega
              have hi5 : k + 1 < n15 := by omega
              have h22 : ((2 : Int) != 2) = false := rfl
              have hdd : (d1 != d1) = false := by simp
              unfold maxLen at hcmk
              clear hcl hcl3 hrdk hclk euk hmul hU
              go_wp2_with fail
              go_quiet (fail)
              have hbf := below_drewN hbe nq
              go_wp2
              go_roundw
              case rel => exact ⟨k + 1, by omega, by go_num, hbf⟩
              case measure => first | (simp [intOf]; done) | (simp [intOf]; omega)
            · obtain rfl : m = k := by omega
              have Vr0 := Lib.hid (V20.out.later hbe)
              have Rr0 := Lib.hid (R20.out.below (hbe.mono (by omega)))
              have hBr := Lib.hid (hB20.out.trans (hbe.mono hB20.out.size))
              have hBrz := hBr.out.size
              clear V20 R20 hB20 Dv20 hbe
              go_wp2_with fail
              refine (roll_any w.heap.size _ n0 912 _ (Hy.out.below hBr.out) hBrz).mono ?_
              rintro e w24 ⟨rfl, hs24, hb24⟩
              have he1 : (n15 : Int) - 1 + 1 = (n15 : Int) := by omega
              go_wp2_with fail
              refine (below_any w.heap.size wr.heap.size (n15 : Int) _ hs24 (by omega)).mono ?_
              rintro e w25 ⟨r, rfl, hr, hs25, hc25⟩
              have hr1 := hr.2.1 (by omega)
              obtain ⟨kk, rfl⟩ := Int.eq_ofNat_of_zero_le hr.1
              have hkk : kk < n15 := by omega
              have hb25 := hb24.trans (hc25.below hb24.size (.inl (Nat.le_refl _)))
              have hz25 := hb25.size
              have V25 := Lib.hid (Vr0.out.later hb25)
              have R25 := Lib.hid (Rr0.out.below (hb25.mono (by omega)))
              have hB25 := Lib.hid (hBr.out.trans (hb25.mono hBrz))
              have g25 := V25.out.z.1
              clear hr hr1 hs24 hb24 hs25 hc25 hb25 Vr0 Rr0 hBr
              have htr := Lib.hid (show trB xs (kk : Int) = (trn xs kk (kk + 1), 0) by
                unfold trB
                rw [if_pos Hbr.out, if_pos (inR_true.2 ⟨by omega, by rw [Hn.out]; omega⟩), Int.toNat_natCast])
              go_wp2_with fail
              refine (TruncateBranch_any _ _ xs (kk : Int) _ V25.out.i (Nat.le_refl _)).mono ?_
              rintro e w26 ⟨u26, rfl, o26, hb26⟩
              rw [show (trB xs (kk : Int)).2 = 0 by rw [htr.out]]
              rw [show (trB xs (kk : Int)).1 = trn xs kk (kk + 1) by rw [htr.out]] at o26
              have L26 := Lib.hid o26.is
              have hz26 := hb26.size
              have R26 := Lib.hid (R25.out.below (hb26.mono (by omega)))
              have hB26 := Lib.hid (hB25.out.trans (hb26.mono hB25.out.size))
              obtain ⟨A26, c26, e26, _, _⟩ := o26.shape
              subst e26
              obtain ⟨T, hT⟩ : ∃ T, Hid (trn xs kk (kk + 1) = T) := ⟨_, Lib.hid rfl⟩
              obtain ⟨nT, hnT⟩ : ∃ nT, Hid (T.length = nT) := ⟨_, Lib.hid rfl⟩
              have hTb := Lib.hid (show isBr T = true by rw [← hT.out]; exact trn_br Hbr.out kk (by rw [Hn.out]; exact hkk))
              have hTp := Lib.hid (show puiB T = (P.take kk, 0) by
                unfold puiB
                rw [if_pos hTb.out, ← hT.out, trn_pui Hbr.out kk (by rw [Hn.out]; exact hkk), HP.out])
              rw [hT.out, hnT.out] at L26
              rw [hT.out, hnT.out]
              clear o26 V25 R25 hB25 hb26 g25 htr
              have ha := al_below w26 (.cells #[.slice A26 nT c26] 26)
              have VT := Lib.hid (Vr.new L26.out 26)
              have R27 := Lib.hid (R26.out.below (ha.mono (by omega)))
              have hB27 := Lib.hid (hB26.out.trans (ha.mono hB26.out.size))
              have g27 := VT.out.z.1
              clear ha R26 hB26 L26
              go_upto_region 26 with fail
              obtain ⟨w27, hw27⟩ : ∃ w27, w27 = w26.alloc (.cells #[.slice A26 nT c26] 26) := ⟨_, rfl⟩
              have hz27 : w26.heap.size + 1 ≤ w27.heap.size := by rw [hw27]; simp
              rw [← hw27] at VT R27 hB27 g27 ⊢
              clear hw27
              go_wp2_with fail
              refine (PuiseuxPairs_any _ _ T _ VT.out.i (Nat.le_refl _)).mono ?_
              rintro e w28 ⟨u28, rfl, o28, hb28⟩
              rw [show (puiB T).2 = 0 by rw [hTp.out]]
              rw [show (puiB T).1 = P.take kk by rw [hTp.out]] at o28
              have R28 := Lib.hid (R27.out.below (hb28.mono (by omega)))
              have hB28 := Lib.hid (hB27.out.trans (hb28.mono hB27.out.size))
              have S28 := Lib.hid o28.is
              have hz28 := hb28.size
              obtain ⟨us28, U28⟩ := o28
              obtain ⟨A28, c28, e28, _, _⟩ := own_shape U28.row
              subst e28
              have hTl := Lib.hid (show (P.take kk).length = kk by rw [List.length_take, Hm.out]; have := hnm.out; omega)
              rw [hTl.out] at S28 ⊢
              have hkm : kk ≤ m := by have := hnm.out; omega
              have Rt := Lib.hid (IsR.take R28.out kk Hm.out hkm)
              have hkc : 0 ≤ (kk : Int) ∧ (kk : Int) ≤ (c3 : Int) := by omega
              have hkc2 : kk ≤ c3 := by omega
              clear VT R27 hB27 g27 hb28 U28 R28
              rcases hA3.out with ⟨hA, hm0, hc0⟩ | ⟨g3, hA⟩
              · subst hA
                subst hm0
                subst hc0
                obtain rfl : kk = 0 := by omega
                go_wp2_with fail
                refine (likeRows5_any _ _ _ _ (P.take 0) (P.take 0) _ S28.out Rt.out (Nat.le_refl _) (by omega)).mono ?_
                rintro e w29 ⟨rfl, hb29⟩
                rw [show (P.take 0 == P.take 0) = true by simp]
                have hfin := hB28.out.trans (hb29.mono hB28.out.size)
                clear hb29
                go_wp2_with fail
                go_meet
                exact ⟨hfin, trivial⟩
              · subst hA
                go_wp2_with fail
                refine (likeRows5_any _ _ _ _ (P.take kk) (P.take kk) _ S28.out Rt.out (Nat.le_refl _) (by omega)).mono ?_
                rintro e w29 ⟨rfl, hb29⟩
                rw [show (P.take kk == P.take kk) = true by simp]
                have hfin := hB28.out.trans (hb29.mono hB28.out.size)
                clear hb29
                go_wp2_with fail
                go_meet
                exact ⟨hfin, trivial⟩
      · have hzb : (z == 0) = false := by rw [beq_eq_false_iff_ne]; exact hz0
        go_wp2
        go_meet
        exact ⟨hB7.out, trivial⟩
    case rest =>
     as_aux_lemma =>
      obtain ⟨hbc, _⟩ := hcut
      clear V7 R7 hB7 hz hP Hm
      obtain ⟨w0, hw0⟩ : ∃ w0, w0 = wc := ⟨_, rfl⟩
      rw [← hw0] at hbc ⊢
      clear hw0
      have hs0 := hbc.size
      go_wp2_with fail
      refine (DrawBranchOfNewton_any w.heap.size _ n0 _ (Hy.out.below hbc) hs0).mono ?_
      rintro e y1 ⟨v29, ys, rfl, I1, hb1'⟩
      have B1 := Lib.hid (hbc.trans (hb1'.mono hs0))
      clear hbc hb1'
      obtain ⟨us1, hU1⟩ := I1
      obtain ⟨A1, c1', e1, _, _, _⟩ := hU1.sh
      subst e1
      obtain ⟨m1, Hm1⟩ : ∃ m1, Hid (ys.length = m1) := ⟨_, Lib.hid rfl⟩
      have I1 := Lib.hid (show IsR y1 y1.heap.size (.slice A1 ys.length c1') ys from ⟨us1, hU1⟩)
      rw [Hm1.out] at I1 ⊢
      clear hU1
      obtain ⟨q1, hq1⟩ : ∃ q1, Hid ((bopB true ys).2 = q1) := ⟨_, Lib.hid rfl⟩
      obtain ⟨L1, hL1⟩ : ∃ L1, Hid ((bopB true ys).1 = L1) := ⟨_, Lib.hid rfl⟩
      go_wp2_with fail
      refine (BranchOfNewton_any _ _ ys _ I1.out (Nat.le_refl _)).mono ?_
      rintro e y2 ⟨u2', rfl, o2, hb2'⟩
      rw [hq1.out]
      rw [hL1.out] at o2
      have k2 := Lib.hid o2.is
      obtain ⟨A2, c2, e2, _, _⟩ := o2.shape
      subst e2
      have z2' := hb2'.size
      have B2 := Lib.hid (B1.out.trans (hb2'.mono B1.out.size))
      have I2 := Lib.hid (I1.out.below hb2')
      have ha := al_below y2 (.cells #[.slice A2 L1.length c2] 26)
      have VX := Lib.hid (Vr.new k2.out 26)
      have I3 := Lib.hid (I2.out.below (ha.mono (by omega)))
      have B3 := Lib.hid (B2.out.trans (ha.mono B2.out.size))
      clear ha B1 B2 I1 I2 k2 o2 hb2'
      go_upto_region 31 with fail
      obtain ⟨y3, hy3⟩ : ∃ y3, y3 = y2.alloc (.cells #[.slice A2 L1.length c2] 26) := ⟨_, rfl⟩
      have z3' : y2.heap.size + 1 ≤ y3.heap.size := by rw [hy3]; simp
      rw [← hy3] at VX I3 B3 ⊢
      clear hy3
      go_wp2_with fail
      refine (sBranchOfNewton_any _ _ ys _ I3.out (by omega)).mono ?_
      rintro e y4 ⟨u4', rfl, o4, hb4'⟩
      rw [hq1.out]
      rw [hL1.out] at o4
      have k4 := Lib.hid o4.is
      obtain ⟨A4', c4', e4, _, _⟩ := o4.shape
      subst e4
      have z4' := hb4'.size
      have B4 := Lib.hid (B3.out.trans (hb4'.mono B3.out.size))
      have VX4 := Lib.hid (VX.out.later hb4')
      have ha := al_below y4 (.cells #[.slice A4' L1.length c4'] 26)
      have VY := Lib.hid (Vr.new k4.out 26)
      have VX5 := Lib.hid (VX4.out.later ha)
      have B5 := Lib.hid (B4.out.trans (ha.mono B4.out.size))
      clear ha B3 B4 I3 k4 o4 hb4' VX VX4
      go_upto_region 32 with fail
      obtain ⟨y5, hy5⟩ : ∃ y5, y5 = y4.alloc (.cells #[.slice A4' L1.length c4'] 26) := ⟨_, rfl⟩
      have z5' : y4.heap.size + 1 ≤ y5.heap.size := by rw [hy5]; simp
      rw [← hy5] at VX5 VY B5 ⊢
      clear hy5
      go_wp2_with fail
      refine (DrawBranchOfPuiseux_any w.heap.size _ n0 _ (Hy.out.below B5.out) B5.out.size).mono ?_
      rintro e y6 ⟨v34, ps, rfl, I6, hb6'⟩
      have B6 := Lib.hid (B5.out.trans (hb6'.mono B5.out.size))
      have VX6 := Lib.hid (VX5.out.later hb6')
      have VY6 := Lib.hid (VY.out.later hb6')
      clear B5 VX5 VY
      have z6' := hb6'.size
      clear hb6'
      obtain ⟨us6, hU6⟩ := I6
      obtain ⟨A6, c6, e6, _, _, _⟩ := hU6.sh
      subst e6
      obtain ⟨m6, Hm6⟩ : ∃ m6, Hid (ps.length = m6) := ⟨_, Lib.hid rfl⟩
      have I6 := Lib.hid (show IsR y6 y6.heap.size (.slice A6 ps.length c6) ps from ⟨us6, hU6⟩)
      rw [Hm6.out] at I6 ⊢
      clear hU6
      obtain ⟨q2, hq2⟩ : ∃ q2, Hid ((bopB false ps).2 = q2) := ⟨_, Lib.hid rfl⟩
      obtain ⟨L2, hL2⟩ : ∃ L2, Hid ((bopB false ps).1 = L2) := ⟨_, Lib.hid rfl⟩
      go_wp2_with fail
      refine (BranchOfPuiseux_any _ _ ps _ I6.out (Nat.le_refl _)).mono ?_
      rintro e y7 ⟨u7', rfl, o7, hb7'⟩
      rw [hq2.out]
      rw [hL2.out] at o7
      have k7 := Lib.hid o7.is
      obtain ⟨A7, c7, e7, _, _⟩ := o7.shape
      subst e7
      have z7' := hb7'.size
      have B7 := Lib.hid (B6.out.trans (hb7'.mono B6.out.size))
      have I7 := Lib.hid (I6.out.below hb7')
      have VX7 := Lib.hid (VX6.out.later hb7')
      have VY7 := Lib.hid (VY6.out.later hb7')
      have ha := al_below y7 (.cells #[.slice A7 L2.length c7] 26)
      have VU := Lib.hid (Vr.new k7.out 26)
      have I8 := Lib.hid (I7.out.below (ha.mono (by omega)))
      have VX8 := Lib.hid (VX7.out.later ha)
      have VY8 := Lib.hid (VY7.out.later ha)
      have B8 := Lib.hid (B7.out.trans (ha.mono B7.out.size))
      clear ha B6 B7 I6 I7 VX6 VX7 VY6 VY7 k7 o7 hb7'
      go_upto_region 34 with fail
      obtain ⟨y8, hy8⟩ : ∃ y8, y8 = y7.alloc (.cells #[.slice A7 L2.length c7] 26) := ⟨_, rfl⟩
      have z8' : y7.heap.size + 1 ≤ y8.heap.size := by rw [hy8]; simp
      rw [← hy8] at VX8 VY8 VU I8 B8 ⊢
      clear hy8
      go_wp2_with fail
      refine (sBranchOfPuiseux_any _ _ ps _ I8.out (by omega)).mono ?_
      rintro e y9 ⟨u9', rfl, o9, hb9'⟩
      rw [hq2.out]
      rw [hL2.out] at o9
      have k9 := Lib.hid o9.is
      obtain ⟨A9, c9, e9, _, _⟩ := o9.shape
      subst e9
      have z9' := hb9'.size
      have B9 := Lib.hid (B8.out.trans (hb9'.mono B8.out.size))
      have ha := al_below y9 (.cells #[.slice A9 L2.length c9] 26)
      have hba := hb9'.trans (ha.mono hb9'.size)
      have VW := Lib.hid (Vr.new k9.out 26)
      have VX9 := Lib.hid (VX8.out.later hba)
      have VY9 := Lib.hid (VY8.out.later hba)
      have VU9 := Lib.hid (VU.out.later hba)
      have B10 := Lib.hid (B9.out.trans (ha.mono B9.out.size))
      clear ha hba B8 B9 I8 VX8 VY8 VU k9 o9 hb9'
      go_upto_region 35 with fail
      obtain ⟨ya, hya⟩ : ∃ ya, ya = y9.alloc (.cells #[.slice A9 L2.length c9] 26) := ⟨_, rfl⟩
      rw [← hya] at VX9 VY9 VU9 VW B10 ⊢
      clear hya
      have s1 : (q1 == q1) = true := by simp
      have s2 : (q2 == q2) = true := by simp
      have g1 := VX9.out.z.1
      have g2 := VY9.out.z.1
      go_wp2_with fail
      refine (likeInts_any _ _ _ _ L1 L1 _ VX9.out.i VY9.out.i (Nat.le_refl _) (Nat.le_refl _)).mono ?_
      rintro e yb ⟨rfl, hbb⟩
      rw [show (L1 == L1) = true by simp]
      have VUb := VU9.out.later hbb
      have VWb := VW.out.later hbb
      have Bb := Lib.hid (B10.out.trans (hbb.mono B10.out.size))
      have g3 := VUb.z.1
      have g4 := VWb.z.1
      go_wp2_with fail
      refine (likeInts_any _ _ _ _ L2 L2 _ VUb.i VWb.i (Nat.le_refl _) (Nat.le_refl _)).mono ?_
      rintro e yd ⟨rfl, hbd9⟩
      rw [show (L2 == L2) = true by simp]
      have hfin := Bb.out.trans (hbd9.mono Bb.out.size)
      clear hbb hbd9 g1 g2 g3 g4 VUb VWb
      go_wp2
      go_ret
      exact ⟨rfl, hfin⟩
end Go.Proofs.Ytmkfbcabpkendaa.fnBranches
