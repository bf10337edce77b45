/-
  WALKS, DRAWS: the laws' own dice; branches of a code; pairs of a code.
-/
import Derived.Test.YtmkfbcabpkendaaWlkF6
namespace Go.Proofs.Ytmkfbcabpkendaa
open Go.RowKit
set_option linter.unusedVariables false
namespace WF
open K Pl WA WC
set_option maxHeartbeats 800000 in
theorem roll_any (B : Nat) (v : Value) (n : Nat) (sd : Int) (w : World) (h : IsY w B v n) (hB : B ≤ w.heap.size) :
    Calls Try.prog 19 #[v, .int .u64 sd] w fun e w' => e = .returned (.pointer (some ⟨w.heap.size, 0, none⟩)) ∧ Src w' B w.heap.size ∧ Below w.heap.size w w' := by
  have Hh := Lib.hid h
  obtain ⟨A, c, rfl, hnc, hcm, hrd⟩ := h
  unfold maxLen at hcm
  have hb1 : ∀ o, Below w.heap.size w (w.alloc o) := fun o => (Below.refl _ _).alloc (Nat.le_refl _) o
  go_enter Try.func19, Try.ntmps19
  go_wp2
  go_loopw [6] (fun i wr => ∃ k : Nat, k ≤ n ∧ i = .int .i64 (k : Int) ∧ (∃ x : Int, wr.cell? ⟨w.heap.size, 2, none⟩ = some (.int .u64 x)) ∧ wr.cell? ⟨w.heap.size, 0, none⟩ = some (.slice A n c) ∧ wr.cell? ⟨w.heap.size, 1, none⟩ = some (.int .i64 0) ∧ wr.frozen? ⟨w.heap.size, 1, none⟩ = false ∧ wr.frozen? ⟨w.heap.size, 2, none⟩ = false ∧ Below w.heap.size w wr) (fun i _ => n - (intOf i).toNat)
  case atStart => exact ⟨0, Nat.zero_le _, rfl, ⟨_, by simp [go_sem]; rfl⟩, by simp [go_sem], by simp [go_sem], by simp [go_sem], by simp [go_sem], hb1 _⟩
  case round =>
    obtain ⟨k, hk, rfl, ⟨x, hx⟩, h0, h1, f1, f2, hbe⟩ := hrel
    by_cases hlt : k < n
    · obtain ⟨ad, rfl, hab, hc⟩ := hrd (by omega)
      obtain ⟨y, hy, hy0, hy1⟩ := hc k hlt
      have hcy : wr.cell? (ad.add k) = some (.int .u8 y) := (hbe.cell (by rw [block_of_add]; omega)).trans hy
      have hi1 : 0 ≤ (k : Int) ∧ (k : Int) < (n : Int) := by omega
      clear hc
      go_wp2_with fail
      go_region
      go_wp2
      go_roundw
      case rel => exact ⟨k + 1, by omega, by go_num, ⟨_, World.cell?_setCell_same wr ⟨w.heap.size, 2, none⟩ _ hx⟩, (World.cell?_setCell_other wr ⟨w.heap.size, 2, none⟩ _ _ (by simp)).trans h0, (World.cell?_setCell_other wr ⟨w.heap.size, 2, none⟩ _ _ (by simp)).trans h1, by simpa [go_sem] using f1, by simpa [go_sem] using f2, (hbe.setCell (p := ⟨w.heap.size, 2, none⟩) (Nat.le_refl _) _).drew⟩
      case measure => first | (simp [intOf]; done) | (simp [intOf]; omega)
    · go_wp2
      go_ret
      exact ⟨rfl, ⟨⟨_, n, 0, x, Hh.out.below (hbe.mono hB), Nat.zero_le _, h0, h1, hx⟩, f1, f2, hB⟩, hbe⟩
set_option maxHeartbeats 1600000 in
theorem below_any (B b : Nat) (n : Int) (w : World) (h : Src w B b) (hn : n ≤ 9223372036854775807) :
    Calls Try.prog 20 #[.pointer (some ⟨b, 0, none⟩), .int .i64 n] w fun e w' => ∃ r, e = .returned (.int .i64 r) ∧ NxR n r ∧ Src w' B b ∧ Chg b (b + 1) w w' := by
  by_cases hn1 : n < 1
  · go_enter Try.func20, Try.ntmps20
    go_wp2
    go_ret
    exact ⟨0, rfl, ⟨Int.le_refl _, fun h => by omega, fun _ => rfl⟩, h, Chg.refl⟩
  · have Hs := Lib.hid h
    obtain ⟨⟨v, N, t, x, hv, ht, h0, h1, h2⟩, f1, f2, hl⟩ := h
    have Hv := Lib.hid hv
    obtain ⟨A, c, rfl, hnc, hcm, hrd⟩ := hv
    unfold maxLen at hcm
    have Hf1 := Lib.hid f1; have Hf2 := Lib.hid f2
    have hn0 : ¬ n = 0 := by omega
    have hlt := Hs.out.here
    go_enter Try.func20, Try.ntmps20
    go_wp2_with fail
    generalize IntKind.u64.wrap (IntKind.u64.wrap (x * 6364136223846793005) + 1442695040888963407) = h'
    obtain ⟨z, hz, hz0, hz1⟩ : ∃ z, wrap64 (bits .and .u64 (h' / 8589934592) 16777215) = z ∧ 0 ≤ z ∧ z ≤ 16777215 := by
      have := and24 (h' / 8589934592)
      refine ⟨_, rfl, ?_⟩
      unfold wrap64
      omega
    rw [hz]
    clear hz
    generalize bits .and .u64 (h' / 8589934592) 16777215 = z2
    obtain ⟨w1, hw1⟩ : ∃ w1, w1 = w.setCell ⟨b, 2, none⟩ (.int .u64 h') := ⟨_, rfl⟩
    rw [← hw1]
    have k0 : w1.cell? ⟨b, 0, none⟩ = some (.slice A N c) := by rw [hw1]; exact (World.cell?_setCell_other w ⟨b, 2, none⟩ _ _ (by simp)).trans h0
    have k1 : w1.cell? ⟨b, 1, none⟩ = some (.int .i64 (t : Int)) := by rw [hw1]; exact (World.cell?_setCell_other w ⟨b, 2, none⟩ _ _ (by simp)).trans h1
    have k2 : w1.cell? ⟨b, 2, none⟩ = some (.int .u64 h') := by rw [hw1]; exact World.cell?_setCell_same w ⟨b, 2, none⟩ _ h2
    have g1 : w1.frozen? ⟨b, 1, none⟩ = false := by rw [hw1]; simpa [go_sem] using f1
    have g2 : w1.frozen? ⟨b, 2, none⟩ = false := by rw [hw1]; simpa [go_sem] using f2
    have hch1 : Chg b (b + 1) w w1 := by rw [hw1]; exact Chg.setC (p := ⟨b, 2, none⟩) ⟨Nat.le_refl _, Nat.lt_succ_self _⟩ _
    have Hv1 := Lib.hid (Hv.out.keep (w' := w1) fun p hp => World.cell?_of_block (w := w) (hch1.block p.block (by omega) (by omega)))
    clear hw1 h0 h1 h2 f1 f2
    by_cases ht2 : t < N
    · obtain ⟨A', c', e', _, _, hrd1⟩ := Hv1.out
      cases e'
      obtain ⟨ad, rfl, hab, hc⟩ := hrd1 (by omega)
      obtain ⟨y, hy, hy0, hy1⟩ := hc t ht2
      have hi1 : 0 ≤ (t : Int) ∧ (t : Int) < (N : Int) := by omega
      have hpt : (z + y).tmod n = (z + y) % n := Int.tmod_eq_emod_of_nonneg (by omega)
      have hw64 : wrap64 y = y := by unfold wrap64; omega
      have hwzy : IntKind.i64.wrap (z + y) = z + y := IntWalk.i64_in _ (by omega)
      clear hc hrd1 hrd
      go_quiet (fail)
      obtain ⟨w2, hw2⟩ : ∃ w2, w2 = w1.drewN nq := ⟨_, rfl⟩
      rw [← hw2]
      have k0 : w2.cell? ⟨b, 0, none⟩ = some (.slice (some ad) N c) := by rw [hw2]; exact k0
      have k1 : w2.cell? ⟨b, 1, none⟩ = some (.int .i64 (t : Int)) := by rw [hw2]; exact k1
      have k2 : w2.cell? ⟨b, 2, none⟩ = some (.int .u64 h') := by rw [hw2]; exact k2
      have g1 : w2.frozen? ⟨b, 1, none⟩ = false := by rw [hw2]; exact g1
      have g2 : w2.frozen? ⟨b, 2, none⟩ = false := by rw [hw2]; exact g2
      have hy : w2.cell? (ad.add t) = some (.int .u8 y) := by rw [hw2]; exact hy
      have hch2 : Chg b (b + 1) w w2 := by rw [hw2]; exact hch1.trans (Chg.drw _ _ _)
      have Hv2 := Lib.hid (show IsY w2 B (.slice (some ad) N c) N by rw [hw2]; exact Hv1.out.keep fun _ _ => rfl)
      clear hw2 hch1 Hv1
      go_wp2_with fail
      go_quiet (fail)
      obtain ⟨w3, hw3⟩ : ∃ w3, w3 = w2.drewN nq := ⟨_, rfl⟩
      rw [← hw3]
      have k0 : w3.cell? ⟨b, 0, none⟩ = some (.slice (some ad) N c) := by rw [hw3]; exact k0
      have k1 : w3.cell? ⟨b, 1, none⟩ = some (.int .i64 (t : Int)) := by rw [hw3]; exact k1
      have k2 : w3.cell? ⟨b, 2, none⟩ = some (.int .u64 h') := by rw [hw3]; exact k2
      have g1 : w3.frozen? ⟨b, 1, none⟩ = false := by rw [hw3]; exact g1
      have g2 : w3.frozen? ⟨b, 2, none⟩ = false := by rw [hw3]; exact g2
      have hch3 : Chg b (b + 1) w w3 := by rw [hw3]; exact hch2.trans (Chg.drw _ _ _)
      have Hv3 := Lib.hid (show IsY w3 B (.slice (some ad) N c) N by rw [hw3]; exact Hv2.out.keep fun _ _ => rfl)
      clear hw3 hch2 Hv2
      go_wp2
      go_ret
      exact ⟨_, rfl, ⟨Int.emod_nonneg _ hn0, fun _ => Int.emod_lt_of_pos _ (by omega), fun h => by omega⟩,
        ⟨⟨.slice (some ad) N c, N, t + 1, h', Hv3.out.keep fun p hp => Below.cell (B := b) ((Below.refl b w3).setCell (p := ⟨b, 1, none⟩) (Nat.le_refl _) _) (by omega), by omega, (World.cell?_setCell_other w3 ⟨b, 1, none⟩ _ _ (by simp)).trans k0, World.cell?_setCell_same w3 ⟨b, 1, none⟩ _ k1, (World.cell?_setCell_other w3 ⟨b, 1, none⟩ _ _ (by simp)).trans k2⟩, by simpa [go_sem] using g1, by simpa [go_sem] using g2, hl⟩,
        hch3.trans (Chg.setC (p := ⟨b, 1, none⟩) ⟨Nat.le_refl _, Nat.lt_succ_self _⟩ _)⟩
    · have hpt : z.tmod n = z % n := Int.tmod_eq_emod_of_nonneg hz0
      have hge : ¬ (t : Int) < (N : Int) := by omega
      go_quiet (fail)
      go_wp2
      go_ret
      exact ⟨_, rfl, ⟨Int.emod_nonneg _ hn0, fun _ => Int.emod_lt_of_pos _ (by omega), fun h => by omega⟩, ⟨⟨_, N, t, h', Hv1.out.keep fun _ _ => rfl, ht, k0, k1, k2⟩, g1, g2, hl⟩, hch1.trans (Chg.drw _ _ _)⟩
set_option maxHeartbeats 800000 in
theorem DrawPuiseuxPairs_any (B : Nat) (v : Value) (n : Nat) (w : World) (h : IsY w B v n) (hB : B ≤ w.heap.size) :
    Calls Try.prog 5 #[v] w fun e w' => ∃ v' xs, e = .returned (.agg #[v']) ∧ Is w' w'.heap.size v' xs ∧ Below w.heap.size w w' := by
  have hr0 := Lib.hid (Rz.new w (.slice none 0 0) 26)
  have hb0 := (Below.refl w.heap.size w).alloc (Nat.le_refl _) (.cells #[.slice none 0 0] 26)
  have hy0 := Lib.hid (h.below (hb0.mono hB))
  go_enter Try.func5, Try.ntmps5
  go_upto_region 1 with fail
  obtain ⟨w1, hw1⟩ : ∃ w1, w1 = w.alloc (.cells #[.slice none 0 0] 26) := ⟨_, rfl⟩
  rw [← hw1] at hr0 hb0 hy0 ⊢
  clear hw1
  have hz1 := hr0.out.here
  go_wp2_with fail
  refine (l01From_any B v n _ hy0.out (by omega)).mono ?_
  rintro e w2 ⟨rfl, hs2, hb2⟩
  have hr2 := Lib.hid (hr0.out.later hb2)
  have hw2 := hb0.trans (hb2.mono (by omega))
  have hz2 := hb2.size
  clear hr0 hb0 hb2
  go_wp2_with fail
  refine (l03Spoil_any B w1.heap.size _ hs2).mono ?_
  rintro e w3 ⟨v3, xs, rfl, il3, hs3, hc3⟩
  obtain ⟨r3, f3⟩ := hr2.out.chg hc3 (.inl hz1)
  have hw3 := hw2.trans (hc3.below (by omega) (.inl (by omega)))
  have Hw := Lib.hid (hw3.setCell (p := ⟨w.heap.size, 0, none⟩) (Nat.le_refl _) v3)
  have Hi := Lib.hid (Il.chg il3 (Chg.setC (lo := w.heap.size) (hi := w.heap.size + 1) (p := ⟨w.heap.size, 0, none⟩) ⟨Nat.le_refl _, Nat.lt_succ_self _⟩ v3) (by omega)).1
  have hfin := (Rz.set ⟨r3, f3⟩ v3).1
  obtain ⟨A3, n3, c3, e3, _⟩ := il3.1
  subst e3
  clear hw3 hc3 hs3 il3 hr2
  go_wp2_with fail
  refine bodyPost_ret (v := .agg #[.slice A3 n3 c3]) (by simp [results, Try.results5, go_sem, hfin]) rfl ?_
  first | exact ⟨_, _, rfl, Hi.out, Hw.out⟩ | exact ⟨_, rfl, ⟨_, Hi.out⟩, Hw.out⟩ | exact ⟨_, rfl, _, Hi.out, Hw.out⟩
theorem ow_lit1 (w : World) (a : Int) (o : Obj) : Ow ((w.alloc (.cells #[.int .i64 a] 2)).alloc o) w.heap.size ((w.alloc (.cells #[.int .i64 a] 2)).alloc o).heap.size (.slice (some ⟨w.heap.size, 0, none⟩) 1 1) [a] := by
  have h : (w.alloc (.cells #[.int .i64 a] 2)).ownsRow w.heap.size 2 1 (.slice (some ⟨w.heap.size, 0, none⟩) 1 1) 1 [.int .i64 a] := World.ownsRow_lit w #[.int .i64 a] 1 (Nat.le_refl _) (by decide) rfl
  exact ⟨h.alloc o, fun k hk => by simp [Value.ownBlock] at hk; simp; omega⟩
def prN (nb : Bool) (xs : List Int) : List (List Int) := if nb then newL xs (xs.length - 1) else puiL xs (xs.length - 1)
theorem prN_row {nb : Bool} {xs : List Int} (i : Nat) (h : i < (prN nb xs).length) : (gxx (prN nb xs) i).length = 2 := by
  unfold prN at h ⊢
  cases nb
  · simp only [Bool.false_eq_true, if_false] at h ⊢
    rw [puiL_len] at h; unfold puiL; rw [gxx_range _ _ _ h]; rfl
  · simp only [if_true] at h ⊢
    rw [newL_len] at h; unfold newL; rw [gxx_range _ _ _ h]; rfl
set_option maxHeartbeats 3200000 in
theorem l03Some_any (B : Nat) (v : Value) (n : Nat) (nb : Bool) (w : World) (h : IsY w B v n) (hB : B ≤ w.heap.size) :
    Calls Try.prog 41 #[v, .bool nb] w fun e w' => ∃ v' xss, e = .returned v' ∧ IsR w' w'.heap.size v' xss ∧ Below w.heap.size w w' := by
  go_enter Try.func41, Try.ntmps41
  go_wp2_with fail
  refine (l01From_any B v n _ h hB).mono ?_
  rintro e w1 ⟨rfl, hs1, hb1⟩
  have hsz := hb1.size
  have hbw := hs1.here
  go_wp2_with fail
  refine (l03Draw_any B w.heap.size _ hs1).mono ?_
  rintro e w2 ⟨v2, xs, rfl, ow2, hxs, hs2, hc2⟩
  have c2 := hb1.trans (hc2.below hsz (.inl (Nat.le_refl _)))
  have z2 := hc2.size
  have hb3 := (Below.refl w2.heap.size w2).alloc (Nat.le_refl _) (.cells #[v2] 26)
  have i3 := Lib.hid (ow2.is.below hb3)
  have x3 := Lib.hid (Rz.new w2 v2 26)
  have s3 := Lib.hid (Src.al hs2 (.cells #[v2] 26))
  have c3 := Lib.hid (c2.alloc (o := .cells #[v2] 26) (by omega))
  obtain ⟨A2, n2, c2', e2, _⟩ := ow2.is
  subst e2
  have Hxs := Lib.hid hxs
  have H7 := isBr_len_le hxs
  clear hb1 hc2 hs2 c2 ow2 hs1 hb3 hxs
  go_upto_region 3 with fail
  obtain ⟨w3, hw3⟩ : ∃ w3, w3 = w2.alloc (.cells #[.slice A2 n2 c2'] 26) := ⟨_, rfl⟩
  have z3 : w2.heap.size + 1 ≤ w3.heap.size := by rw [hw3]; simp
  rw [← hw3] at i3 x3 s3 c3 ⊢
  clear hw3
  have x3c := x3.out.1
  go_wp2_with fail
  refine (l03Puiseux_any w2.heap.size _ xs _ i3.out (by omega) Hxs.out).mono ?_
  rintro e w4 ⟨v4, rfl, ow4, hb4⟩
  obtain ⟨us4, u4⟩ := ow4
  obtain ⟨A4, c4', e4, _, _⟩ := own_shape u4.row
  subst e4
  have U4 := Lib.hid (u4.wide (show w.heap.size + 1 ≤ w3.heap.size by omega) (Nat.le_refl _))
  have s4 := Lib.hid (s3.out.later hb4)
  have c4 := Lib.hid (c3.out.trans (hb4.mono (by omega)))
  have z4 := hb4.size
  have x4 := Lib.hid (x3.out.later hb4)
  have i4 := Lib.hid (i3.out.below (hb4.mono (by omega)))
  have x4c := x4.out.1
  clear x3c x3 i3 s3 c3 u4 hb4
  obtain ⟨m4, Hm4⟩ : ∃ m4, Hid ((puiL xs (xs.length - 1)).length = m4) := ⟨_, Lib.hid rfl⟩
  rw [Hm4.out] at U4 ⊢
  go_upto_if 15 with fail
  go_cut [7] from 13 to 17 (fun p wx => ∃ (us : List Value) (A : Option Addr) (m c : Nat), p = .slice A m c ∧ Hid ((prN nb xs).length = m) ∧ Hid (OwU wx (w.heap.size + 1) wx.heap.size (.slice A m c) us (prN nb xs)) ∧ Src wx B w.heap.size ∧ Below w.heap.size w wx)
  case first =>
   as_aux_lemma =>
    cases nb
    · go_wp2
      go_meet
      exact ⟨us4, _, _, _, rfl, Hm4, U4, s4.out, c4.out⟩
    · go_wp2_with fail
      refine (l03Newton_any w2.heap.size _ xs _ i4.out (by omega) Hxs.out).mono ?_
      rintro e w5 ⟨v5, rfl, ow5, hb5⟩
      obtain ⟨us5, u5⟩ := ow5
      obtain ⟨A5, c5', e5, _, _⟩ := own_shape u5.row
      subst e5
      have U5 := Lib.hid (u5.wide (show w.heap.size + 1 ≤ w4.heap.size by omega) (Nat.le_refl _))
      have s5 := Lib.hid (s4.out.later hb5)
      have c5 := Lib.hid (c4.out.trans (hb5.mono (by omega)))
      obtain ⟨m5, Hm5⟩ : ∃ m5, Hid ((newL xs (xs.length - 1)).length = m5) := ⟨_, Lib.hid rfl⟩
      rw [Hm5.out] at U5 ⊢
      clear hb5 u5 U4
      go_wp2_with fail
      go_meet
      exact ⟨us5, _, _, _, rfl, Hm5, U5, s5.out, c5.out⟩
  case rest =>
   as_aux_lemma =>
    obtain ⟨us, A, m, c, rfl, Hm, hU, hs, hb⟩ := hcut
    clear U4 s4 c4 x4 i4 x4c z4
    have hz := hb.size
    have hm7 : m ≤ 7 := by
      rw [← Hm.out]; unfold prN; split
      · rw [newL_len]; omega
      · rw [puiL_len]; omega
    have Hr2 := Lib.hid (fun i hi => prN_row (nb := nb) (xs := xs) i hi)
    generalize prN nb xs = yss at *
    go_wp2_with fail
    refine (l01Next_any B w.heap.size 12 _ hs (by omega)).mono ?_
    rintro e w6 ⟨r6, rfl, hr6, hs6, hc6⟩
    have c6 := Lib.hid (hb.trans (hc6.below hz (.inl (Nat.le_refl _))))
    have U6 := Lib.hid ((OwU.dr hU.out hc6 (Nat.lt_succ_self _)).wide (Nat.le_refl _) hc6.size)
    have z6 := hc6.size
    clear hr6 hc6 hs hU hb
    by_cases h0 : r6 = 0
    · have h0' : (r6 == 0) = true := by simp [h0]
      clear h0
      go_wp2_with fail
      refine (l01Pick_any B w.heap.size w6.heap.size 4 [1, 7, 0, 2001] _ (Src.al hs6 _) (by omega) (by omega) (lit_own hs6.here _ 4 rfl (by omega))).mono ?_
      rintro e w7 ⟨r7, rfl, hr7, hs7, hc7⟩
      have c7 := Lib.hid ((c6.out.alloc (o := .cells #[.int .i64 1, .int .i64 7, .int .i64 0, .int .i64 2001] 2) (by omega)).trans (hc7.below (by simp; omega) (.inl (Nat.le_refl _))))
      have U7 := Lib.hid ((OwU.dr (U6.out.alloc _) hc7 (Nat.lt_succ_self _)).wide (Nat.le_refl _) (show w6.heap.size ≤ w7.heap.size by have := hc7.size; simp at this; omega))
      have z7 := hc7.size
      simp at z7
      clear hr7 hc7 U6 c6 hs6
      go_wp2_with fail
      refine (l01Pick_any B w.heap.size w7.heap.size 3 [1, 2, 65] _ (Src.al hs7 _) (by omega) (by omega) (lit_own hs7.here _ 3 rfl (by omega))).mono ?_
      rintro e w8 ⟨r8, rfl, hr8, hs8, hc8⟩
      have c8 := Lib.hid ((c7.out.alloc (o := .cells #[.int .i64 1, .int .i64 2, .int .i64 65] 2) (by omega)).trans (hc8.below (by simp; omega) (.inl (Nat.le_refl _))))
      have U8 := Lib.hid ((OwU.dr (U7.out.alloc _) hc8 (Nat.lt_succ_self _)).wide (Nat.le_refl _) (show w7.heap.size ≤ w8.heap.size by have := hc8.size; simp at this; omega))
      have z8 := hc8.size
      simp at z8
      have hrow : w8.ownsRow (w.heap.size + 1) 24 1 (.slice A m c) m us := by have h := U8.out.row; rw [Hm.out] at h; exact h
      clear hr8 hc8 U7 c7 hs7
      go_wp2_with (at_builtin; refine wp_append_row rfl _ _ rfl (w.heap.size + 1) _ m us rfl ((hrow.alloc _).alloc _) (w8.heap.size + 1) (some ⟨w8.heap.size, 0, none⟩) 2 2 1 rfl (by simp) (by omega) (by simp; omega) ?_)
      intro v' w9 hown9 hgrow hat
      have how9 := Lib.hid (OwU.snoc (ys := [r7, r8]) U8.out (Nat.le_refl _) (by omega) (((Below.refl _ _).alloc (Nat.le_refl _) _).alloc (by simp) _) (ow_lit2 w8 _ _ _) (by rw [Hm.out]; exact hown9) hgrow (by simp only [World.size_alloc]; exact hat)).is
      have hb9 := Lib.hid (((c8.out.alloc (o := .cells #[.int .i64 r7, .int .i64 r8] 2) (by omega)).alloc (o := .cells #[.slice (some ⟨w8.heap.size, 0, none⟩) 2 2] 24) (by simp; omega)).grown hgrow (by simp; omega) (fun k e => by have := (hrow.lt k e).1; omega))
      obtain ⟨A', c', rfl, hnc', hcm'⟩ := own_shape hown9
      clear hown9 hgrow hat hrow U8 c8 hs8
      go_wp2_with fail
      go_ret
      first | exact ⟨_, _, rfl, ⟨_, how9.out⟩, hb9.out⟩ | exact ⟨_, rfl, _, ⟨_, how9.out⟩, hb9.out⟩ | exact ⟨_, rfl, ⟨_, _, how9.out⟩, hb9.out⟩
    · have h0' : (r6 == 0) = false := by rw [beq_eq_false_iff_ne]; exact h0
      clear h0
      by_cases h1 : r6 = 1
      · have h1' : (r6 == 1) = true := by simp [h1]
        clear h1
        have hrow : w6.ownsRow (w.heap.size + 1) 24 1 (.slice A m c) m us := by have h := U6.out.row; rw [Hm.out] at h; exact h
        go_wp2_with (at_builtin; refine wp_append_row rfl _ _ rfl (w.heap.size + 1) _ m us rfl ((hrow.alloc _).alloc _) (w6.heap.size + 1) (some ⟨w6.heap.size, 0, none⟩) 1 1 1 rfl (by simp) (by omega) (by simp; omega) ?_)
        intro v' w9 hown9 hgrow hat
        have how9 := Lib.hid (OwU.snoc (ys := [3]) U6.out (Nat.le_refl _) hs6.here (((Below.refl _ _).alloc (Nat.le_refl _) _).alloc (by simp) _) (ow_lit1 w6 _ _) (by rw [Hm.out]; exact hown9) hgrow (by simp only [World.size_alloc]; exact hat)).is
        have hb9 := Lib.hid (((c6.out.alloc (o := .cells #[.int .i64 3] 2) (by omega)).alloc (o := .cells #[.slice (some ⟨w6.heap.size, 0, none⟩) 1 1] 24) (by simp; omega)).grown hgrow (by simp; omega) (fun k e => by have := (hrow.lt k e).1; omega))
        obtain ⟨A', c', rfl, hnc', hcm'⟩ := own_shape hown9
        clear hown9 hgrow hat hrow U6 c6 hs6
        go_wp2_with fail
        go_ret
        first | exact ⟨_, _, rfl, ⟨_, how9.out⟩, hb9.out⟩ | exact ⟨_, rfl, _, ⟨_, how9.out⟩, hb9.out⟩ | exact ⟨_, rfl, ⟨_, _, how9.out⟩, hb9.out⟩
      · have h1' : (r6 == 1) = false := by rw [beq_eq_false_iff_ne]; exact h1
        clear h1
        by_cases h2 : r6 = 2
        · have h2' : (r6 == 2) = true := by simp [h2]
          clear h2
          by_cases hm0 : 0 < m
          · have hm0' : (0 : Int) < (m : Int) := by omega
            go_wp2_with fail
            refine (l01Next_any B w.heap.size (m : Int) _ hs6 (by omega)).mono ?_
            rintro e w7 ⟨r7, rfl, hr7, hs7, hc7⟩
            have b7 := hr7.1; have b7' := hr7.2.1 (by omega)
            obtain ⟨i, rfl⟩ := Int.eq_ofNat_of_zero_le b7
            have c7 := Lib.hid (c6.out.trans (hc7.below (by omega) (.inl (Nat.le_refl _))))
            have U7 := Lib.hid ((OwU.dr U6.out hc7 (Nat.lt_succ_self _)).wide (Nat.le_refl _) hc7.size)
            have z7 := hc7.size
            clear hr7 hc7 U6 c6 hs6
            have him : i < m := by omega
            have hil : i < yss.length := by rw [Hm.out]; exact him
            have hrow : w7.ownsRow (w.heap.size + 1) 24 1 (.slice A m c) m us := by have h := U7.out.row; rw [Hm.out] at h; exact h
            obtain ⟨g, cg, eg⟩ := Go.Joins.ownsRow_form hrow hm0
            obtain rfl : A = some ⟨g, 0, none⟩ := by cases eg; rfl
            clear eg
            have hcu : w7.cell? ⟨g, i, none⟩ = some (ux us i) := by rw [hrow.cellAt i (by omega)]; exact ux_get? us i (by have := U7.out.len; omega)
            have hrl := Hr2.out i hil
            have oi := U7.out.each i hil
            have hidx : 0 ≤ (i : Int) ∧ (i : Int) < (m : Int) := by omega
            obtain ⟨gi, ci, egi⟩ := Go.Joins.ownsRow_form (show w7.ownsRow (w.heap.size + 1) 2 1 (ux us i) 2 _ by have h := oi.1; rw [hrl] at h; exact h) (by omega)
            rw [egi] at hcu
            have Hrow := Lib.hid hrow
            have Egi := Lib.hid egi
            clear hrow oi egi
            go_wp2_with fail
            refine (l01Next_any B w.heap.size 2 _ hs7 (by omega)).mono ?_
            rintro e w8 ⟨r8, rfl, hr8, hs8, hc8⟩
            have b8 := hr8.1; have b8' := hr8.2.1 (by omega)
            obtain ⟨j, rfl⟩ := Int.eq_ofNat_of_zero_le b8
            have c8 := Lib.hid (c7.out.trans (hc8.below (by omega) (.inl (Nat.le_refl _))))
            have U8 := Lib.hid ((OwU.dr U7.out hc8 (Nat.lt_succ_self _)).wide (Nat.le_refl _) hc8.size)
            have z8 := hc8.size
            clear hr8 hc8 U7 c7 hs7 hcu Hrow
            go_wp2_with fail
            refine (l01Next_any B w.heap.size 12 _ hs8 (by omega)).mono ?_
            rintro e w9 ⟨r9, rfl, hr9, hs9, hc9⟩
            have c9 := Lib.hid (c8.out.trans (hc9.below (by omega) (.inl (Nat.le_refl _))))
            have U9 := Lib.hid ((OwU.dr U8.out hc9 (Nat.lt_succ_self _)).wide (Nat.le_refl _) hc9.size)
            have z9 := hc9.size
            have b9 := hr9.1; have b9' := hr9.2.1 (by omega)
            clear hr9 hc9 U8 c8 hs8
            have oi := U9.out.each i hil
            rw [Egi.out] at oi
            have oi2 : w9.ownsRow (w.heap.size + 1) 2 1 (.slice (some ⟨gi, 0, none⟩) 2 ci) 2 ((gxx yss i).map (Value.int .i64)) := by have h := oi.1; rw [hrl] at h; exact h
            have hj2 : j < 2 := by omega
            obtain ⟨old, hold⟩ := own_old oi2 hj2
            have hfr := oi2.frozenAt j
            have hst := oi2.stored j (.int .i64 (1 + r9))
            have hjx : 0 ≤ (j : Int) ∧ (j : Int) < 2 := by omega
            have hgi := (oi2.lt gi rfl).1
            have U10 := Lib.hid (OwU.turn (i := i) (ys := (gxx yss i).set j (1 + r9)) U9.out hil (by rw [Egi.out]; exact hst.2) (by rw [Egi.out]; exact ⟨by rw [List.length_set, hrl, List.map_set]; exact hst.1, oi.2⟩))
            have hb10 := Lib.hid (c9.out.setCell (p := ⟨gi, j, none⟩) (by show w.heap.size ≤ gi; omega) (.int .i64 (1 + r9)))
            have how := Lib.hid U10.out.is
            clear U9 oi oi2 hst U10 hs9 c9 hrl
            go_wp2_with fail
            go_ret
            first | exact ⟨_, _, rfl, ⟨_, how.out⟩, hb10.out⟩ | exact ⟨_, rfl, _, ⟨_, how.out⟩, hb10.out⟩ | exact ⟨_, rfl, ⟨_, _, how.out⟩, hb10.out⟩
          · have hm0' : ¬ (0 : Int) < (m : Int) := by omega
            clear hm0
            have how := Lib.hid U6.out.is
            go_wp2_with fail
            go_ret
            first | exact ⟨_, _, rfl, ⟨_, how.out⟩, c6.out⟩ | exact ⟨_, rfl, _, ⟨_, how.out⟩, c6.out⟩ | exact ⟨_, rfl, ⟨_, _, how.out⟩, c6.out⟩
        · have h2' : (r6 == 2) = false := by rw [beq_eq_false_iff_ne]; exact h2
          clear h2
          have how := Lib.hid U6.out.is
          go_wp2_with fail
          go_ret
          first | exact ⟨_, _, rfl, ⟨_, how.out⟩, c6.out⟩ | exact ⟨_, rfl, _, ⟨_, how.out⟩, c6.out⟩ | exact ⟨_, rfl, ⟨_, _, how.out⟩, c6.out⟩
theorem DrawBranchOfNewton_any (B : Nat) (v : Value) (n : Nat) (w : World) (h : IsY w B v n) (hB : B ≤ w.heap.size) :
    Calls Try.prog 22 #[v] w fun e w' => ∃ v' xss, e = .returned v' ∧ IsR w' w'.heap.size v' xss ∧ Below w.heap.size w w' := by
  go_enter Try.func22, Try.ntmps22
  go_wp2_with fail
  refine (l03Some_any B v n true _ h hB).mono ?_
  rintro e w1 ⟨v1, xss, rfl, hi, hb⟩
  go_wp2_with fail
  go_ret
  first | exact ⟨_, _, rfl, hi, hb⟩ | exact ⟨_, rfl, _, hi, hb⟩ | exact ⟨_, rfl, ⟨_, hi⟩, hb⟩
theorem DrawBranchOfPuiseux_any (B : Nat) (v : Value) (n : Nat) (w : World) (h : IsY w B v n) (hB : B ≤ w.heap.size) :
    Calls Try.prog 24 #[v] w fun e w' => ∃ v' xss, e = .returned v' ∧ IsR w' w'.heap.size v' xss ∧ Below w.heap.size w w' := by
  go_enter Try.func24, Try.ntmps24
  go_wp2_with fail
  refine (l03Some_any B v n false _ h hB).mono ?_
  rintro e w1 ⟨v1, xss, rfl, hi, hb⟩
  go_wp2_with fail
  go_ret
  first | exact ⟨_, _, rfl, hi, hb⟩ | exact ⟨_, rfl, _, hi, hb⟩ | exact ⟨_, rfl, ⟨_, hi⟩, hb⟩
end WF
end Go.Proofs.Ytmkfbcabpkendaa
