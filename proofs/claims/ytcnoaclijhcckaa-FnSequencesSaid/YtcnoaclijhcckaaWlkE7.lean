/-
  WALKS, CHAPTER 4: strict transforms.
-/
import Derived.Test.YtcnoaclijhcckaaPlM
import Derived.Test.YtcnoaclijhcckaaWlkE6
import Derived.Test.YtcnoaclijhcckaaWlkD7
namespace Go.Proofs.Ytcnoaclijhcckaa
open Go.RowKit
set_option linter.unusedVariables false
namespace WE
open K Pl WA WC WD WL
def stB (xs : List Int) : List Int × Int := if isBr xs then (if 400 < ((seqB xs).length : Int) + 1 then ([], 3) else ((bsq ((seqB xs ++ ones 1).drop 1)).getD [], 0)) else ([], 1)
theorem stB_no {xs : List Int} (h : isBr xs = false) : stB xs = ([], 1) := by unfold stB; rw [h]; rfl
theorem stB_long {xs : List Int} (h : isBr xs = true) (h4 : 400 < ((seqB xs).length : Int) + 1) : stB xs = ([], 3) := by unfold stB; rw [h, if_pos h4]; rfl
theorem stB_yes {xs : List Int} (h : isBr xs = true) (h4 : ¬ 400 < ((seqB xs).length : Int) + 1) :
    ptsB ((seqB xs ++ ones 1).drop 1) = true ∧ ∃ T, bsq ((seqB xs ++ ones 1).drop 1) = some T ∧ stB xs = (T, 0) ∧ T.length ≤ 7 := by
  obtain ⟨e', ks', m, hr⟩ := strict_br h
  have hl := seqB_len h
  have hb := hr.bsq
  refine ⟨ptsB_true.2 ⟨by simp [ones]; omega, by simp [ones]; omega, fun i hi => ?_⟩, _, hb, ?_, ?_⟩
  · have hm := List.mem_of_mem_drop (gx_mem _ i hi)
    rcases List.mem_append.1 hm with hm | hm
    · exact seqB_bd h _ hm
    · have := (List.mem_replicate.1 hm).2; omega
  · unfold stB; rw [h, if_neg h4, hb]; rfl
  · have := isBr_len_le (isBr_chain hr.ch hr.lo hr.hi hr.hd hr.bd)
    exact this
theorem stB_len (xs : List Int) : (stB xs).1.length ≤ 1000000000 := by
  cases h : isBr xs
  · rw [stB_no h]; simp
  · by_cases h4 : 400 < ((seqB xs).length : Int) + 1
    · rw [stB_long h h4]; simp
    · obtain ⟨_, T, _, h3, h5⟩ := stB_yes h h4
      rw [h3]; show T.length ≤ _; omega
theorem is_tail1 {w : World} {B n c : Nat} {ad : Addr} {xs : List Int} (h : Is w B (.slice (some ad) n c) xs) (h1 : 1 ≤ n) (hc : n ≤ c) (hm : c ≤ maxLen) : Is w B (.slice (some ⟨ad.block, ad.off + 1, none⟩) (n - 1) (c - 1)) (xs.drop 1) := by
  obtain ⟨A, n', c', e, _, _, hrd⟩ := h
  cases e
  have he : ad.add 1 = ⟨ad.block, ad.off + 1, none⟩ := by simp [Addr.add]
  rw [← he]
  exact is_drop hrd h1 hc hm
theorem res_copyb {w w1 : World} {b lo : Nat} {t : TypeId} {v u : Value} {T : List Int} (hw : w.heap.size ≤ b) (hlo : b < lo) (hb : Below w.heap.size w w1) (how : Ow w1 lo w1.heap.size v T) (hcr : w1.cell? ⟨b, 0, none⟩ = some u) :
    ((w1.setCell ⟨b, 0, none⟩ v).alloc (.cells #[v] t)).cell? ⟨b, 0, none⟩ = some v ∧ Ow ((w1.setCell ⟨b, 0, none⟩ v).alloc (.cells #[v] t)) w.heap.size ((w1.setCell ⟨b, 0, none⟩ v).alloc (.cells #[v] t)).heap.size v T ∧ Below w.heap.size w ((w1.setCell ⟨b, 0, none⟩ v).alloc (.cells #[v] t)) := by
  obtain ⟨a, b, c⟩ := res_out2 how hlo (Nat.le_refl _) hcr hw hb
  exact ⟨cell_alloc a _, (b.alloc _).wide (Nat.le_refl _) (by simp), c.alloc c.size _⟩
set_option maxHeartbeats 1600000 in
theorem StrictTransform_any (B : Nat) (v : Value) (xs : List Int) (w : World) (h : Is w B v xs) (hB : B ≤ w.heap.size) : Calls Try.prog 24 #[.agg #[v]] w (LiB (stB xs) w) := by
  have Hh := Lib.hid h
  have hb2 : ∀ o o', Below w.heap.size w ((w.alloc o).alloc o') := fun o o' => ((Below.refl _ _).alloc (Nat.le_refl _) _).alloc (by simp) _
  obtain ⟨A, n, c, rfl, hnc, hcm, hrd⟩ := h
  have Hlen := Lib.hid hrd.len
  unfold maxLen at hcm
  clear hrd
  cases hR : isBr xs
  · have Hr := Lib.hid (stB_no hR)
    go_enter Try.func24, Try.ntmps24
    go_wp2_with fail
    refine (IsBranch_any B _ xs _ (Hh.out.below ((hb2 _ _).mono hB)) (by simp; omega)).mono ?_
    rintro e w1 ⟨rfl, hb⟩
    rw [hR]
    have hcr : w1.cell? ⟨w.heap.size + 1, 0, none⟩ = some (.slice none 0 0) := (hb.cell (p := ⟨w.heap.size + 1, 0, none⟩) (by simp)).trans (by simp [go_sem])
    have hfr : w1.frozen? ⟨w.heap.size + 1, 0, none⟩ = false := (hb.frozen (p := ⟨w.heap.size + 1, 0, none⟩) (by simp)).trans (by simp [go_sem])
    have hw1 := (hb2 _ _).trans (hb.mono (by simp; omega))
    obtain ⟨r1, r2⟩ := res_none (b := w.heap.size + 1) hcr (by omega) hw1
    have R2 := Lib.hid r2
    clear hb r2
    go_wp2
    exact bodyPost_ret (v := .tuple #[.agg #[.slice none 0 0], .int .i64 1]) (by simp [results, Try.results24, go_sem, r1]) rfl (LiB.nil Hr.out R2.out)
  · have HR := Lib.hid hR
    have hsl := seqB_len hR
    go_enter Try.func24, Try.ntmps24
    go_wp2_with fail
    refine (IsBranch_any B _ xs _ (Hh.out.below ((hb2 _ _).mono hB)) (by simp; omega)).mono ?_
    rintro e w1 ⟨rfl, hb⟩
    rw [hR]
    have hcb : w1.cell? ⟨w.heap.size, 0, none⟩ = some (.slice A n c) := (hb.cell (p := ⟨w.heap.size, 0, none⟩) (by simp; omega)).trans (by simp [go_sem])
    have hcr : w1.cell? ⟨w.heap.size + 1, 0, none⟩ = some (.slice none 0 0) := (hb.cell (p := ⟨w.heap.size + 1, 0, none⟩) (by simp)).trans (by simp [go_sem])
    have hfr : w1.frozen? ⟨w.heap.size + 1, 0, none⟩ = false := (hb.frozen (p := ⟨w.heap.size + 1, 0, none⟩) (by simp)).trans (by simp [go_sem])
    have hw1 := (hb2 _ _).trans (hb.mono (by simp; omega))
    have hs1 : w.heap.size + 2 ≤ w1.heap.size := by have := hb.size; simp at this; omega
    clear hb hb2 hR
    go_wp2_with fail
    refine (sequence_any B _ xs _ (Hh.out.below (hw1.mono hB)) (by omega) HR.out).mono ?_
    rintro e w2 ⟨v2, rfl, ow2, hb⟩
    replace hcb := (hb.cell (p := ⟨w.heap.size, 0, none⟩) (by show w.heap.size < _; omega)).trans hcb
    replace hcr := (hb.cell (p := ⟨w.heap.size + 1, 0, none⟩) (by show w.heap.size + 1 < _; omega)).trans hcr
    replace hfr := (hb.frozen (p := ⟨w.heap.size + 1, 0, none⟩) (by show w.heap.size + 1 < _; omega)).trans hfr
    replace hw1 := hw1.trans (hb.mono hw1.size)
    replace hs1 : w.heap.size + 2 ≤ w2.heap.size := by have := hb.size; omega
    obtain ⟨A2, c2, rfl, hc21, hc22⟩ := ow2.shape
    obtain ⟨N, HN⟩ : ∃ N, Hid ((seqB xs).length = N) := ⟨_, Lib.hid rfl⟩
    rw [HN.out] at hsl hc21 ⊢
    clear hb ow2
    by_cases h4 : 399 < N
    · have Hr := Lib.hid (stB_long HR.out (by rw [HN.out]; omega))
      have h4' : (399 : Int) < (N : Int) := by omega
      obtain ⟨r1, r2⟩ := res_none (b := w.heap.size + 1) hcr (by omega) hw1
      have R2 := Lib.hid r2
      clear r2 hw1
      go_wp2
      exact bodyPost_ret (v := .tuple #[.agg #[.slice none 0 0], .int .i64 3]) (by simp [results, Try.results24, go_sem, r1]) rfl (LiB.nil Hr.out R2.out)
    · have h4' : ¬ (399 : Int) < (N : Int) := by omega
      obtain ⟨hpt, T, hbs, hst, _⟩ := stB_yes HR.out (by rw [HN.out]; omega)
      have Hbo := Lib.hid (bosB_some hpt hbs)
      have Hst := Lib.hid hst
      clear hpt hbs hst
      go_wp2_with fail
      rw [show (N : Int) + 1 = ((seqB xs).length : Int) + ((1 : Nat) : Int) by rw [HN.out]; rfl]
      refine (firstOf_any B _ xs 1 _ (Hh.out.below (hw1.mono hB)) (by omega) HR.out (by omega)).mono ?_
      rintro e w3 ⟨v3, rfl, ow3, hb⟩
      replace hcr := (hb.cell (p := ⟨w.heap.size + 1, 0, none⟩) (by show w.heap.size + 1 < _; omega)).trans hcr
      replace hfr := (hb.frozen (p := ⟨w.heap.size + 1, 0, none⟩) (by show w.heap.size + 1 < _; omega)).trans hfr
      replace hw1 := hw1.trans (hb.mono hw1.size)
      replace hs1 : w.heap.size + 2 ≤ w3.heap.size := by have := hb.size; omega
      have his := ow3.is
      obtain ⟨A3, n3, c3, rfl, hnc3, hcm3, hrd3⟩ := id his
      have hn3 : n3 = N + 1 := by have := hrd3.len; rw [List.length_append, HN.out] at this; simp [ones] at this; omega
      obtain ⟨a3, rfl, _, _⟩ := hrd3.pos (by omega)
      have Ht := Lib.hid (is_tail1 his (by omega) hnc3 hcm3)
      have hc31 : (1 : Int) < (c3 : Int) := by omega
      have hc32 : 1 < c3 := by omega
      have hn31 : (1 : Int) ≤ (n3 : Int) := by omega
      unfold maxLen at hcm3
      clear hb ow3 his hrd3 hcb hn3
      go_wp2_with fail
      refine (BranchOfSequence_any w3.heap.size _ ((seqB xs ++ ones 1).drop 1) _ Ht.out (Nat.le_refl _)).mono ?_
      rintro e w4 ⟨v4, rfl, ow4, hb⟩
      replace hcr := (hb.cell (p := ⟨w.heap.size + 1, 0, none⟩) (by show w.heap.size + 1 < _; omega)).trans hcr
      replace hfr := (hb.frozen (p := ⟨w.heap.size + 1, 0, none⟩) (by show w.heap.size + 1 < _; omega)).trans hfr
      replace hw1 := hw1.trans (hb.mono hw1.size)
      rw [Hbo.out] at ow4 ⊢
      obtain ⟨A4, c4, rfl, _, _⟩ := ow4.shape
      obtain ⟨r1, r2, r3⟩ := res_out2 ow4 (b := w.heap.size + 1) (by omega) (Nat.le_refl _) hcr (by omega) hw1
      have R2 := Lib.hid r2; have R3 := Lib.hid r3
      clear r2 r3 hb ow4 hw1
      go_wp2
      exact bodyPost_ret (v := .tuple #[.agg #[.slice A4 T.length c4], .int .i64 0]) (by simp [results, Try.results24, go_sem, r1]) rfl ⟨_, by rw [Hst.out], by rw [Hst.out]; exact R2.out, R3.out⟩
set_option maxHeartbeats 1600000 in
theorem sStrictTransform_any (B : Nat) (v : Value) (xs : List Int) (w : World) (h : Is w B v xs) (hB : B ≤ w.heap.size) : Calls Try.prog 25 #[.agg #[v]] w (LiB (stB xs) w) := by
  have Hh := Lib.hid h
  have hb2 : ∀ o o', Below w.heap.size w ((w.alloc o).alloc o') := fun o o' => ((Below.refl _ _).alloc (Nat.le_refl _) _).alloc (by simp) _
  obtain ⟨A, n, c, rfl, hnc, hcm, hrd⟩ := h
  have Hlen := Lib.hid hrd.len
  unfold maxLen at hcm
  clear hrd
  by_cases hz : lngC xs 1 = 0
  · have hz0 : (lngC xs 1 != 0) = false := by simp [hz]
    have hR : isBr xs = true := by
      cases e : isBr xs
      · unfold lngC at hz; rw [e] at hz; cases hz
      · rfl
    have h4 : ¬ 400 < ((seqB xs).length : Int) + 1 := by
      unfold lngC at hz
      rw [hR, show inR 1 0 400 = true from rfl] at hz
      intro h4
      simp [h4] at hz
    have HR := Lib.hid hR
    have hsl := seqB_len hR
    obtain ⟨hpt, T, hbs, hst, _⟩ := stB_yes hR h4
    have Hpt := Lib.hid hpt
    have Hbs := Lib.hid hbs
    have Hst := Lib.hid hst
    clear hpt hbs hst hR hz h4
    go_enter Try.func25, Try.ntmps25
    go_wp2_with fail
    refine (l04Long_any B _ xs 1 _ (Hh.out.below ((hb2 _ _).mono hB)) (by simp; omega)).mono ?_
    rintro e w1 ⟨rfl, hb⟩
    have hcb : w1.cell? ⟨w.heap.size, 0, none⟩ = some (.slice A n c) := (hb.cell (p := ⟨w.heap.size, 0, none⟩) (by simp; omega)).trans (by simp [go_sem])
    have hcr : w1.cell? ⟨w.heap.size + 1, 0, none⟩ = some (.slice none 0 0) := (hb.cell (p := ⟨w.heap.size + 1, 0, none⟩) (by simp)).trans (by simp [go_sem])
    have hfr : w1.frozen? ⟨w.heap.size + 1, 0, none⟩ = false := (hb.frozen (p := ⟨w.heap.size + 1, 0, none⟩) (by simp)).trans (by simp [go_sem])
    have hw1 := (hb2 _ _).trans (hb.mono (by simp; omega))
    have hs1 : w.heap.size + 2 ≤ w1.heap.size := by have := hb.size; simp at this; omega
    clear hb hb2
    go_wp2_with fail
    refine (l04Full_any B _ xs 1 _ (Hh.out.below (hw1.mono hB)) (by omega) HR.out (by omega)).mono ?_
    rintro e w3 ⟨v3, rfl, ow3, hb⟩
    replace hcr := (hb.cell (p := ⟨w.heap.size + 1, 0, none⟩) (by show w.heap.size + 1 < _; omega)).trans hcr
    replace hfr := (hb.frozen (p := ⟨w.heap.size + 1, 0, none⟩) (by show w.heap.size + 1 < _; omega)).trans hfr
    replace hw1 := hw1.trans (hb.mono hw1.size)
    replace hs1 : w.heap.size + 2 ≤ w3.heap.size := by have := hb.size; omega
    have his := ow3.is
    obtain ⟨A3, n3, c3, rfl, hnc3, hcm3, hrd3⟩ := id his
    have hn3 : n3 = (seqB xs).length + 1 := by have := hrd3.len; rw [List.length_append] at this; simp [ones] at this; omega
    obtain ⟨a3, rfl, _, _⟩ := hrd3.pos (by omega)
    have Ht := Lib.hid (is_tail1 his (by omega) hnc3 hcm3)
    have hc31 : (1 : Int) < (c3 : Int) := by omega
    have hc32 : 1 < c3 := by omega
    have hn31 : (1 : Int) ≤ (n3 : Int) := by omega
    unfold maxLen at hcm3
    clear hb ow3 his hrd3 hcb hn3
    go_wp2_with fail
    refine (l04Branch_any w3.heap.size _ ((seqB xs ++ ones 1).drop 1) _ Ht.out (Nat.le_refl _) Hpt.out).mono ?_
    rintro e w4 ⟨v4, T4, b4, rfl, ow4, hb, hb4, hT4⟩
    have hbt : b4 = true := by rw [hb4, Hbs.out]; rfl
    have hTT : T4 = T := by have := hT4 hbt; rw [Hbs.out] at this; exact (Option.some.inj this).symm
    subst hTT
    subst hbt
    replace hcr := (hb.cell (p := ⟨w.heap.size + 1, 0, none⟩) (by show w.heap.size + 1 < _; omega)).trans hcr
    replace hfr := (hb.frozen (p := ⟨w.heap.size + 1, 0, none⟩) (by show w.heap.size + 1 < _; omega)).trans hfr
    replace hw1 := hw1.trans (hb.mono hw1.size)
    have hs4 : w.heap.size + 1 < w4.heap.size := World.block_lt_of_cell? w4 ⟨w.heap.size + 1, 0, none⟩ hcr
    obtain ⟨A4, c4, rfl, _, _⟩ := ow4.shape
    obtain ⟨r1, r2, r3⟩ := res_copyb (t := 26) (b := w.heap.size + 1) (by omega) (by omega) hw1 ow4 hcr
    have R2 := Lib.hid r2; have R3 := Lib.hid r3
    clear r2 r3 hb ow4 hw1 hb4 hT4
    go_wp2
    exact bodyPost_ret (v := .tuple #[.agg #[.slice A4 T4.length c4], .int .i64 0]) (by simp [results, Try.results25, go_sem, r1]) rfl ⟨_, by rw [Hst.out], by rw [Hst.out]; exact R2.out, R3.out⟩
  · have hz0 : (lngC xs 1 != 0) = true := by simp [hz]
    have Hr := Lib.hid (show stB xs = ([], lngC xs 1) by
      unfold lngC at hz ⊢
      cases e : isBr xs
      · rw [stB_no e]; rfl
      · rw [e, show inR 1 0 400 = true from rfl] at hz
        by_cases h4 : 400 < ((seqB xs).length : Int) + 1
        · rw [stB_long e h4]; simp [h4]; decide
        · simp [h4] at hz)
    clear hz
    go_enter Try.func25, Try.ntmps25
    go_wp2_with fail
    refine (l04Long_any B _ xs 1 _ (Hh.out.below ((hb2 _ _).mono hB)) (by simp; omega)).mono ?_
    rintro e w1 ⟨rfl, hb⟩
    generalize lngC xs 1 = z at hz0 Hr ⊢
    have hcr : w1.cell? ⟨w.heap.size + 1, 0, none⟩ = some (.slice none 0 0) := (hb.cell (p := ⟨w.heap.size + 1, 0, none⟩) (by simp)).trans (by simp [go_sem])
    have hfr : w1.frozen? ⟨w.heap.size + 1, 0, none⟩ = false := (hb.frozen (p := ⟨w.heap.size + 1, 0, none⟩) (by simp)).trans (by simp [go_sem])
    have hw1 := (hb2 _ _).trans (hb.mono (by simp; omega))
    obtain ⟨r1, r2⟩ := res_none (b := w.heap.size + 1) hcr (by omega) hw1
    have R2 := Lib.hid r2
    clear hb r2
    go_wp2
    exact bodyPost_ret (v := .tuple #[.agg #[.slice none 0 0], .int .i64 z]) (by simp [results, Try.results25, go_sem, r1]) rfl (LiB.nil Hr.out R2.out)
end WE
end Go.Proofs.Ytcnoaclijhcckaa
