/-
  WALKS, CHAPTER 4: the blocks of a sequence.
-/
import Derived.Test.YtcnoaclijhcckaaWlkD7
import Derived.Test.YtcnoaclijhcckaaPlI
namespace Go.Proofs.Ytcnoaclijhcckaa
open Go.RowKit
set_option linter.unusedVariables false
namespace WD
open K Pl WA WC
/-- The count of the last row goes up by one: where it lies, and what is owned behind the store. -/
theorem own_bump {w : World} {lo hi n c1 : Nat} {A : Option Addr} {us : List Value} {S : List (List Int)} {y m : Int} (h : OwU w lo hi (.slice A n c1) us S) (hn : S.length = n) (hk : 1 ≤ n) (he : gxx S (n - 1) = [y, m]) :
    ∃ g0 g c, A = some ⟨g0, 0, none⟩ ∧ 2 ≤ c ∧ c ≤ 9223372036854775807 ∧ lo ≤ g ∧ ∀ w', OwU w' lo hi (.slice A n c1) us S → w'.cell? ⟨g0, n - 1, none⟩ = some (.slice (some ⟨g, 0, none⟩) 2 c) ∧ w'.cell? ⟨g, 0, none⟩ = some (.int .i64 y) ∧ w'.cell? ⟨g, 1, none⟩ = some (.int .i64 m) ∧ w'.frozen? ⟨g, 1, none⟩ = false ∧
      OwU (w'.setCell ⟨g, 1, none⟩ (.int .i64 (m + 1))) lo hi (.slice A n c1) us (bump S y m) := by
  subst hn
  obtain ⟨g0, c0, e0⟩ := Go.Joins.ownsRow_form h.row (by omega)
  cases e0
  have hek0 := h.each (S.length - 1) (by omega)
  rw [he] at hek0
  obtain ⟨g, c, eu⟩ := Go.Joins.ownsRow_form hek0.1 (by simp)
  have hl := hek0.low (k := g) (by rw [eu]; rfl)
  have hk0 := hek0.1
  rw [eu] at hk0
  obtain ⟨A', c', e, h1, h2⟩ := own_shape hk0
  cases e
  refine ⟨g0, g, c, rfl, h1, h2, hl.1, fun w' h' => ?_⟩
  have hek := h'.each (S.length - 1) (by omega)
  rw [he] at hek
  have hk2 := hek.1
  rw [eu] at hk2
  have hst := hk2.stored 1 (.int .i64 (m + 1))
  refine ⟨?_, by have := hk2.cellAt 0 (by simp); simpa using this, by have := hk2.cellAt 1 (by simp); simpa using this, hk2.frozenAt 1, ?_⟩
  · have := h'.row.cellAt (S.length - 1) (by omega)
    rw [this, ux_get? us (S.length - 1) (by have := h'.len; omega), eu]; rfl
  · unfold bump
    refine OwU.turn h' (by omega) (by rw [eu]; exact hst.2) ?_
    rw [eu]
    exact ⟨hst.1, fun k hk => by rw [← eu] at hk; exact hek.2 k hk⟩
theorem blkB_ok {xs : List Int} (h : lngC xs 0 = 0) : blkB xs = (blkL (lngB xs 0).1 (lngB xs 0).1.length, 0) := by unfold blkB; rw [if_pos h]
theorem blkB_bad {xs : List Int} (h : lngC xs 0 ≠ 0) : blkB xs = ([], lngC xs 0) := by unfold blkB; rw [if_neg h]
theorem blkL_len2 (ys : List Int) : ∀ k, ∀ s ∈ blkL ys k, s.length ≤ 2
  | 0, s, hs => by simp [blkL] at hs
  | k + 1, s, hs => by
    have ih := blkL_len2 ys k
    have ho : ∀ s ∈ opn (blkL ys k) (gx ys k), s.length ≤ 2 := by
      intro s hs
      unfold opn at hs
      split at hs
      · rcases List.mem_append.1 hs with h | h
        · exact ih s h
        · simp at h; subst h; simp
      · exact ih s hs
    unfold blkL bump at hs
    rcases List.mem_or_eq_of_mem_set hs with h | h
    · exact ho s h
    · subst h; simp
theorem blkB_pairs (xs : List Int) : ∀ s ∈ (blkB xs).1, s.length ≤ 2 := by
  unfold blkB; split
  · exact blkL_len2 _ _
  · simp
theorem blkB_len (xs : List Int) : (blkB xs).1.length ≤ 1000000000 := by
  unfold blkB; split
  · exact Nat.le_trans (blk_inv _ _).1 (lngB_len xs 0)
  · simp
set_option maxHeartbeats 3200000 in
theorem BlocksOf_any (B : Nat) (v : Value) (xs : List Int) (w : World) (h : Is w B v xs) (hB : B ≤ w.heap.size) : Calls Try.prog 7 #[.agg #[v]] w (LiR (blkB xs) w) := by
  have Hh := Lib.hid h
  have hb1 : ∀ o, Below w.heap.size w (w.alloc o) := fun o => (Below.refl _ _).alloc (Nat.le_refl _) o
  obtain ⟨A, n0, c, rfl, hnc, hcm, hrd⟩ := h
  clear hrd
  by_cases h0 : lngC xs 0 = 0
  · have Hr := Lib.hid (blkB_ok h0)
    have Hcode := Lib.hid (show (lngB xs 0).2 = 0 by rw [lngB_ok h0])
    have hl9 := lngB_len xs 0
    obtain ⟨ys, Hys⟩ : ∃ ys, Hid ((lngB xs 0).1 = ys) := ⟨_, Lib.hid rfl⟩
    rw [Hys.out] at Hr hl9
    clear h0
    go_enter Try.func7, Try.ntmps7
    go_wp2_with fail
    refine (SequenceOf_any B _ xs _ (Hh.out.below ((hb1 _).mono hB)) (by simp; omega)).mono ?_
    rintro e w1 ⟨v1, rfl, ow1, hb⟩
    rw [Hcode.out]
    rw [Hys.out] at ow1
    have hw1 := (hb1 _).trans (hb.mono (by simp))
    have hs1 := hw1.size
    obtain ⟨A1, n, c1, rfl, hnc1, hcm1, hrd1⟩ := ow1.is
    have Hn := Lib.hid hrd1.len
    rw [Hn.out] at hl9
    have Hrd := Lib.hid hrd1
    have hown0 := OwU.lit w1 (lo := w1.heap.size) (Nat.le_refl _)
    have hbe0 : ∀ o, Below w1.heap.size w1 (w1.alloc o) := fun o => (Below.refl _ _).alloc (Nat.le_refl _) o
    unfold maxLen at hcm1
    clear hb ow1 hrd1
    go_wp2
    go_loopw [6, 20] (fun u i wr => ∃ (k m : Nat) (A6 : Option Addr) (c6 : Nat) (us : List Value), k ≤ n ∧ i = .int .i64 (k : Int) ∧ u = .slice A6 m c6 ∧ m ≤ k ∧ m ≤ c6 ∧ c6 ≤ 9223372036854775807 ∧ Hid ((blkL ys k).length = m) ∧ Hid (OwU wr w1.heap.size wr.heap.size (.slice A6 m c6) us (blkL ys k)) ∧ Below w1.heap.size w1 wr) (fun _ i _ => n - (intOf i).toNat)
    case atStart => exact ⟨0, 0, _, 0, [], Nat.zero_le _, rfl, rfl, by omega, by omega, by omega, Lib.hid rfl, Lib.hid (by simpa [blkL] using hown0), hbe0 _⟩
    case round =>
      clear hown0 hbe0
      obtain ⟨k, m, A6, c6, us, hk, rfl, rfl, hmk, hmc, hc6, hm, how, hbe⟩ := hrel
      have hbs := hbe.size
      by_cases hlt : k < n
      · obtain ⟨ad, rfl, hab, hc⟩ := Hrd.out.pos (by omega)
        have hcy : wr.cell? (ad.add k) = some (.int .i64 (gx ys k)) := (hbe.cell (by rw [block_of_add]; omega)).trans (hc k hlt)
        have hi1 : 0 ≤ (k : Int) ∧ (k : Int) < (n : Int) := by omega
        obtain ⟨hol, hone, mm, hlast, hmm0, hmmk, hB⟩ := opn_inv ys k
        have Hlast := Lib.hid hlast
        have HB := Lib.hid hB
        have Hinv := Lib.hid (blk_inv ys k).2
        clear hlast hB hol hone
        by_cases hm0 : m = 0
        · have Hop := Lib.hid (opn_new (b := blkL ys k) (y := gx ys k) (.inl (by rw [hm.out]; exact hm0)))
          have hz : ((m : Int) == 0) = true := by simp; omega
          clear hc Hinv hm0
          have hrow : wr.ownsRow w1.heap.size 24 1 (.slice A6 m c6) m us := by have h := how.out.row; rw [hm.out] at h; exact h
          go_wp2_with (at_builtin; refine wp_append_row rfl _ _ rfl w1.heap.size _ m us rfl ((hrow.alloc _).alloc _) (wr.heap.size + 1) (some ⟨wr.heap.size, 0, none⟩) 2 2 1 rfl (by simp) (by omega) (by have := hbe.size; simp; omega) ?_)
          intro v' w2 hown2 hgrow hat
          have how2 := Lib.hid (OwU.snoc (ys := [gx ys k, 0]) how.out (Nat.le_refl _) hbs (((Below.refl _ _).alloc (Nat.le_refl _) _).alloc (by simp) _) (ow_lit2 wr _ _ _) (by rw [hm.out]; exact hown2) hgrow (by simp only [World.size_alloc]; exact hat))
          have hbe3 : Below w1.heap.size w1 w2 := (hbe.trans ((((Below.refl _ _).alloc (Nat.le_refl _) _).alloc (by simp) _).mono hbs)).grown hgrow (by have := hbe.size; simp; omega) (fun k' hk' => (hrow.lt k' hk').1)
          clear how hbe
          have HU := Lib.hid (show OwU w2 w1.heap.size w2.heap.size v' _ (opn (blkL ys k) (gx ys k)) by rw [Hop.out]; exact how2.out)
          obtain ⟨M, HM⟩ : ∃ M, Hid (M = m + 1) := ⟨_, Lib.hid rfl⟩
          have HL := Lib.hid (show (opn (blkL ys k) (gx ys k)).length = M by rw [Hop.out, HM.out]; simp [hm.out])
          have hM1 : 1 ≤ M ∧ M ≤ k + 1 := by have := HM.out; omega
          obtain ⟨A7, c7, rfl, hnc7, hcm7⟩ := own_shape HU.out.row
          rw [HL.out] at HU hnc7 ⊢
          clear hown2 hgrow hat hrow how2 hm
          obtain ⟨g0, g, c2, rfl, hc2, hc2m, hglo, hall⟩ := own_bump HU.out HL.out hM1.1 (by have h := Hlast.out; unfold lastR at h; rw [HL.out] at h; exact h)
          obtain ⟨hco, hq, hr, hfr, hU2⟩ := hall _ HU.out
          have HU2 := Lib.hid hU2
          rw [HB.out.symm] at HU2
          have hbe2 := hbe3.setCell (p := ⟨g, 1, none⟩) hglo (.int .i64 (mm + 1))
          have hi2 : (0 : Int) < 2 ∧ (1 : Int) < 2 := by omega
          have hi4 : (1 : Int) ≤ (M : Int) := by omega
          have hi3 : 0 ≤ (M : Int) - 1 ∧ (M : Int) - 1 < (M : Int) := by omega
          have HL2 := Lib.hid (show (blkL ys (k + 1)).length = M by rw [HB.out]; unfold bump; rw [List.length_set]; exact HL.out)
          clear hU2 HU HL hall hbe3
          go_wp2
          go_roundw
          case rel => exact ⟨k + 1, M, _, c7, _, by omega, by go_num, rfl, by omega, by omega, by omega, HL2, Lib.hid (HU2.out.wide (Nat.le_refl _) (by simp)), hbe2⟩
          case measure => first | (simp [intOf]; done) | (simp [intOf]; omega)
        · have hk1 : 1 ≤ k := by omega
          obtain ⟨hne0, m1, hl1, _, _⟩ := Hinv.out hk1
          have Hl1 := Lib.hid hl1
          have hz : ((m : Int) == 0) = false := by simp; omega
          clear hl1 Hinv hc
          by_cases hne : gx ys (k - 1) = gx ys k
          · have Hop := Lib.hid (opn_old (b := blkL ys k) (y := gx ys k) hne0 (by rw [Hl1.out]; exact hne))
            clear hne0
            have HU := Lib.hid (show OwU wr w1.heap.size wr.heap.size (.slice A6 m c6) us (opn (blkL ys k) (gx ys k)) by rw [Hop.out]; exact how.out)
            have HL := Lib.hid (show (opn (blkL ys k) (gx ys k)).length = m by rw [Hop.out]; exact hm.out)
            have hm1 : 1 ≤ m := by omega
            clear how hm
            obtain ⟨g0, g, c2, rfl, hc2, hc2m, hglo, hall⟩ := own_bump HU.out HL.out hm1 (by have h := Hlast.out; unfold lastR at h; rw [HL.out] at h; exact h)
            obtain ⟨hco, hq, hr, hfr, hU2⟩ := hall _ HU.out
            have hi2 : (0 : Int) < 2 ∧ (1 : Int) < 2 := by omega
            have hi4 : (1 : Int) ≤ (m : Int) := by omega
            have hi3 : 0 ≤ (m : Int) - 1 ∧ (m : Int) - 1 < (m : Int) := by omega
            have HL2 := Lib.hid (show (blkL ys (k + 1)).length = m by rw [HB.out]; unfold bump; rw [List.length_set]; exact HL.out)
            have HU2 := Lib.hid hU2
            rw [HB.out.symm] at HU2
            have hbe2 := hbe.setCell (p := ⟨g, 1, none⟩) hglo (.int .i64 (mm + 1))
            clear hU2 HU HL hall hbe
            go_wp2
            go_roundw
            case rel => exact ⟨k + 1, m, _, c6, _, by omega, by go_num, rfl, by omega, by omega, by omega, HL2, Lib.hid (HU2.out.wide (Nat.le_refl _) (by simp)), hbe2⟩
            case measure => first | (simp [intOf]; done) | (simp [intOf]; omega)
          · have Hop := Lib.hid (opn_new (b := blkL ys k) (y := gx ys k) (.inr (by rw [Hl1.out]; exact hne)))
            clear hne0
            obtain ⟨gg0, gg, cc2, rfl, hco, hcc2, hcc2m, hq, hr, _, _, _⟩ := own_pair how.out hm.out (k := m - 1) (by omega) (by have h := Hl1.out; unfold lastR at h; rw [hm.out] at h; exact h)
            have hi2 : (0 : Int) < 2 ∧ (1 : Int) < 2 := by omega
            have hi4 : (1 : Int) ≤ (m : Int) := by omega
            have hi3 : 0 ≤ (m : Int) - 1 ∧ (m : Int) - 1 < (m : Int) := by omega
            have hneq : (gx ys (k - 1) != gx ys k) = true := by simpa using hne
            have hrow : wr.ownsRow w1.heap.size 24 1 (.slice (some ⟨gg0, 0, none⟩) m c6) m us := by have h := how.out.row; rw [hm.out] at h; exact h
            go_wp2_with (at_builtin; refine wp_append_row rfl _ _ rfl w1.heap.size _ m us rfl ((hrow.alloc _).alloc _) (wr.heap.size + 1) (some ⟨wr.heap.size, 0, none⟩) 2 2 1 rfl (by simp) (by omega) (by have := hbe.size; simp; omega) ?_)
            intro v' w2 hown2 hgrow hat
            have how2 := Lib.hid (OwU.snoc (ys := [gx ys k, 0]) how.out (Nat.le_refl _) hbs (((Below.refl _ _).alloc (Nat.le_refl _) _).alloc (by simp) _) (ow_lit2 wr _ _ _) (by rw [hm.out]; exact hown2) hgrow (by simp only [World.size_alloc]; exact hat))
            have hbe3 : Below w1.heap.size w1 w2 := (hbe.trans ((((Below.refl _ _).alloc (Nat.le_refl _) _).alloc (by simp) _).mono hbs)).grown hgrow (by have := hbe.size; simp; omega) (fun k' hk' => (hrow.lt k' hk').1)
            clear how hbe
            have HU := Lib.hid (show OwU w2 w1.heap.size w2.heap.size v' _ (opn (blkL ys k) (gx ys k)) by rw [Hop.out]; exact how2.out)
            obtain ⟨M, HM⟩ : ∃ M, Hid (M = m + 1) := ⟨_, Lib.hid rfl⟩
            have HL := Lib.hid (show (opn (blkL ys k) (gx ys k)).length = M by rw [Hop.out, HM.out]; simp [hm.out])
            have hM1 : 1 ≤ M ∧ M ≤ k + 1 := by have := HM.out; omega
            obtain ⟨A7, c7, rfl, hnc7, hcm7⟩ := own_shape HU.out.row
            rw [HL.out] at HU hnc7 ⊢
            clear hown2 hgrow hat hrow how2 hm
            obtain ⟨g0, g, c2, rfl, hc2, hc2m, hglo, hall⟩ := own_bump HU.out HL.out hM1.1 (by have h := Hlast.out; unfold lastR at h; rw [HL.out] at h; exact h)
            obtain ⟨hco, hq, hr, hfr, hU2⟩ := hall _ HU.out
            have HU2 := Lib.hid hU2
            rw [HB.out.symm] at HU2
            have hbe2 := hbe3.setCell (p := ⟨g, 1, none⟩) hglo (.int .i64 (mm + 1))
            have hi2 : (0 : Int) < 2 ∧ (1 : Int) < 2 := by omega
            have hi4 : (1 : Int) ≤ (M : Int) := by omega
            have hi3 : 0 ≤ (M : Int) - 1 ∧ (M : Int) - 1 < (M : Int) := by omega
            have HL2 := Lib.hid (show (blkL ys (k + 1)).length = M by rw [HB.out]; unfold bump; rw [List.length_set]; exact HL.out)
            clear hU2 HU HL hall hbe3
            go_wp2
            go_roundw
            case rel => exact ⟨k + 1, M, _, c7, _, by omega, by go_num, rfl, by omega, by omega, by omega, HL2, Lib.hid (HU2.out.wide (Nat.le_refl _) (by simp)), hbe2⟩
            case measure => first | (simp [intOf]; done) | (simp [intOf]; omega)
      · obtain rfl : k = n := by omega
        go_wp2
        go_ret2
        exact ⟨_, by rw [Hr.out]; rfl, ⟨us, by rw [Hr.out, Hn.out]; exact how.out.wide hs1 (Nat.le_refl _)⟩, hw1.trans (hbe.mono hs1)⟩
  · have hz : (lngC xs 0 != 0) = true := by simp [h0]
    have Hr := Lib.hid (blkB_bad h0)
    have Hcode := Lib.hid (show (lngB xs 0).2 = lngC xs 0 by rw [lngB_bad rfl h0])
    clear h0
    go_enter Try.func7, Try.ntmps7
    go_wp2_with fail
    refine (SequenceOf_any B _ xs _ (Hh.out.below ((hb1 _).mono hB)) (by simp; omega)).mono ?_
    rintro e w1 ⟨v1, rfl, ow1, hb⟩
    rw [Hcode.out]
    have hw1 := (hb1 _).trans (hb.mono (by simp))
    clear hb
    go_wp2_with fail
    go_ret2
    exact LiR.nil Hr.out hw1
set_option maxHeartbeats 3200000 in
theorem l04Blocks_any (B : Nat) (v : Value) (ys : List Int) (w : World) (h : Is w B v ys) (hB : B ≤ w.heap.size) (hl9 : ys.length ≤ 1000000000) :
    Calls Try.prog 31 #[v] w fun e w' => ∃ v', e = .returned v' ∧ OwR w' w.heap.size w'.heap.size v' (blkL ys ys.length) ∧ Below w.heap.size w w' := by
  obtain ⟨A1, n, c1, rfl, hnc1, hcm1, hrd1⟩ := h
  have Hn := Lib.hid hrd1.len
  rw [Hn.out] at hl9
  have Hrd := Lib.hid hrd1
  have hown0 := OwU.lit w (lo := w.heap.size) (Nat.le_refl _)
  have hbe0 : ∀ o, Below w.heap.size w (w.alloc o) := fun o => (Below.refl _ _).alloc (Nat.le_refl _) o
  unfold maxLen at hcm1
  clear hrd1
  go_enter Try.func31, Try.ntmps31
  go_wp2
  go_loopw [3, 4] (fun u i wr => ∃ (k m : Nat) (A6 : Option Addr) (c6 : Nat) (us : List Value), k ≤ n ∧ i = .int .i64 (k : Int) ∧ u = .slice A6 m c6 ∧ m ≤ k ∧ m ≤ c6 ∧ c6 ≤ 9223372036854775807 ∧ Hid ((blkL ys k).length = m) ∧ Hid (OwU wr w.heap.size wr.heap.size (.slice A6 m c6) us (blkL ys k)) ∧ Below w.heap.size w wr) (fun _ i _ => n - (intOf i).toNat)
  case atStart => exact ⟨0, 0, _, 0, [], Nat.zero_le _, rfl, rfl, by omega, by omega, by omega, Lib.hid rfl, Lib.hid (by simpa [blkL] using hown0), hbe0 _⟩
  case round =>
    clear hown0 hbe0
    obtain ⟨k, m, A6, c6, us, hk, rfl, rfl, hmk, hmc, hc6, hm, how, hbe⟩ := hrel
    have hbs := hbe.size
    by_cases hlt : k < n
    · obtain ⟨ad, rfl, hab, hc⟩ := Hrd.out.pos (by omega)
      have hcy : wr.cell? (ad.add k) = some (.int .i64 (gx ys k)) := (hbe.cell (by rw [block_of_add]; omega)).trans (hc k hlt)
      have hi1 : 0 ≤ (k : Int) ∧ (k : Int) < (n : Int) := by omega
      obtain ⟨hol, hone, mm, hlast, hmm0, hmmk, hB⟩ := opn_inv ys k
      have Hlast := Lib.hid hlast
      have HB := Lib.hid hB
      have Hinv := Lib.hid (blk_inv ys k).2
      clear hlast hB hol hone
      by_cases hk0 : k = 0
      · have hm0 : m = 0 := by omega
        have Hop := Lib.hid (opn_new (b := blkL ys k) (y := gx ys k) (.inl (by rw [hm.out]; exact hm0)))
        have hz : ((k : Int) == 0) = true := by simp; omega
        clear hc Hinv hm0 hk0
        have howd : ∀ j, OwU (wr.drewN j) w.heap.size wr.heap.size (.slice A6 m c6) us (blkL ys k) := fun j => how.out.later (below_drewN (Below.refl _ _) j)
        have hbed := fun j => below_drewN hbe j
        have hszd : ∀ j, (wr.drewN j).heap.size = wr.heap.size := fun j => rfl
        have hcyd : ∀ j, (wr.drewN j).cell? (ad.add k) = some (.int .i64 (gx ys k)) := fun j => hcy
        clear how hbe
        go_wp2_with fail
        go_quiet (fail)
        obtain ⟨wd, hwd⟩ : ∃ wd, wd = wr.drewN nq := ⟨_, rfl⟩
        have how := Lib.hid (howd nq)
        have hbe := hbed nq
        have hsz := hszd nq
        have hcy := hcyd nq
        rw [← hwd] at how hbe hsz hcy ⊢
        rw [← hsz] at how hbs
        clear howd hbed hszd hcyd hwd hsz
        have hrow : wd.ownsRow w.heap.size 24 1 (.slice A6 m c6) m us := by have h := how.out.row; rw [hm.out] at h; exact h
        go_wp2_with (at_builtin; refine wp_append_row rfl _ _ rfl w.heap.size _ m us rfl ((hrow.alloc _).alloc _) (wd.heap.size + 1) (some ⟨wd.heap.size, 0, none⟩) 2 2 1 rfl (by simp) (by omega) (by have := hbe.size; simp; omega) ?_)
        intro v' w2 hown2 hgrow hat
        have how2 := Lib.hid (OwU.snoc (ys := [gx ys k, 0]) how.out (Nat.le_refl _) hbs (((Below.refl _ _).alloc (Nat.le_refl _) _).alloc (by simp) _) (ow_lit2 wd _ _ _) (by rw [hm.out]; exact hown2) hgrow (by simp only [World.size_alloc]; exact hat))
        have hbe3 : Below w.heap.size w w2 := (hbe.trans ((((Below.refl _ _).alloc (Nat.le_refl _) _).alloc (by simp) _).mono hbs)).grown hgrow (by have := hbe.size; simp; omega) (fun k' hk' => (hrow.lt k' hk').1)
        clear how hbe
        have HU := Lib.hid (show OwU w2 w.heap.size w2.heap.size v' _ (opn (blkL ys k) (gx ys k)) by rw [Hop.out]; exact how2.out)
        obtain ⟨M, HM⟩ : ∃ M, Hid (M = m + 1) := ⟨_, Lib.hid rfl⟩
        have HL := Lib.hid (show (opn (blkL ys k) (gx ys k)).length = M by rw [Hop.out, HM.out]; simp [hm.out])
        have hM1 : 1 ≤ M ∧ M ≤ k + 1 := by have := HM.out; omega
        obtain ⟨A7, c7, rfl, hnc7, hcm7⟩ := own_shape HU.out.row
        rw [HL.out] at HU hnc7 ⊢
        clear hown2 hgrow hat hrow how2 hm
        obtain ⟨g0, g, c2, rfl, hc2, hc2m, hglo, hall⟩ := own_bump HU.out HL.out hM1.1 (by have h := Hlast.out; unfold lastR at h; rw [HL.out] at h; exact h)
        obtain ⟨hco, hq, hr, hfr, hU2⟩ := hall _ HU.out
        have HU2 := Lib.hid hU2
        rw [HB.out.symm] at HU2
        have hbe2 := hbe3.setCell (p := ⟨g, 1, none⟩) hglo (.int .i64 (mm + 1))
        have hi2 : (0 : Int) < 2 ∧ (1 : Int) < 2 := by omega
        have hi4 : (1 : Int) ≤ (M : Int) := by omega
        have hi3 : 0 ≤ (M : Int) - 1 ∧ (M : Int) - 1 < (M : Int) := by omega
        have HL2 := Lib.hid (show (blkL ys (k + 1)).length = M by rw [HB.out]; unfold bump; rw [List.length_set]; exact HL.out)
        clear hU2 HU HL hall hbe3
        go_wp2
        go_roundw
        case rel => exact ⟨k + 1, M, _, c7, _, by omega, by go_num, rfl, by omega, by omega, by omega, HL2, Lib.hid (HU2.out.wide (Nat.le_refl _) (by simp)), hbe2⟩
        case measure => first | (simp [intOf]; done) | (simp [intOf]; omega)
      · have hk1 : 1 ≤ k := by omega
        obtain ⟨hne0, m1, hl1, _, _⟩ := Hinv.out hk1
        have Hl1 := Lib.hid hl1
        have hz : ((k : Int) == 0) = false := by simp; omega
        have hcp : wr.cell? (ad.add (k - 1)) = some (.int .i64 (gx ys (k - 1))) := (hbe.cell (by rw [block_of_add]; omega)).trans (hc (k - 1) (by omega))
        have hj3 : 0 ≤ (k : Int) - 1 ∧ (k : Int) - 1 < (n : Int) := by omega
        have hj4 : (1 : Int) ≤ (k : Int) := by omega
        have hwk : IntKind.i64.wrap ((k : Int) - 1) = (k : Int) - 1 := IntWalk.i64_in _ (by omega)
        have hm00 : m ≠ 0 := by rw [← hm.out]; exact hne0
        clear hl1 Hinv hc
        by_cases hne : gx ys (k - 1) = gx ys k
        · have Hop := Lib.hid (opn_old (b := blkL ys k) (y := gx ys k) hne0 (by rw [Hl1.out]; exact hne))
          have hneq : (gx ys k != gx ys (k - 1)) = false := by simp [hne]
          clear hne0 hne
          have HU := Lib.hid (show OwU wr w.heap.size wr.heap.size (.slice A6 m c6) us (opn (blkL ys k) (gx ys k)) by rw [Hop.out]; exact how.out)
          have HL := Lib.hid (show (opn (blkL ys k) (gx ys k)).length = m by rw [Hop.out]; exact hm.out)
          have hm1 : 1 ≤ m := by omega
          clear how hm
          obtain ⟨g0, g, c2, rfl, hc2, hc2m, hglo, hall⟩ := own_bump HU.out HL.out hm1 (by have h := Hlast.out; unfold lastR at h; rw [HL.out] at h; exact h)
          obtain ⟨hco, hq, hr, hfr, hU2⟩ := hall _ HU.out
          have hi2 : (0 : Int) < 2 ∧ (1 : Int) < 2 := by omega
          have hi4 : (1 : Int) ≤ (m : Int) := by omega
          have hi3 : 0 ≤ (m : Int) - 1 ∧ (m : Int) - 1 < (m : Int) := by omega
          have HL2 := Lib.hid (show (blkL ys (k + 1)).length = m by rw [HB.out]; unfold bump; rw [List.length_set]; exact HL.out)
          have HU2 := Lib.hid (show ∀ j, OwU ((wr.drewN j).setCell ⟨g, 1, none⟩ (.int .i64 (mm + 1))) w.heap.size wr.heap.size (.slice (some ⟨g0, 0, none⟩) m c6) us (blkL ys (k + 1)) from fun j => by rw [HB.out]; exact (hall _ (HU.out.later (below_drewN (Below.refl _ _) j))).2.2.2.2)
          have hbe2 := fun j => (below_drewN hbe j).setCell (p := ⟨g, 1, none⟩) hglo (.int .i64 (mm + 1))
          clear hU2 HU HL hall hbe
          go_wp2_with fail
          go_quiet (fail)
          go_wp2
          go_roundw
          case rel => exact ⟨k + 1, m, _, c6, _, by omega, by go_num, rfl, by omega, by omega, by omega, HL2, Lib.hid ((HU2.out _).wide (Nat.le_refl _) (by simp)), hbe2 _⟩
          case measure => first | (simp [intOf]; done) | (simp [intOf]; omega)
        · have Hop := Lib.hid (opn_new (b := blkL ys k) (y := gx ys k) (.inr (by rw [Hl1.out]; exact hne)))
          have hneq : (gx ys k != gx ys (k - 1)) = true := by simp; exact fun e => hne e.symm
          clear hne0
          have howd : ∀ j, OwU (wr.drewN j) w.heap.size wr.heap.size (.slice A6 m c6) us (blkL ys k) := fun j => how.out.later (below_drewN (Below.refl _ _) j)
          have hbed := fun j => below_drewN hbe j
          have hszd : ∀ j, (wr.drewN j).heap.size = wr.heap.size := fun j => rfl
          have hcyd : ∀ j, (wr.drewN j).cell? (ad.add k) = some (.int .i64 (gx ys k)) := fun j => hcy
          clear how hbe
          go_wp2_with fail
          go_quiet (fail)
          obtain ⟨wd, hwd⟩ : ∃ wd, wd = wr.drewN nq := ⟨_, rfl⟩
          have how := Lib.hid (howd nq)
          have hbe := hbed nq
          have hsz := hszd nq
          have hcy := hcyd nq
          rw [← hwd] at how hbe hsz hcy ⊢
          rw [← hsz] at how hbs
          clear howd hbed hszd hcyd hwd hsz
          have hrow : wd.ownsRow w.heap.size 24 1 (.slice A6 m c6) m us := by have h := how.out.row; rw [hm.out] at h; exact h
          go_wp2_with (at_builtin; refine wp_append_row rfl _ _ rfl w.heap.size _ m us rfl ((hrow.alloc _).alloc _) (wd.heap.size + 1) (some ⟨wd.heap.size, 0, none⟩) 2 2 1 rfl (by simp) (by omega) (by have := hbe.size; simp; omega) ?_)
          intro v' w2 hown2 hgrow hat
          have how2 := Lib.hid (OwU.snoc (ys := [gx ys k, 0]) how.out (Nat.le_refl _) hbs (((Below.refl _ _).alloc (Nat.le_refl _) _).alloc (by simp) _) (ow_lit2 wd _ _ _) (by rw [hm.out]; exact hown2) hgrow (by simp only [World.size_alloc]; exact hat))
          have hbe3 : Below w.heap.size w w2 := (hbe.trans ((((Below.refl _ _).alloc (Nat.le_refl _) _).alloc (by simp) _).mono hbs)).grown hgrow (by have := hbe.size; simp; omega) (fun k' hk' => (hrow.lt k' hk').1)
          clear how hbe
          have HU := Lib.hid (show OwU w2 w.heap.size w2.heap.size v' _ (opn (blkL ys k) (gx ys k)) by rw [Hop.out]; exact how2.out)
          obtain ⟨M, HM⟩ : ∃ M, Hid (M = m + 1) := ⟨_, Lib.hid rfl⟩
          have HL := Lib.hid (show (opn (blkL ys k) (gx ys k)).length = M by rw [Hop.out, HM.out]; simp [hm.out])
          have hM1 : 1 ≤ M ∧ M ≤ k + 1 := by have := HM.out; omega
          obtain ⟨A7, c7, rfl, hnc7, hcm7⟩ := own_shape HU.out.row
          rw [HL.out] at HU hnc7 ⊢
          clear hown2 hgrow hat hrow how2 hm
          obtain ⟨g0, g, c2, rfl, hc2, hc2m, hglo, hall⟩ := own_bump HU.out HL.out hM1.1 (by have h := Hlast.out; unfold lastR at h; rw [HL.out] at h; exact h)
          obtain ⟨hco, hq, hr, hfr, hU2⟩ := hall _ HU.out
          have HU2 := Lib.hid hU2
          rw [HB.out.symm] at HU2
          have hbe2 := hbe3.setCell (p := ⟨g, 1, none⟩) hglo (.int .i64 (mm + 1))
          have hi2 : (0 : Int) < 2 ∧ (1 : Int) < 2 := by omega
          have hi4 : (1 : Int) ≤ (M : Int) := by omega
          have hi3 : 0 ≤ (M : Int) - 1 ∧ (M : Int) - 1 < (M : Int) := by omega
          have HL2 := Lib.hid (show (blkL ys (k + 1)).length = M by rw [HB.out]; unfold bump; rw [List.length_set]; exact HL.out)
          clear hU2 HU HL hall hbe3
          go_wp2
          go_roundw
          case rel => exact ⟨k + 1, M, _, c7, _, by omega, by go_num, rfl, by omega, by omega, by omega, HL2, Lib.hid (HU2.out.wide (Nat.le_refl _) (by simp)), hbe2⟩
          case measure => first | (simp [intOf]; done) | (simp [intOf]; omega)
    · obtain rfl : k = n := by omega
      go_wp2
      go_ret
      exact ⟨_, rfl, ⟨us, by rw [Hn.out]; exact how.out⟩, hbe⟩
set_option maxHeartbeats 800000 in
theorem sBlocksOf_any (B : Nat) (v : Value) (xs : List Int) (w : World) (h : Is w B v xs) (hB : B ≤ w.heap.size) : Calls Try.prog 8 #[.agg #[v]] w (LiR (blkB xs) w) := by
  have Hh := Lib.hid h
  have hb1 : ∀ o, Below w.heap.size w (w.alloc o) := fun o => (Below.refl _ _).alloc (Nat.le_refl _) o
  obtain ⟨A, n, c, rfl, hnc, hcm, hrd⟩ := h
  clear hrd
  by_cases h0 : lngC xs 0 = 0
  · have hz : (lngC xs 0 != 0) = false := by simp [h0]
    have Hr := Lib.hid (blkB_ok h0)
    have hl9 := Lib.hid (lngB_len xs 0)
    have Hs := Lib.hid (show seqB xs ++ ones 0 = (lngB xs 0).1 by rw [lngB_ok h0]; rfl)
    have HR := Lib.hid (lngC_bool h0).1
    clear h0
    go_enter Try.func8, Try.ntmps8
    go_wp2_with fail
    refine (l04Long_any B _ xs _ _ (Hh.out.below ((hb1 _).mono hB)) (by simp; omega)).mono ?_
    rintro e w1 ⟨rfl, hb⟩
    have hc1 : w1.cell? ⟨w.heap.size, 0, none⟩ = some (.slice A n c) := (hb.cell (p := ⟨w.heap.size, 0, none⟩) (by simp)).trans (by simp [go_sem])
    have hw1 := (hb1 _).trans (hb.mono (by simp))
    have hs1 := hw1.size
    clear hb
    go_wp2_with fail
    refine (l04Full_any B _ xs 0 _ (Hh.out.below (hw1.mono hB)) (by omega) HR.out (by omega)).mono ?_
    rintro e w2 ⟨v2, rfl, ow2, hb⟩
    have hw2 := hw1.trans (hb.mono hs1)
    have hs2 := hw2.size
    rw [Hs.out] at ow2
    have Ho := Lib.hid ow2.is
    clear hb ow2
    go_wp2_with fail
    refine (l04Blocks_any _ _ _ _ Ho.out (Nat.le_refl _) hl9.out).mono ?_
    rintro e w3 ⟨v3, rfl, ow3, hb⟩
    have hw3 := hw2.trans (hb.mono hs2)
    have Ho3 := Lib.hid (ow3.wide hs2 (Nat.le_refl _))
    clear hb ow3
    go_wp2_with fail
    go_ret2
    exact ⟨v3, by rw [Hr.out]; rfl, by rw [Hr.out]; exact Ho3.out, hw3⟩
  · have hz : (lngC xs 0 != 0) = true := by simp [h0]
    have Hr := Lib.hid (blkB_bad h0)
    clear h0
    go_enter Try.func8, Try.ntmps8
    go_wp2_with fail
    refine (l04Long_any B _ xs _ _ (Hh.out.below ((hb1 _).mono hB)) (by simp; omega)).mono ?_
    rintro e w1 ⟨rfl, hb⟩
    have hw1 := (hb1 _).trans (hb.mono (by simp))
    clear hb
    go_wp2_with fail
    go_ret2
    exact LiR.nil Hr.out hw1
end WD
end Go.Proofs.Ytcnoaclijhcckaa
