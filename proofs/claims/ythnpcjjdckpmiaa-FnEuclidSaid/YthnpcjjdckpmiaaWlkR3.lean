/-
  WALKS, CHAPTER 1: continued fractions.
-/
import Derived.Test.YthnpcjjdckpmiaaWlkR2
import Derived.Test.YthnpcjjdckpmiaaKitS
namespace Go.Proofs.Ythnpcjjdckpmiaa
open Go.RowKit
set_option linter.unusedVariables false
namespace WA
open K Pl
theorem eucF_pairs (a b : Int) : ∀ s ∈ (eucF a b).1, s.length ≤ 2 := by
  unfold eucF
  split
  · intro s hs
    obtain ⟨q, r, rfl, _⟩ := steps_shape b.toNat a.toNat b.toNat (Nat.le_refl _) s hs
    simp
  · simp
theorem eucF_len (a b : Int) : (eucF a b).1.length ≤ 1000000000 := by
  unfold eucF
  split
  · rename_i h
    simp only [Bool.and_eq_true] at h
    have hb := isNat_true.1 h.2
    have := steps_len b.toNat a.toNat b.toNat (Nat.le_refl _)
    simp; omega
  · simp
set_option maxHeartbeats 1600000 in
theorem ContinuedFraction_any (a b : Int) (w : World) : Calls Try.prog 8 #[.int .i64 a, .int .i64 b] w (Li2 (cfF a b) w) := by
  cases hA : isNat a
  · have Hr := Lib.hid (show cfF a b = ([], 2) by unfold cfF; rw [hA]; rfl)
    go_enter Try.func8, Try.ntmps8
    go_wp2_with (go_at_call 22; refine (isNatural_any _ _).mono ?_; rintro e w' ⟨rfl, rfl⟩)
    go_ret2
    exact Li2.nil Hr.out (Below.refl _ _)
  · cases hB : isNat b
    · have Hr := Lib.hid (show cfF a b = ([], 2) by unfold cfF; rw [hA, hB]; rfl)
      go_enter Try.func8, Try.ntmps8
      go_wp2_with (go_at_call 22; refine (isNatural_any _ _).mono ?_; rintro e w' ⟨rfl, rfl⟩)
      go_ret2
      exact Li2.nil Hr.out (Below.refl _ _)
    · have ba := isNat_true.1 hA
      have bb := isNat_true.1 hB
      obtain ⟨x, rfl⟩ := Int.eq_ofNat_of_zero_le (show 0 ≤ a by omega)
      obtain ⟨y, rfl⟩ := Int.eq_ofNat_of_zero_le (show 0 ≤ b by omega)
      have hx9 : x ≤ 1000000000 := by omega
      have hy9 : y ≤ 1000000000 := by omega
      have Hr := Lib.hid (show cfF (x : Int) (y : Int) = (cf x y, 0) by unfold cfF; rw [hA, hB]; rfl)
      have Hp := Lib.hid (steps_shape y x y (Nat.le_refl _))
      obtain ⟨S, HS⟩ : ∃ S, Hid (steps x y = S) := ⟨_, Lib.hid rfl⟩
      have Hcf := Lib.hid (show cf x y = S.map (fun s => s.getD 0 0) by unfold cf; rw [HS.out])
      have hn9 : S.length ≤ 1000000000 := by have := steps_len y x y (Nat.le_refl _); rw [HS.out] at this; omega
      rw [HS.out] at Hp
      clear ba bb
      go_enter Try.func8, Try.ntmps8
      go_wp2_with (go_at_call 22; refine (isNatural_any _ _).mono ?_; rintro e w' ⟨rfl, rfl⟩)
      refine (steps_any x y _ hx9 hy9).mono ?_
      rintro e w1 ⟨v1, rfl, ow1, hb1⟩
      rw [HS.out] at ow1
      have own0 := own_later (World.ownsRow_lit (base := w.heap.size) (e := 2) (size := 1) w #[] 0 (Nat.le_refl _) (by decide) rfl) hb1
      have hbw : Below w.heap.size w w1 := ((Below.refl _ _).alloc (Nat.le_refl _) _).trans (hb1.mono (by simp))
      have hs1 := hb1.size
      simp only [World.size_alloc] at ow1
      clear hb1
      obtain ⟨us, hU⟩ := ow1
      obtain ⟨A1, c1, rfl, hnc1, hcm1⟩ := own_shape hU.row
      obtain ⟨n, Hn⟩ : ∃ n, Hid (S.length = n) := ⟨_, Lib.hid rfl⟩
      rw [Hn.out] at hnc1 hn9 hU ⊢
      have HU := Lib.hid hU
      clear hU
      go_wp2
      go_loopw [6, 22] (fun u i wr => ∃ k : Nat, k ≤ n ∧ i = .int .i64 k ∧ Hid (wr.ownsRow w.heap.size 2 1 u (fsts S k).length ((fsts S k).map (Value.int .i64))) ∧ Hid (∀ g, u.ownBlock = some g → g < w.heap.size + 1 ∨ w1.heap.size ≤ g) ∧ Hid (OwU wr (w.heap.size + 1) w1.heap.size (.slice A1 n c1) us S) ∧ w1.heap.size ≤ wr.heap.size ∧ Below w.heap.size w wr) (fun _ i _ => n - (intOf i).toNat)
      case atStart => exact ⟨0, Nat.zero_le _, rfl, Lib.hid own0, Lib.hid (fun g e => by simp [Value.ownBlock] at e; omega), HU, Nat.le_refl _, hbw⟩
      case round =>
        clear own0 hbw
        obtain ⟨k, hk, rfl, hown, hgb, hU, hsz, hbe⟩ := hrel
        have hs := hbe.size
        by_cases hlt : k < n
        · obtain ⟨A2, c2, e2, _, _, hpos⟩ := hU.out.is.sh
          rw [Hn.out] at e2 hpos
          obtain ⟨ad, rfl, hab, hcell⟩ := hpos (by omega)
          cases e2
          obtain ⟨A3, n2, c3, eu, hnc2, hcm2, hrd2⟩ := hU.out.is.each k (by rw [Hn.out]; exact hlt)
          have hcu := hcell k hlt
          rw [eu] at hcu
          obtain ⟨q, r, esr, hq0, hr1, hq2, hr2⟩ := Hp.out (gxx S k) (gxx_mem S k (by rw [Hn.out]; exact hlt))
          have hl2 : n2 = 2 := by have := hrd2.len; rw [esr] at this; simpa using this.symm
          subst hl2
          obtain ⟨ad2, rfl, hab2, hc2⟩ := hrd2.pos (by omega)
          have hc0 : wr.cell? ad2 = some (.int .i64 (gx (gxx S k) 0)) := by have := hc2 0 (by omega); simpa [Addr.add] using this
          have hi1 : 0 ≤ (k : Int) ∧ (k : Int) < (n : Int) := by omega
          have hn0 : (0 : Int) < 2 := by omega
          have Hsn := Lib.hid (fsts_snoc S k)
          have Hlk := Lib.hid (fsts_len S k)
          unfold maxLen at hcm2
          clear hpos hcell hc2 hrd2 hq2 hr2 esr eu
          go_wp2_with (at_builtin; refine wp_append_int_at rfl _ _ rfl w.heap.size _ (fsts S k) rfl (hown.out.alloc _) wr.heap.size (gx (gxx S k) 0) 1 rfl (by simp) (by rw [Hlk.out]; omega) (by simp; omega) ?_)
          intro v' w2 hown2 hgrow hat
          have hbe2 := below_append hbe hs hown.out (Nat.le_refl _) hgrow
          have Hown2 := Lib.hid (show w2.ownsRow w.heap.size 2 1 v' (fsts S (k + 1)).length ((fsts S (k + 1)).map (Value.int .i64)) by rw [Hsn.out]; simpa using hown2)
          have HU2 := Lib.hid ((hU.out.alloc _).grown hgrow hgb.out)
          have hsz2 : w1.heap.size ≤ w2.heap.size := by have := hgrow.size; simp at this; omega
          have Hgb2 := Lib.hid (show ∀ g, v'.ownBlock = some g → g < w.heap.size + 1 ∨ w1.heap.size ≤ g from fun g e => by
            rcases hat with h | h
            · exact hgb.out g (by rw [← h]; exact e)
            · rw [h] at e; simp at e; omega)
          clear hown hown2 hgrow hat hU hgb hbe
          go_wp2
          go_roundw
          case rel => exact ⟨k + 1, by omega, by go_num, Hown2, Hgb2, HU2, hsz2, hbe2⟩
          case measure => first | (simp [intOf]; done) | (simp [intOf]; omega)
        · obtain rfl : k = n := by omega
          have Hr2 := Lib.hid (show cfF (x : Int) (y : Int) = (fsts S k, 0) by rw [Hr.out, Hcf.out, fsts_all S k Hn.out])
          go_wp2
          go_ret2
          exact ⟨_, by rw [Hr2.out]; rfl, by rw [Hr2.out]; exact Ow.of_own hown.out, hbe⟩
end WA
end Go.Proofs.Ythnpcjjdckpmiaa
