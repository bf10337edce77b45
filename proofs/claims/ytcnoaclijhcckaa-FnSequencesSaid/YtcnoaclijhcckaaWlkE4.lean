/-
  WALKS, CHAPTER 4: the branch of a sequence, by the reference.
-/
import Derived.Test.YtcnoaclijhcckaaPlL
import Derived.Test.YtcnoaclijhcckaaWlkE2
import Derived.Test.YtcnoaclijhcckaaWlkD8
namespace Go.Proofs.Ytcnoaclijhcckaa
open Go.RowKit
set_option linter.unusedVariables false
namespace WE
open K Pl WA WC WD WL
/-- A world after some draws. -/
def DrawnE (w w' : World) : Prop := ∃ m, w' = w.drewN m
theorem DrawnE.refl (w : World) : DrawnE w w := ⟨0, rfl⟩
theorem DrawnE.drewN {w w' : World} (h : DrawnE w w') (n : Nat) : DrawnE w (w'.drewN n) := by
  obtain ⟨m, rfl⟩ := h
  exact ⟨m + n, by simp⟩
theorem DrawnE.cell {w w' : World} (h : DrawnE w w') (a : Addr) : w'.cell? a = w.cell? a := by obtain ⟨m, rfl⟩ := h; rfl
theorem DrawnE.frozen {w w' : World} (h : DrawnE w w') (a : Addr) : w'.frozen? a = w.frozen? a := by obtain ⟨m, rfl⟩ := h; rfl
theorem DrawnE.size {w w' : World} (h : DrawnE w w') : w'.heap.size = w.heap.size := by obtain ⟨m, rfl⟩ := h; rfl
theorem DrawnE.below {w w' : World} (h : DrawnE w w') (B : Nat) : Below B w w' := by obtain ⟨m, rfl⟩ := h; exact below_drewN (Below.refl _ _) _
theorem drop_at {S : List (List Int)} {t : Nat} {a : List Int} {r : List (List Int)} (h : S.drop t = a :: r) : t < S.length ∧ gxx S t = a ∧ S.drop (t + 1) = r := by
  have ht : t < S.length := by
    rcases Nat.lt_or_ge t S.length with h2 | h2
    · exact h2
    · rw [List.drop_of_length_le h2] at h; cases h
  rw [List.drop_eq_getElem_cons ht] at h
  cases h
  exact ⟨ht, gxx_eq _ _ ht, rfl⟩
theorem drop_set {S : List (List Int)} {t : Nat} {a b : List Int} {r : List (List Int)} (h : S.drop t = a :: r) : (S.set t b).drop t = b :: r := by
  obtain ⟨h1, _, h3⟩ := drop_at h
  rw [List.drop_eq_getElem_cons (by simpa using h1), List.drop_set_of_lt (Nat.lt_succ_self t), h3]
  simp
theorem half_pow {e m : Nat} (h : e * 2 ^ m ≤ 128) (h2 : 2 ≤ e) : m ≤ 6 := by
  rcases Nat.lt_or_ge m 7 with h3 | h3
  · omega
  · have := Nat.pow_le_pow_right (show 0 < 2 by omega) h3
    have := Nat.mul_le_mul h2 this
    omega
theorem half_step {e g m : Nat} (h : e * 2 ^ m ≤ 128) (h2 : 2 * g ≤ e) : g * 2 ^ (m + 1) ≤ 128 := by
  rw [Nat.pow_succ, Nat.mul_comm (2 ^ m) 2, ← Nat.mul_assoc, Nat.mul_comm g 2]
  exact Nat.le_trans (Nat.mul_le_mul_right _ h2) h
/-- A row {y, m} of a row of rows: where it lies, and what is owned behind a store of its count. -/
theorem own_at {w : World} {lo hi n c1 g0 i : Nat} {us : List Value} {S : List (List Int)} {y m : Int} (h : OwU w lo hi (.slice (some ⟨g0, 0, none⟩) n c1) us S) (hn : S.length = n) (hk : i < n) (he : gxx S i = [y, m]) :
    ∃ g c, 2 ≤ c ∧ c ≤ 9223372036854775807 ∧ lo ≤ g ∧ g < hi ∧ ∀ w', OwU w' lo hi (.slice (some ⟨g0, 0, none⟩) n c1) us S → w'.cell? ⟨g0, i, none⟩ = some (.slice (some ⟨g, 0, none⟩) 2 c) ∧ w'.cell? ⟨g, 0, none⟩ = some (.int .i64 y) ∧ w'.cell? ⟨g, 1, none⟩ = some (.int .i64 m) ∧ w'.frozen? ⟨g, 1, none⟩ = false ∧
      ∀ m2 : Int, OwU (w'.setCell ⟨g, 1, none⟩ (.int .i64 m2)) lo hi (.slice (some ⟨g0, 0, none⟩) n c1) us (S.set i [y, m2]) := by
  subst hn
  have hek0 := h.each i hk
  rw [he] at hek0
  obtain ⟨g, c, eu⟩ := Go.Joins.ownsRow_form hek0.1 (by simp)
  have hl := hek0.low (k := g) (by rw [eu]; rfl)
  have hk0 := hek0.1
  rw [eu] at hk0
  obtain ⟨A', c', e, h1, h2⟩ := own_shape hk0
  cases e
  refine ⟨g, c, h1, h2, hl.1, hl.2.1, fun w' h' => ?_⟩
  have hek := h'.each i hk
  rw [he] at hek
  have hk2 := hek.1
  rw [eu] at hk2
  refine ⟨?_, by have := hk2.cellAt 0 (by simp); simpa using this, by have := hk2.cellAt 1 (by simp); simpa using this, hk2.frozenAt 1, fun m2 => ?_⟩
  · have := h'.row.cellAt i (by omega)
    rw [this, ux_get? us i (by have := h'.len; omega), eu]; rfl
  · have hst := hk2.stored 1 (.int .i64 m2)
    refine OwU.turn h' hk (by rw [eu]; exact hst.2) ?_
    rw [eu]
    exact ⟨hst.1, fun k hk3 => by rw [← eu] at hk3; exact hek.2 k hk3⟩
theorem chg_below {B : Nat} {w w' : World} (h : Below B w w') : Chg B w.heap.size w w' := ⟨h.os, h.tape, h.output, h.size, fun k hk hn => h.block k (by omega)⟩
theorem Bv.chg {w w' : World} {b lo n c l m : Nat} {A : Option Addr} {xs : List Int} (h : Bv w b lo A n c xs) (hc : Chg l m w w') (hd : m ≤ lo) (hb : m ≤ b) : Bv w' b lo A n c xs :=
  ⟨h.len, hc.cell h.cell (.inr hb), (World.frozen?_of_block (w := w) (hc.block b h.lt (by omega))).trans h.free, own_keep (hi := w.heap.size) h.own (fun k hk => (h.own.lt k hk).2) hc (.inr hd), h.apart⟩
theorem blk_cnt (ys : List Int) : ∀ k, ∀ s ∈ blkL ys k, gx s 1 ≤ k
  | 0, s, hs => by simp [blkL] at hs
  | k + 1, s, hs => by
    have ih := blk_cnt ys k
    have ho : ∀ s ∈ opn (blkL ys k) (gx ys k), gx s 1 ≤ k := by
      intro s hs
      unfold opn at hs
      split at hs
      · rcases List.mem_append.1 hs with h | h
        · exact ih s h
        · simp at h; subst h; simp [gx]
      · exact ih s hs
    have hne : (opn (blkL ys k) (gx ys k)).length ≠ 0 := (opn_inv ys k).2.1
    have hl : gx (lastR (opn (blkL ys k) (gx ys k))) 1 ≤ k := ho _ (by unfold lastR; exact gxx_mem _ _ (by omega))
    unfold blkL bump at hs
    rcases List.mem_or_eq_of_mem_set hs with h | h
    · have := ho s h; omega
    · subst h; simp [gx] at hl ⊢; omega
set_option maxHeartbeats 400000 in
theorem l04List_any (B : Nat) (v : Value) (xs : List Int) (w : World) (h : Is w B v xs) (hB : B ≤ w.heap.size) : Calls Try.prog 49 #[v] w fun e w' => e = .returned (.bool (ptsB xs)) ∧ w = w' := by
  obtain ⟨A, n, c, rfl, hnc, hcm, hrd⟩ := h
  have Hlen := Lib.hid hrd.len
  unfold maxLen at hcm
  go_enter Try.func49, Try.ntmps49
  go_wp2
  go_loop [3] (fun i => ∃ k : Nat, k ≤ n ∧ i = .int .i64 k ∧ Hid (∀ j, j < k → inR (gx xs j) 1 64 = true)) (fun i => n - (intOf i).toNat)
  case atStart => exact ⟨0, Nat.zero_le _, rfl, Lib.hid (fun j h1 => by omega)⟩
  case round =>
    obtain ⟨k, hk, rfl, hpre⟩ := hrel
    by_cases hlt : k < n
    · obtain ⟨ad, rfl, hab, hc⟩ := hrd.pos (by omega)
      have hc1 : w.cell? (ad.add k) = some (.int .i64 (gx xs k)) := hc k hlt
      have hi1 : 0 ≤ (k : Int) ∧ (k : Int) < (n : Int) := by omega
      clear hc
      cases he : inR (gx xs k) 1 64
      · have Hres := Lib.hid (show ptsB xs = false by
          unfold ptsB
          rw [show wiB xs 1 64 = false from allF_false k (by omega) (by rw [Hlen.out]; exact hlt) he]; simp)
        go_wp2_with (go_at_call 50; refine (l01In_any _ _ _ _).mono ?_; rintro e w' ⟨rfl, rfl⟩)
        go_ret
        exact ⟨ret_b Hres.out.symm, rfl⟩
      · have Hpre2 := Lib.hid (show ∀ j, j < k + 1 → inR (gx xs j) 1 64 = true from fun j h2 => by
          rcases Nat.lt_or_ge j k with h3 | h3
          · exact hpre.out j h3
          · obtain rfl : j = k := by omega
            exact he)
        go_wp2_with (go_at_call 50; refine (l01In_any _ _ _ _).mono ?_; rintro e w' ⟨rfl, rfl⟩)
        go_round
        case rel => exact ⟨k + 1, by omega, by go_num, Hpre2⟩
        case measure => first | (simp [intOf]; done) | (simp [intOf]; omega)
    · obtain rfl : k = n := by omega
      have Hres := Lib.hid (show ptsB xs = inR (k : Int) 1 400 by
        unfold ptsB
        rw [show wiB xs 1 64 = true from allF_true.2 fun j h1 h2 => by rw [Hlen.out] at h2; exact hpre.out j (by omega), Hlen.out]
        unfold inR
        rw [Bool.and_true]
        congr 1 <;> (apply decide_eq_decide.2; omega))
      go_wp2_with (go_at_call 50; refine (l01In_any _ _ _ _).mono ?_; rintro e w' ⟨rfl, rfl⟩)
      go_ret
      exact ⟨ret_b Hres.out.symm, rfl⟩
end WE
end Go.Proofs.Ytcnoaclijhcckaa
