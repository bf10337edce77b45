/-
  PLAIN LAWS, CHAPTER 4: the blocks of a descending list, and the branch that they spell.
-/
import Derived.Test.YtcnoaclijhcckaaPlI
import Derived.Test.YtcnoaclijhcckaaPlK
namespace Go.Proofs.Ytcnoaclijhcckaa
set_option linter.unusedVariables false
namespace Pl
open K
/-- The last block's value. -/
def lv (m : Int) : List (List Int) → Int
  | [] => m
  | s :: t => lv (gx s 0) t
theorem lv_snoc (v c : Int) : ∀ (m : Int) (b : List (List Int)), lv m (b ++ [[v, c]]) = v
  | m, [] => by simp [lv, gx]
  | m, s :: t => by rw [List.cons_append, lv]; exact lv_snoc v c _ t
theorem Dn_snoc (v c : Int) : ∀ (m : Int) (b : List (List Int)), Dn m (b ++ [[v, c]]) ↔ Dn m b ∧ (1 ≤ v ∧ v < lv m b ∧ 1 ≤ c)
  | m, [] => by
    constructor
    · rintro ⟨⟨v', c', e, h1, h2, h3⟩, _⟩
      cases e
      exact ⟨trivial, h1, h2, h3⟩
    · rintro ⟨_, h1, h2, h3⟩
      exact ⟨⟨v, c, rfl, h1, h2, h3⟩, trivial⟩
  | m, s :: t => by
    rw [List.cons_append]
    unfold Dn lv
    rw [Dn_snoc v c _ t]
    constructor
    · rintro ⟨a, b, d⟩; exact ⟨⟨a, b⟩, d⟩
    · rintro ⟨⟨a, b⟩, d⟩; exact ⟨a, b, d⟩
theorem ex_snoc (v c : Int) (b : List (List Int)) : ex (b ++ [[v, c]]) = ex b ++ List.replicate c.toNat v := by
  simp [ex, gx]
theorem set_last (b : List (List Int)) (r r' : List Int) : (b ++ [r]).set ((b ++ [r]).length - 1) r' = b ++ [r'] := by
  rw [show (b ++ [r]).length - 1 = b.length by simp, List.set_append_right _ _ (Nat.le_refl _)]
  simp
theorem split_last {b : List (List Int)} (h : b.length ≠ 0) : ∃ a, b = a ++ [lastR b] := by
  have hne : b ≠ [] := fun e => h (by rw [e]; rfl)
  refine ⟨b.dropLast, ?_⟩
  have e1 := List.dropLast_concat_getLast hne
  have e2 : lastR b = b.getLast hne := by
    unfold lastR
    rw [gxx_eq _ _ (by omega), List.getLast_eq_getElem]
  rw [e2]; exact e1.symm
theorem blk_dn {xs : List Int} (hd : ∀ i, 1 ≤ i → i < xs.length → gx xs i ≤ gx xs (i - 1)) (hp : ∀ i, i < xs.length → 1 ≤ gx xs i) :
    ∀ k, 1 ≤ k → k ≤ xs.length → Dn (gx xs 0 + 1) (blkL xs k) ∧ ex (blkL xs k) = xs.take k ∧ lv (gx xs 0 + 1) (blkL xs k) = gx xs (k - 1)
  | 0, h, _ => by omega
  | k + 1, _, hk => by
    have hpk := hp k (by omega)
    have htake : xs.take (k + 1) = xs.take k ++ [gx xs k] := by rw [gx_eq xs k (by omega), List.take_succ_eq_append_getElem (by omega)]
    rcases Nat.eq_zero_or_pos k with h0 | h0
    · subst h0
      have e : blkL xs 1 = [[gx xs 0, 1]] := by
        show bump (opn [] (gx xs 0)) (gx (lastR (opn [] (gx xs 0))) 0) (gx (lastR (opn [] (gx xs 0))) 1) = _
        rw [opn_new (.inl rfl), List.nil_append]
        simp [bump, lastR, gxx, gx]
      rw [e]
      refine ⟨⟨⟨_, _, rfl, hpk, by omega, by omega⟩, trivial⟩, ?_, by simp [lv, gx]⟩
      rw [htake]; simp [ex, gx]
    · obtain ⟨i1, i2, i3⟩ := blk_dn hd hp k h0 (by omega)
      obtain ⟨_, hb⟩ := blk_inv xs k
      obtain ⟨hb0, m, hlast, hm1, hm2⟩ := hb h0
      obtain ⟨a, ha⟩ := split_last hb0
      rw [hlast] at ha
      have hdk := hd k h0 (by omega)
      show Dn _ (bump (opn (blkL xs k) (gx xs k)) (gx (lastR (opn (blkL xs k) (gx xs k))) 0) (gx (lastR (opn (blkL xs k) (gx xs k))) 1)) ∧ ex (bump (opn (blkL xs k) (gx xs k)) (gx (lastR (opn (blkL xs k) (gx xs k))) 0) (gx (lastR (opn (blkL xs k) (gx xs k))) 1)) = _ ∧ lv _ (bump (opn (blkL xs k) (gx xs k)) (gx (lastR (opn (blkL xs k) (gx xs k))) 0) (gx (lastR (opn (blkL xs k) (gx xs k))) 1)) = _
      by_cases hy : gx (lastR (blkL xs k)) 0 = gx xs k
      · rw [opn_old hb0 hy]
        have hyv : gx xs (k - 1) = gx xs k := by rw [← hy, hlast]; simp [gx]
        have e : bump (blkL xs k) (gx (lastR (blkL xs k)) 0) (gx (lastR (blkL xs k)) 1) = a ++ [[gx xs k, m + 1]] := by
          rw [hy, hlast, ha]
          unfold bump
          rw [set_last]
          simp [gx]
        rw [e]
        rw [ha, hyv] at i1 i2
        rw [Dn_snoc] at i1
        rw [ex_snoc] at i2
        refine ⟨(Dn_snoc _ _ _ _).2 ⟨i1.1, i1.2.1, i1.2.2.1, by omega⟩, ?_, by rw [lv_snoc]; simp⟩
        rw [ex_snoc, htake, ← i2, show (m + 1).toNat = m.toNat + 1 by omega, List.replicate_succ', List.append_assoc]
      · rw [opn_new (.inr hy)]
        have hyv : gx xs (k - 1) ≠ gx xs k := by rw [hlast] at hy; simpa [gx] using hy
        rw [lastR_snoc]
        have e : bump (blkL xs k ++ [[gx xs k, 0]]) (gx [gx xs k, 0] 0) (gx [gx xs k, 0] 1) = blkL xs k ++ [[gx xs k, 1]] := by
          unfold bump
          rw [set_last]
          simp [gx]
        rw [e]
        refine ⟨(Dn_snoc _ _ _ _).2 ⟨i1, hpk, by rw [i3]; omega, by omega⟩, ?_, by rw [lv_snoc]; simp⟩
        rw [ex_snoc, htake, i2]; simp
/-- The blocks, parted into the first one and the others. -/
theorem blk_parts {xs : List Int} (hd : ∀ i, 1 ≤ i → i < xs.length → gx xs i ≤ gx xs (i - 1)) (hp : ∀ i, i < xs.length → 1 ≤ gx xs i) (h1 : 1 ≤ xs.length) :
    ∃ cnt tl, blkL xs xs.length = [gx xs 0, cnt] :: tl ∧ 1 ≤ cnt ∧ cnt ≤ xs.length ∧ Dn (gx xs 0) tl ∧ List.replicate cnt.toNat (gx xs 0) ++ ex tl = xs := by
  obtain ⟨i1, i2, i3⟩ := blk_dn hd hp xs.length h1 (Nat.le_refl _)
  rw [List.take_length] at i2
  cases hb : blkL xs xs.length with
  | nil => rw [hb] at i2; simp [ex] at i2; rw [i2] at h1; simp at h1
  | cons s t =>
    rw [hb] at i1 i2
    obtain ⟨⟨v, c, rfl, a1, a2, a3⟩, a4⟩ := i1
    rw [ex_cons] at i2
    have hv : gx xs 0 = v := by
      rw [← i2, gx_append, if_pos (by simp; omega)]
      obtain ⟨d, hd⟩ : ∃ d, c.toNat = d + 1 := ⟨c.toNat - 1, by omega⟩
      rw [hd, List.replicate_succ]; rfl
    subst hv
    have gv : gx [gx xs 0, c] 0 = gx xs 0 := by simp [gx]
    rw [gv] at a4
    refine ⟨c, t, rfl, a3, ?_, a4, i2⟩
    have := congrArg List.length i2
    simp at this
    omega
theorem desc_no {xs : List Int} (hp : ∀ i, i < xs.length → 1 ≤ gx xs i) (h1 : 1 ≤ xs.length) (i : Nat) (hi1 : 1 ≤ i) (hi : i < xs.length) (h : gx xs (i - 1) < gx xs i) : bsq xs = none := by
  cases e : pI (gx xs 0) 0 [gx xs 0] xs with
  | none => exact bsq_no e
  | some T =>
    have := (pI_desc (gx xs 0).toNat _ _ _ _ T (Nat.le_refl _) (hp 0 h1) (fun y hy => by
      obtain ⟨q, hq, rfl⟩ := List.getElem_of_mem hy
      have := hp q hq; rwa [gx_eq _ _ hq] at this) e).1
    rw [List.pairwise_iff_getElem] at this
    have h2 := this (i - 1) i (by omega) hi (by omega)
    rw [gx_eq _ _ hi, gx_eq _ _ (show i - 1 < xs.length by omega)] at h
    omega
theorem bsq_pS {xs : List Int} {cnt : Int} {tl : List (List Int)} (h1 : 1 ≤ gx xs 0) (hc : 1 ≤ cnt) (hd : Dn (gx xs 0) tl) (he : List.replicate cnt.toNat (gx xs 0) ++ ex tl = xs) :
    pI (gx xs 0) 0 [gx xs 0] xs = pS (gx xs 0) cnt 0 [gx xs 0] tl := by
  have h := pI_pS (gx xs 0).toNat (gx xs 0) cnt 0 [gx xs 0] tl (Nat.le_refl _) h1 (by omega) hd
  rwa [he] at h
/-- How much the blocks hold. -/
def cnts (tl : List (List Int)) : Int := (tl.map fun s => gx s 1).sum
end Pl
end Go.Proofs.Ytcnoaclijhcckaa
