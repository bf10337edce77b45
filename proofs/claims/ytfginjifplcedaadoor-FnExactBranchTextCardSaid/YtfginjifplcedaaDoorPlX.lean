/-
  PLAIN LAWS, CHAPTER 3: the text of a branch, and what parses it; no program in sight.
-/
import Derived.Test.YtfginjifplcedaaDoorPlW
import Derived.Test.YtfginjifplcedaaDoorPlE
namespace Go.Proofs.YtfginjifplcedaaDoor.Pl
open Go
set_option linter.unusedVariables false
def tlB (r : List Int) : List UInt8 := if r = [] then [] else 59 :: jn 44 (r.map decI)
/-- The text of a list of terms. -/
def txB (xs : List Int) : List UInt8 := 40 :: ((decI (gx xs 0) ++ tlB (xs.drop 1)) ++ [41])
/-- The text behind k terms. -/
def txL (xs : List Int) (k : Nat) : List UInt8 := 40 :: (decI (gx xs 0) ++ tlB ((xs.drop 1).take (k - 1)))
theorem jn_snoc (c : UInt8) (w : List UInt8) : ∀ (ws : List (List UInt8)), ws ≠ [] → jn c (ws ++ [w]) = jn c ws ++ c :: w
  | [], h => absurd rfl h
  | [v], _ => rfl
  | u :: v :: ws, _ => by
    show u ++ c :: jn c (v :: ws ++ [w]) = (u ++ c :: jn c (v :: ws)) ++ c :: w
    rw [jn_snoc c w (v :: ws) (by simp)]; simp
theorem txL_one (xs : List Int) : txL xs 1 = 40 :: decI (gx xs 0) := by simp [txL, tlB]
theorem txL_step (xs : List Int) (k : Nat) (h1 : 1 ≤ k) (h : k < xs.length) : txL xs (k + 1) = txL xs k ++ (if k = 1 then 59 else 44) :: decI (gx xs k) := by
  obtain ⟨j, rfl⟩ : ∃ j, k = j + 1 := ⟨k - 1, by omega⟩
  unfold txL
  have e : (xs.drop 1).take (j + 1) = (xs.drop 1).take j ++ [gx xs (j + 1)] := by
    rw [take_snoc _ _ (by simp; omega)]
    congr 2
    simp [gx]
  rw [show j + 1 + 1 - 1 = j + 1 from rfl, show j + 1 - 1 = j from rfl, e]
  rcases Nat.eq_zero_or_pos j with rfl | hj
  · simp [tlB, jn]
  · have hne : (xs.drop 1).take j ≠ [] := by
      intro e2; have := congrArg List.length e2; simp at this; omega
    unfold tlB
    rw [if_neg (by simp), if_neg hne, if_neg (by omega), List.map_append, List.map_singleton, jn_snoc _ _ _ (by intro e; exact hne (List.map_eq_nil_iff.1 e))]
    simp
theorem txL_all (xs : List Int) : txB xs = txL xs xs.length ++ [41] := by
  unfold txB txL
  rw [List.take_of_length_le (by simp)]; simp
theorem txL_len (xs : List Int) (k : Nat) (hk : k ≤ xs.length) (h : ∀ i, i < xs.length → 0 ≤ gx xs i ∧ gx xs i ≤ 2000) (h1 : 1 ≤ k) : (txL xs k).length ≤ 20 * k := by
  induction k with
  | zero => omega
  | succ k ih =>
    rcases Nat.eq_zero_or_pos k with rfl | hp
    · rw [txL_one]
      have := dec_len_le (gx xs 0).toNat (by have := h 0 (by omega); omega)
      unfold decI; simp; omega
    · rw [txL_step xs k hp (by omega)]
      have := ih (by omega) hp
      have := dec_len_le (gx xs k).toNat (by have := h k (by omega); omega)
      unfold decI; simp; omega

/-! ### parsing -/
def shell (m : Nat) (t : List UInt8) : Bool := decide (m ≤ t.length) && ((t.getD 0 0 == 40) && (t.getD (t.length - 1) 0 == 41))
def mid (t : List UInt8) : List UInt8 := (t.drop 1).take (t.length - 2)
/-- The program's way: the terms, or none. -/
def pbI (t : List UInt8) : Option (List Int) :=
  if shell 3 t then
    match vl (bef 59 (mid t)) with
    | none => none
    | some n => if fnd 59 (mid t) then (match vls (spl 44 (beh 59 (mid t))) with | none => none | some l => some ((n : Int) :: l)) else some [(n : Int)]
  else none
theorem pbI_shell {t : List UInt8} (h : shell 3 t = true) : pbI t = match vl (bef 59 (mid t)) with
    | none => none
    | some n => if fnd 59 (mid t) then (match vls (spl 44 (beh 59 (mid t))) with | none => none | some l => some ((n : Int) :: l)) else some [(n : Int)] := by
  unfold pbI; rw [if_pos h]
theorem pbI_bad {t : List UInt8} (h : shell 3 t = true) (h1 : vlOk (bef 59 (mid t)) = false) : pbI t = none := by
  rw [pbI_shell h, vl_no h1]
theorem pbI_one {t : List UInt8} (h : shell 3 t = true) (h1 : vlOk (bef 59 (mid t)) = true) (h2 : fnd 59 (mid t) = false) : pbI t = some [nmI (bef 59 (mid t))] := by
  rw [pbI_shell h, nm_val h1, h2]; rfl
theorem pbI_more {t : List UInt8} (h : shell 3 t = true) (h1 : vlOk (bef 59 (mid t)) = true) (h2 : fnd 59 (mid t) = true) : pbI t = (vls (spl 44 (beh 59 (mid t)))).map (fun l => nmI (bef 59 (mid t)) :: l) := by
  rw [pbI_shell h, nm_val h1, h2]
  simp only [if_true]
  cases vls (spl 44 (beh 59 (mid t))) <;> rfl
def pbB (t : List UInt8) : List Int × Int := match pbI t with | some xs => if isBr xs then (xs, 0) else ([], 6) | none => ([], 6)
/-- The reference's way. -/
def outS (t : List UInt8) : List Int := vlI ((spl 59 (mid t)).getD 0 []) :: (if (spl 59 (mid t)).length = 2 then (spl 44 ((spl 59 (mid t)).getD 1 [])).map vlI else [])
def pbT (t : List UInt8) : List Int × Int :=
  if shell 2 t && (!decide (2 < (spl 59 (mid t)).length) && (isBr (outS t) && (txB (outS t) == t))) then (outS t, 0) else ([], 6)

theorem shell_of {m : Nat} {t : List UInt8} (h2 : 2 ≤ m) (h : shell m t = true) : t = 40 :: (mid t ++ [41]) := by
  unfold shell at h
  simp only [Bool.and_eq_true, decide_eq_true_eq, beq_iff_eq] at h
  obtain ⟨h0, h1, h3⟩ := h
  apply List.ext_getElem?
  intro i
  have hl : 2 ≤ t.length := by omega
  rcases Nat.eq_zero_or_pos i with rfl | hi
  · rw [List.getD_eq_getElem?_getD, List.getElem?_eq_getElem (by omega)] at h1
    simp at h1 ⊢
    rw [List.getElem?_eq_getElem (by omega), h1]
  · obtain ⟨j, rfl⟩ : ∃ j, i = j + 1 := ⟨i - 1, by omega⟩
    rw [List.getElem?_cons_succ]
    have hml : (mid t).length = t.length - 2 := by unfold mid; simp; omega
    rcases Nat.lt_or_ge j (t.length - 2) with hj | hj
    · rw [List.getElem?_append_left (by omega)]
      unfold mid
      rw [List.getElem?_take, if_pos hj, List.getElem?_drop, Nat.add_comm]
    · rw [List.getElem?_append_right (by omega), hml]
      rcases Nat.eq_or_lt_of_le hj with e | e
      · rw [← e]
        rw [List.getD_eq_getElem?_getD, List.getElem?_eq_getElem (by omega)] at h3
        simp at h3
        rw [List.getElem?_eq_getElem (by omega)]
        simp
        rw [← h3]; congr 1; omega
      · rw [List.getElem?_eq_none (by omega), List.getElem?_eq_none (by simp; omega)]
theorem shell_mk (m : List UInt8) (k : Nat) (hk : k ≤ m.length + 2) : shell k (40 :: (m ++ [41])) = true ∧ mid (40 :: (m ++ [41])) = m := by
  constructor
  · unfold shell
    simp [List.getD_eq_getElem?_getD]
    omega
  · unfold mid; simp
def midB (xs : List Int) : List UInt8 := decI (gx xs 0) ++ tlB (xs.drop 1)
theorem jn_no (c d : UInt8) (h : c ≠ d) : ∀ (ws : List (List UInt8)), (∀ w ∈ ws, c ∉ w) → c ∉ jn d ws
  | [], _ => by simp [jn]
  | [w], hw => hw w (by simp)
  | u :: v :: ws, hw => by
    show c ∉ u ++ d :: jn d (v :: ws)
    have := jn_no c d h (v :: ws) (fun w hm => hw w (by simp at hm ⊢; exact .inr hm))
    simp only [List.mem_append, List.mem_cons, not_or]
    exact ⟨hw u (by simp), h, this⟩
theorem isD59 : isD 59 = false := by decide
theorem isD44 : isD 44 = false := by decide
theorem mid_parts (xs : List Int) (h0 : 0 < xs.length) :
    (xs.length = 1 → 59 ∉ midB xs ∧ midB xs = decI (gx xs 0) ∧ xs = [gx xs 0]) ∧
    (1 < xs.length → 59 ∉ decI (gx xs 0) ∧ midB xs = decI (gx xs 0) ++ 59 :: jn 44 ((xs.drop 1).map decI) ∧ 59 ∉ jn 44 ((xs.drop 1).map decI) ∧ spl 44 (jn 44 ((xs.drop 1).map decI)) = (xs.drop 1).map decI ∧ xs = gx xs 0 :: xs.drop 1) := by
  have hx : xs = gx xs 0 :: xs.drop 1 := by
    have := drop_gx xs 0 h0
    simpa using this
  constructor
  · intro h1
    have hd : xs.drop 1 = [] := by rw [List.drop_eq_nil_iff]; omega
    have e : midB xs = decI (gx xs 0) := by unfold midB tlB; rw [hd]; simp
    refine ⟨by rw [e]; exact decI_no _ _ isD59, e, by rw [hd] at hx; exact hx⟩
  · intro h1
    have hd : xs.drop 1 ≠ [] := by rw [Ne, List.drop_eq_nil_iff]; omega
    refine ⟨decI_no _ _ isD59, by unfold midB tlB; rw [if_neg hd], jn_no 59 44 (by decide) _ ?_, spl_jn 44 _ (by intro e; exact hd (List.map_eq_nil_iff.1 e)) ?_, hx⟩
    · intro w hw; obtain ⟨z, _, rfl⟩ := List.mem_map.1 hw; exact decI_no _ _ isD59
    · intro w hw; obtain ⟨z, _, rfl⟩ := List.mem_map.1 hw; exact decI_no _ _ isD44
theorem isBr_mem {xs : List Int} (h : isBr xs = true) : ∀ z ∈ xs, 0 ≤ z ∧ z < 1000000000 := by
  intro z hz
  obtain ⟨i, hi, rfl⟩ := List.getElem_of_mem hz
  have := isBr_range h i hi
  rw [gx_eq xs i hi] at this
  omega
theorem pbI_tx {xs : List Int} (h : isBr xs = true) : pbI (txB xs) = some xs := by
  have h0 := (isBr_true.1 h).1
  have hm := isBr_mem h
  have hg : 0 ≤ gx xs 0 ∧ gx xs 0 < 1000000000 := hm _ (gx_mem xs 0 h0)
  obtain ⟨p1, p2⟩ := mid_parts xs h0
  have hlen : 1 ≤ (midB xs).length := by unfold midB; have := decI_pos (gx xs 0); simp; omega
  have hs := shell_mk (midB xs) 3 (by omega)
  unfold pbI
  rw [show txB xs = 40 :: (midB xs ++ [41]) from rfl, hs.1, hs.2, if_pos rfl]
  rcases Nat.eq_or_lt_of_le (show 1 ≤ xs.length by omega) with h1 | h1
  · obtain ⟨q1, q2, q3⟩ := p1 h1.symm
    obtain ⟨b1, b2, b3⟩ := bef_no q1
    rw [b1, b3, q2, vl_decI _ hg.1 hg.2]
    simp only [Bool.false_eq_true, if_false]
    rw [show ((gx xs 0).toNat : Int) = gx xs 0 by omega, ← q3]
  · obtain ⟨q1, q2, q3, q4, q5⟩ := p2 h1
    obtain ⟨b1, b2, b3⟩ := bef_at (b := jn 44 ((xs.drop 1).map decI)) q1
    rw [q2, b1, b2, b3, vl_decI _ hg.1 hg.2]
    simp only [if_true]
    rw [q4, vls_map (fun z hz => hm z (List.mem_of_mem_drop hz))]
    simp only
    rw [show ((gx xs 0).toNat : Int) = gx xs 0 by omega, ← q5]
theorem pbT_tx {xs : List Int} (h : isBr xs = true) : pbT (txB xs) = (xs, 0) := by
  have h0 := (isBr_true.1 h).1
  have hm := isBr_mem h
  have hg : 0 ≤ gx xs 0 ∧ gx xs 0 < 1000000000 := hm _ (gx_mem xs 0 h0)
  obtain ⟨p1, p2⟩ := mid_parts xs h0
  have hs := shell_mk (midB xs) 2 (by omega)
  have hmid : mid (txB xs) = midB xs := hs.2
  have hsh : shell 2 (txB xs) = true := hs.1
  have hout : outS (txB xs) = xs ∧ ¬ 2 < (spl 59 (mid (txB xs))).length := by
    unfold outS
    rw [hmid]
    rcases Nat.eq_or_lt_of_le (show 1 ≤ xs.length by omega) with h1 | h1
    · obtain ⟨q1, q2, q3⟩ := p1 h1.symm
      rw [spl_no q1, q2]
      simp only [List.length_singleton, List.getD_eq_getElem?_getD, List.getElem?_cons_zero, Option.getD_some]
      rw [vlI_decI _ hg.1 hg.2, if_neg (by decide)]
      exact ⟨q3.symm, by decide⟩
    · obtain ⟨q1, q2, q3, q4, q5⟩ := p2 h1
      rw [q2, spl_at q1, spl_no q3]
      simp only [List.length_cons, List.length_nil, List.getD_eq_getElem?_getD, List.getElem?_cons_zero, List.getElem?_cons_succ, Option.getD_some]
      rw [if_pos trivial, q4, vlI_decI _ hg.1 hg.2, List.map_map]
      have e : (xs.drop 1).map (vlI ∘ decI) = xs.drop 1 := by
        conv => rhs; rw [← List.map_id (xs.drop 1)]
        exact List.map_congr_left fun z hz => by
          have := hm z (List.mem_of_mem_drop hz)
          exact vlI_decI z this.1 this.2
      rw [e]
      exact ⟨q5.symm, by decide⟩
  unfold pbT
  rw [hsh, hout.1, h, decide_eq_false hout.2]
  simp
theorem pbI_sound {t : List UInt8} {xs : List Int} (h : pbI t = some xs) : t = txB xs := by
  unfold pbI at h
  split at h
  · rename_i hs
    have ht := shell_of (by decide) hs
    split at h
    · cases h
    · rename_i n hn
      have hd := (vl_some hn).1
      rcases cut_cases 59 (mid t) with hc | ⟨a, b, ha, hab⟩
      · obtain ⟨b1, b2, b3⟩ := bef_no hc
        rw [b3] at h; simp at h; subst h
        rw [b1] at hd
        rw [ht, hd]
        unfold txB tlB; simp [gx, decI_nat]
      · rw [hab] at h hd
        obtain ⟨b1, b2, b3⟩ := bef_at (b := b) ha
        rw [b2, b3] at h; rw [b1] at hd; simp only [if_true] at h
        split at h
        · cases h
        · rename_i l hl
          simp at h; subst h
          obtain ⟨e, hll⟩ := vls_some hl
          have hj := (jn_spl 44 b).1
          have hne : l ≠ [] := by
            rintro rfl; simp at e; exact spl_ne 44 b e
          rw [e] at hj
          rw [ht, hab, hd, ← hj]
          unfold txB tlB
          simp [gx, decI_nat, hne]
  · cases h
theorem pbT_eq (t : List UInt8) : pbT t = pbB t := by
  unfold pbB
  cases hp : pbI t with
  | some xs =>
    simp only
    cases hb : isBr xs with
    | true => rw [if_pos rfl, pbI_sound hp]; exact pbT_tx hb
    | false =>
      simp only [Bool.false_eq_true, if_false]
      unfold pbT
      split
      · rename_i h
        simp only [Bool.and_eq_true, beq_iff_eq] at h
        have e := pbI_tx h.2.2.1
        rw [h.2.2.2, hp] at e
        rw [Option.some.inj e, h.2.2.1] at hb; cases hb
      · rfl
  | none =>
    simp only
    unfold pbT
    split
    · rename_i h
      simp only [Bool.and_eq_true, beq_iff_eq] at h
      have e := pbI_tx h.2.2.1
      rw [h.2.2.2, hp] at e; cases e
    · rfl
theorem pbB_len (t : List UInt8) : (pbB t).1.length ≤ 7 := by
  unfold pbB
  split
  · split
    · rename_i h; exact isBr_len_le h
    · simp
  · simp
end Go.Proofs.YtfginjifplcedaaDoor.Pl
