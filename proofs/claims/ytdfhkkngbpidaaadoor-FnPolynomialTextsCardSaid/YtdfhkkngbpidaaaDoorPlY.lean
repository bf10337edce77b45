/-
  PLAIN LAWS, CHAPTER 1: the text of a fraction, and what parses it; no program in sight.
-/
import Derived.Test.YtdfhkkngbpidaaaDoorPlW
namespace Go.Proofs.YtdfhkkngbpidaaaDoor.Pl
open Go
set_option linter.unusedVariables false
/-- A number as text. -/
def sgnI (z : Int) : List UInt8 := if z < 0 then 45 :: dec z.natAbs else dec z.toNat
theorem sgnI_eq (z : Int) : sgnI z = Lib.itoa z := rfl
theorem sgnI_neg {z : Int} (h : z < 0) : sgnI z = 45 :: decI (-z) := by
  unfold sgnI decI; rw [if_pos h, show z.natAbs = (-z).toNat by omega]
theorem sgnI_pos {z : Int} (h : ¬ z < 0) : sgnI z = decI z := by unfold sgnI decI; rw [if_neg h]
def txF (a b : Int) : List UInt8 := sgnI a ++ (if b = 1 then [] else 47 :: decI b)
def ftF (a b : Int) : List UInt8 × Int := if isFr a b then (txF a b, 0) else ([], 1)
theorem sgnI_no (z : Int) (c : UInt8) (h : isD c = false) (h2 : c ≠ 45) : c ∉ sgnI z := by
  by_cases hz : z < 0
  · rw [sgnI_neg hz]; simp only [List.mem_cons, not_or]; exact ⟨h2, decI_no _ _ h⟩
  · rw [sgnI_pos hz]; exact decI_no _ _ h
theorem dec_head45 (n : Nat) (r : List UInt8) : (dec n ++ r).head? ≠ some 45 := by
  have h := dec_all n
  cases hd : dec n with
  | nil => exact absurd hd (dec_ne n)
  | cons x l =>
    rw [hd] at h
    intro e
    simp at e
    have := h x (by simp)
    rw [e] at this; revert this; decide
theorem decI_head45 (z : Int) (r : List UInt8) : (decI z ++ r).head? ≠ some 45 := dec_head45 _ r
def sgo (s : List UInt8) : Option Int :=
  if s.head? = some 45 then (match vl (s.drop 1) with | some n => if 0 < n then some (-(n : Int)) else none | none => none)
  else (vl s).map (fun n : Nat => (n : Int))
theorem sgo_sgn (a : Int) (h : -1000000000 < a) (h' : a < 1000000000) : sgo (sgnI a) = some a := by
  by_cases hz : a < 0
  · rw [sgnI_neg hz]
    unfold sgo
    rw [if_pos (show (45 :: decI (-a)).head? = some 45 from rfl), show (45 :: decI (-a)).drop 1 = decI (-a) from rfl, vl_decI _ (by omega) (by omega)]
    simp only
    rw [if_pos (by omega)]
    congr 1; omega
  · rw [sgnI_pos hz]
    unfold sgo
    rw [if_neg (by have := dec_head45 a.toNat []; rwa [List.append_nil] at this), vl_decI _ (by omega) h']
    simp; omega
theorem sgo_some {s : List UInt8} {a : Int} (h : sgo s = some a) : -1000000000 < a ∧ a < 1000000000 := by
  unfold sgo at h
  split at h
  · split at h
    · rename_i n hn
      have := (vl_some hn).2
      split at h
      · simp at h; omega
      · cases h
    · cases h
  · cases hv : vl s with
    | none => rw [hv] at h; cases h
    | some n => rw [hv] at h; have := (vl_some hv).2; simp at h; omega
/-- The program's way. -/
def boI (t : List UInt8) : Option Int := if fnd 47 t then (vl (beh 47 t)).map (fun n : Nat => (n : Int)) else some 1
def pfI (t : List UInt8) : Option (Int × Int) :=
  match sgo (bef 47 t) with
  | none => none
  | some a => match boI t with
    | none => none
    | some b => if isFr a b && (txF a b == t) then some (a, b) else none
def pfF (t : List UInt8) : Int × Int × Int := match pfI t with | some (a, b) => (a, b, 0) | none => (0, 0, 6)
/-- The reference's way. -/
def bodS (t : List UInt8) : List UInt8 := if t.head? = some 45 then t.drop 1 else t
def sigS (t : List UInt8) : Int := if t.head? = some 45 then -1 else 1
def topS (t : List UInt8) : Int := vlI ((spl 47 (bodS t)).getD 0 [])
def botS (t : List UInt8) : Int := if (spl 47 (bodS t)).length = 2 then vlI ((spl 47 (bodS t)).getD 1 []) else 1
def pfT (t : List UInt8) : Int × Int × Int :=
  if decide (2 < (spl 47 (bodS t)).length) || decide (topS t < 0) then (0, 0, 6)
  else if isFr (sigS t * topS t) (botS t) && (txF (sigS t * topS t) (botS t) == t) then (sigS t * topS t, botS t, 0) else (0, 0, 6)
theorem boI_bd {t : List UInt8} {b : Int} (h : boI t = some b) : b < 1000000000 := by
  unfold boI at h
  split at h
  · cases hv : vl (beh 47 t) with
    | none => rw [hv] at h; cases h
    | some n => rw [hv] at h; have := (vl_some hv).2; simp at h; omega
  · simp at h; omega
theorem pfI_sound {t : List UInt8} {a b : Int} (h : pfI t = some (a, b)) : isFr a b = true ∧ txF a b = t ∧ (-1000000000 < a ∧ a < 1000000000) ∧ b < 1000000000 := by
  unfold pfI at h
  split at h
  · cases h
  · rename_i x hx
    split at h
    · cases h
    · rename_i y hy
      split at h
      · rename_i hh
        simp only [Option.some.injEq, Prod.mk.injEq] at h
        obtain ⟨rfl, rfl⟩ := h
        simp only [Bool.and_eq_true, beq_iff_eq] at hh
        exact ⟨hh.1, hh.2, sgo_some hx, boI_bd hy⟩
      · cases h
theorem isD47 : isD 47 = false := by decide
theorem pfI_tx {a b : Int} (h : isFr a b = true) (h1 : -1000000000 < a) (h2 : a < 1000000000) (h3 : b < 1000000000) : pfI (txF a b) = some (a, b) := by
  have hb := (isFr_bd h).2
  have hno : 47 ∉ sgnI a := sgnI_no a 47 isD47 (by decide)
  have key : bef 47 (txF a b) = sgnI a ∧ boI (txF a b) = some b := by
    unfold boI
    by_cases hb1 : b = 1
    · have e : txF a b = sgnI a := by unfold txF; rw [if_pos hb1]; simp
      rw [e]
      obtain ⟨q1, q2, q3⟩ := bef_no hno
      rw [q1, q3, hb1]; exact ⟨rfl, rfl⟩
    · have e : txF a b = sgnI a ++ 47 :: decI b := by unfold txF; rw [if_neg hb1]
      rw [e]
      obtain ⟨q1, q2, q3⟩ := bef_at (b := decI b) hno
      rw [q1, q2, q3, if_pos rfl, vl_decI b (by omega) h3]
      refine ⟨rfl, ?_⟩
      simp; omega
  unfold pfI
  rw [key.1, key.2, sgo_sgn a h1 h2]
  simp [h]
theorem pfT_tx {a b : Int} (h : isFr a b = true) (h1 : -1000000000 < a) (h2 : a < 1000000000) (h3 : b < 1000000000) : pfT (txF a b) = (a, b, 0) := by
  have hb := (isFr_bd h).2
  -- the body is a numeral and the rest
  have hbody : ∃ n : Int, 0 ≤ n ∧ n < 1000000000 ∧ bodS (txF a b) = decI n ++ (if b = 1 then [] else 47 :: decI b) ∧ sigS (txF a b) * n = a := by
    by_cases ha : a < 0
    · refine ⟨-a, by omega, by omega, ?_, ?_⟩
      · unfold bodS txF; rw [sgnI_neg ha]; simp
      · unfold sigS txF; rw [sgnI_neg ha]; simp
    · refine ⟨a, by omega, h2, ?_, ?_⟩
      · unfold bodS txF; rw [sgnI_pos ha, if_neg (decI_head45 a _)]
      · unfold sigS txF; rw [sgnI_pos ha, if_neg (decI_head45 a _)]; omega
  obtain ⟨n, hn0, hn1, hbd, hsg⟩ := hbody
  have hno : 47 ∉ decI n := decI_no n 47 isD47
  have hparts : topS (txF a b) = n ∧ botS (txF a b) = b ∧ ¬ 2 < (spl 47 (bodS (txF a b))).length := by
    unfold topS botS
    rw [hbd]
    by_cases hb1 : b = 1
    · rw [if_pos hb1, List.append_nil, spl_no hno]
      simp only [List.length_singleton, List.getD_eq_getElem?_getD, List.getElem?_cons_zero, Option.getD_some]
      rw [vlI_decI n hn0 hn1, if_neg (by decide)]
      exact ⟨rfl, hb1.symm, by decide⟩
    · rw [if_neg hb1, spl_at hno, spl_no (decI_no b 47 isD47)]
      simp only [List.length_cons, List.length_nil, List.getD_eq_getElem?_getD, List.getElem?_cons_zero, List.getElem?_cons_succ, Option.getD_some]
      rw [vlI_decI n hn0 hn1, vlI_decI b (by omega) h3]
      exact ⟨rfl, by simp, by decide⟩
  unfold pfT
  rw [hparts.1, hparts.2.1, hsg, decide_eq_false hparts.2.2, decide_eq_false (show ¬ n < 0 by omega), h]
  simp
theorem pfT_sound {t : List UInt8} {a b : Int} (h : pfT t = (a, b, 0)) : isFr a b = true ∧ txF a b = t ∧ (-1000000000 < a ∧ a < 1000000000) ∧ b < 1000000000 := by
  unfold pfT at h
  split at h
  · simp at h
  · rename_i hc
    split at h
    · rename_i hh
      simp only [Prod.mk.injEq] at h
      obtain ⟨e1, e2, _⟩ := h
      rw [e1, e2] at hh
      simp only [Bool.and_eq_true, beq_iff_eq] at hh
      simp only [Bool.or_eq_true, decide_eq_true_eq, not_or] at hc
      have ht := vlI_bd ((spl 47 (bodS t)).getD 0 [])
      have hb2 : b < 1000000000 := by
        rw [← e2]; unfold botS; split
        · exact (vlI_bd _).2
        · omega
      refine ⟨hh.1, hh.2, ?_, hb2⟩
      have h0 : 0 ≤ topS t := by omega
      have h1 : topS t < 1000000000 := ht.2
      rw [← e1]; unfold sigS; split <;> omega
    · simp at h
theorem pfT_bad {t : List UInt8} (h : (pfT t).2.2 ≠ 0) : pfT t = (0, 0, 6) := by
  unfold pfT at h ⊢
  split
  · rfl
  · split
    · rename_i h1 h2; rw [if_neg h1, if_pos h2] at h; exact absurd rfl h
    · rfl
theorem pfT_eq (t : List UInt8) : pfT t = pfF t := by
  unfold pfF
  cases hp : pfI t with
  | some x =>
    obtain ⟨a, b⟩ := x
    obtain ⟨h1, h2, h3, h4⟩ := pfI_sound hp
    simp only
    rw [← h2]; exact pfT_tx h1 h3.1 h3.2 h4
  | none =>
    simp only
    by_cases hz : (pfT t).2.2 = 0
    · obtain ⟨h1, h2, h3, h4⟩ := pfT_sound (t := t) (a := (pfT t).1) (b := (pfT t).2.1) (by rw [← hz])
      have := pfI_tx h1 h3.1 h3.2 h4
      rw [h2, hp] at this; cases this
    · exact pfT_bad hz
theorem pfI_none1 {t : List UInt8} (h : sgo (bef 47 t) = none) : pfF t = (0, 0, 6) := by unfold pfF pfI; rw [h]
theorem pfI_none2 {t : List UInt8} (h : boI t = none) : pfF t = (0, 0, 6) := by
  unfold pfF pfI; cases sgo (bef 47 t) <;> simp [h]
theorem pfI_no {t : List UInt8} {a b : Int} (h : sgo (bef 47 t) = some a) (h2 : boI t = some b) (h3 : isFr a b = false ∨ txF a b ≠ t) : pfF t = (0, 0, 6) := by
  unfold pfF pfI; rw [h, h2]
  rcases h3 with h3 | h3 <;> simp [h3]
theorem pfI_yes {t : List UInt8} {a b : Int} (h : sgo (bef 47 t) = some a) (h2 : boI t = some b) (h3 : isFr a b = true) (h4 : txF a b = t) : pfF t = (a, b, 0) := by
  unfold pfF pfI; rw [h, h2]
  simp [h3, h4]
theorem pfT_out {t : List UInt8} (h : 2 < (spl 47 (bodS t)).length ∨ topS t < 0) : pfT t = (0, 0, 6) := by
  unfold pfT
  rw [if_pos]
  rcases h with h | h <;> simp [h]
theorem pfT_no {t : List UInt8} {a b : Int} (h1 : ¬ 2 < (spl 47 (bodS t)).length) (h2 : ¬ topS t < 0) (ha : sigS t * topS t = a) (hb : botS t = b) (h3 : isFr a b = false ∨ txF a b ≠ t) : pfT t = (0, 0, 6) := by
  unfold pfT; rw [ha, hb]
  rcases h3 with h3 | h3 <;> simp [h3]
theorem pfT_yes {t : List UInt8} {a b : Int} (h1 : ¬ 2 < (spl 47 (bodS t)).length) (h2 : ¬ topS t < 0) (ha : sigS t * topS t = a) (hb : botS t = b) (h3 : isFr a b = true) (h4 : txF a b = t) : pfT t = (a, b, 0) := by
  unfold pfT; rw [ha, hb]
  simp [h1, h2, h3, h4]
theorem bodS_minus {t : List UInt8} (h : t.head? = some 45) : bodS t = t.drop 1 ∧ sigS t = -1 := by unfold bodS sigS; rw [if_pos h, if_pos h]; exact ⟨rfl, rfl⟩
theorem bodS_plus {t : List UInt8} (h : t.head? ≠ some 45) : bodS t = t ∧ sigS t = 1 := by unfold bodS sigS; rw [if_neg h, if_neg h]; exact ⟨rfl, rfl⟩
theorem boI_no {t : List UInt8} (h : fnd 47 t = false) : boI t = some 1 := by unfold boI; rw [h]; rfl
theorem boI_bad {t : List UInt8} (h : fnd 47 t = true) (h2 : vlOk (beh 47 t) = false) : boI t = none := by unfold boI; rw [h, vl_no h2]; rfl
theorem boI_got {t : List UInt8} (h : fnd 47 t = true) (h2 : vlOk (beh 47 t) = true) : boI t = some (nmI (beh 47 t)) := by unfold boI; rw [h, nm_val h2]; rfl
theorem sgo_minus {s : List UInt8} (h : s.head? = some 45) (h2 : vlOk (s.drop 1) = true) (h3 : 0 < nmI (s.drop 1)) : sgo s = some (-(nmI (s.drop 1))) := by
  unfold sgo; rw [if_pos h, nm_val h2]
  simp only
  rw [if_pos (by unfold nmI at h3; omega)]; rfl
theorem sgo_minus_no {s : List UInt8} (h : s.head? = some 45) (h2 : vlOk (s.drop 1) = false ∨ ¬ 0 < nmI (s.drop 1)) : sgo s = none := by
  unfold sgo; rw [if_pos h]
  cases hv : vlOk (s.drop 1)
  · rw [vl_no hv]
  · rw [nm_val hv]
    simp only
    rw [if_neg]
    rcases h2 with h2 | h2
    · rw [hv] at h2; cases h2
    · unfold nmI at h2; omega
theorem sgo_plus {s : List UInt8} (h : s.head? ≠ some 45) (h2 : vlOk s = true) : sgo s = some (nmI s) := by unfold sgo; rw [if_neg h, nm_val h2]; rfl
theorem sgo_plus_no {s : List UInt8} (h : s.head? ≠ some 45) (h2 : vlOk s = false) : sgo s = none := by unfold sgo; rw [if_neg h, vl_no h2]; rfl
theorem sgnI_size (z : Int) (h0 : -1000000000000000 ≤ z) (h1 : z ≤ 1000000000000000) : (sgnI z).length ≤ 17 := by
  unfold sgnI
  split
  · rw [List.length_cons, dec_len]
    have := nD_le 16 z.natAbs (by decide) (by rw [show (10 : Nat) ^ 16 = 10000000000000000 by decide]; omega)
    omega
  · rw [dec_len]
    have := nD_le 16 z.toNat (by decide) (by rw [show (10 : Nat) ^ 16 = 10000000000000000 by decide]; omega)
    omega
end Go.Proofs.YtdfhkkngbpidaaaDoor.Pl
