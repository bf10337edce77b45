/-
  PLAIN LAWS, CHAPTER 2: the reference's way of reading a term.
-/
import Derived.Test.YtdfhkkngbpidaaaDoorPlZ
namespace Go.Proofs.YtdfhkkngbpidaaaDoor.Pl
open Go
set_option linter.unusedVariables false
theorem dgB_vlOk (s : List UInt8) : vlOk (s.take (dk s)) = dgB s := by
  have hle := dk_le s
  have hlen : (s.take (dk s)).length = dk s := by simp; omega
  rcases Nat.eq_zero_or_pos (dk s) with h0 | h0
  · rw [dgB_nil h0, h0]; rfl
  · have hh : (s.take (dk s)).head? = some (bx s 0) := by
      rw [← bx_head s (by omega)]
      cases s with
      | nil => simp at hle; omega
      | cons c r => obtain ⟨m, hm⟩ : ∃ m, dk (c :: r) = m + 1 := ⟨dk (c :: r) - 1, by omega⟩
                    rw [hm]; rfl
    rw [Bool.eq_iff_iff, vlOk_iff, dgB_iff, hlen, hh]
    constructor
    · rintro ⟨h1, h2, _⟩; exact ⟨h1, fun h => h2 ⟨h.1, by rw [h.2]⟩⟩
    · rintro ⟨h1, h2⟩; exact ⟨h1, fun h => h2 ⟨h.1, Option.some.inj h.2⟩, dk_all s⟩
/-- The number that a text begins with, as the reference reads it. -/
def nS (s : List UInt8) : Int := vlI (s.take (dk s))
theorem nS_yes {s : List UInt8} (h : (dgR s).2.2 = true) : nS s = ((dgR s).1 : Int) ∧ (dgR s).2.1 = s.drop (dk s) := by
  have hb : dgB s = true := by
    rcases hb : dgB s with _ | _
    · rw [dgR_no hb] at h; cases h
    · rfl
  unfold nS
  rw [vlI_yes (by rw [dgB_vlOk]; exact hb), dgR_yes hb]; exact ⟨rfl, rfl⟩
theorem nS_no {s : List UInt8} (h : (dgR s).2.2 = false) : nS s = -1 := by
  have hb : dgB s = false := by
    rcases hb : dgB s with _ | _
    · rfl
    · rw [dgR_yes hb] at h; cases h
  unfold nS
  exact vlI_no (by rw [dgB_vlOk]; exact hb)
theorem nS_bd (s : List UInt8) : -1 ≤ nS s ∧ nS s < 1000000000 := vlI_bd _
/-- The coefficient. -/
def cS (l : List UInt8) : Int := if dk l = 0 then 1 else nS l
/-- The exponent, and how many bytes are read. -/
def kS (l : List UInt8) : Int × Nat :=
  if (l.drop (dk l)).head? = some 116 then
    (if (l.drop (dk l + 1)).head? = some 94 then (nS (l.drop (dk l + 2)), dk l + 2 + dk (l.drop (dk l + 2))) else (1, dk l + 1))
  else (0, dk l)
def badS (l : List UInt8) : Bool := (kS l).2 == 0 || (decide (cS l < 0) || !inR (kS l).1 0 2000)
theorem cS_bd (l : List UInt8) : -1 ≤ cS l ∧ cS l < 1000000000 := by
  unfold cS; split
  · omega
  · exact nS_bd l
theorem kS_bd (l : List UInt8) : -1 ≤ (kS l).1 ∧ (kS l).1 < 1000000000 := by
  unfold kS; split
  · split
    · exact nS_bd _
    · simp
  · simp
theorem head_lt {l : List UInt8} {n : Nat} {c : UInt8} (h : (l.drop n).head? = some c) : n < l.length := by
  rcases Nat.lt_or_ge n l.length with h1 | h1
  · exact h1
  · rw [List.drop_of_length_le h1] at h; cases h
theorem kS_le (l : List UInt8) : (kS l).2 ≤ l.length := by
  have := dk_le l
  unfold kS; split
  · next h =>
    have := head_lt h
    split
    · next h2 =>
      have := head_lt h2
      have := dk_le (l.drop (dk l + 2))
      rw [List.length_drop] at this
      simp only; omega
    · simp only; omega
  · exact this
/-- Behind a coefficient c and n bytes: the power. -/
theorem pw_kS {l : List UInt8} {n c : Nat} (hn : n = dk l) (hh : (l.drop n).head? = some 116) :
    (inR (kS l).1 0 2000 = false ∧ (pwR c (l.drop n) = none ∨ ∃ k r, pwR c (l.drop n) = some (c, k, r) ∧ 2000 < k)) ∨
    (inR (kS l).1 0 2000 = true ∧ pwR c (l.drop n) = some (c, (kS l).1.toNat, l.drop (kS l).2)) := by
  subst hn
  have e1 : (l.drop (dk l)).drop 1 = l.drop (dk l + 1) := List.drop_drop
  have e2 : (l.drop (dk l)).drop 2 = l.drop (dk l + 2) := List.drop_drop
  unfold pwR kS
  rw [if_pos hh, e1, e2]
  by_cases h94 : (l.drop (dk l + 1)).head? = some 94
  · rw [if_pos h94, if_pos h94]
    cases hd : (dgR (l.drop (dk l + 2))).2.2
    · have := nS_no hd
      exact .inl ⟨by show inR (nS _) 0 2000 = false; rw [this]; decide, .inl (by simp)⟩
    · obtain ⟨h1, h2⟩ := nS_yes hd
      rw [if_pos rfl, h1, h2, List.drop_drop]
      by_cases hk : (dgR (l.drop (dk l + 2))).1 ≤ 2000
      · exact .inr ⟨inR_true.2 (by simp only; omega), by simp⟩
      · exact .inl ⟨by rw [Bool.eq_false_iff]; intro e; have := inR_true.1 e; simp only at this; omega, .inr ⟨_, _, rfl, by omega⟩⟩
  · rw [if_neg h94, if_neg h94]
    exact .inr ⟨inR_true.2 (by simp only; omega), rfl⟩
theorem S_bad {l : List UInt8} (h : badS l = true) : bR l = none ∨ ∃ c k r, bR l = some (c, k, r) ∧ 2000 < k := by
  by_cases hE : l = []
  · subst hE; exact .inl rfl
  · by_cases hh : l.head? = some 116
    · have hd : dk l = 0 := by
        cases l with
        | nil => cases hh
        | cons c r => rw [dk_cons]; simp at hh; subst hh; rfl
      have hb : bR l = pwR 1 (l.drop 0) := by unfold bR; rw [if_neg hE, if_pos hh]; rfl
      rw [hb]
      rcases pw_kS (c := 1) hd.symm (by simpa using hh) with ⟨_, h2 | ⟨k, r, h2, h3⟩⟩ | ⟨h1, h2⟩
      · exact .inl h2
      · exact .inr ⟨1, k, r, h2, h3⟩
      · exfalso
        unfold badS at h
        rw [h1] at h
        have hc : cS l = 1 := by unfold cS; rw [if_pos hd]
        rw [hc] at h
        have hk : (kS l).2 ≠ 0 := by
          unfold kS; rw [if_pos (by rw [hd]; simpa using hh)]; split <;> simp
        simp at h; exact hk h
    · cases hd : (dgR l).2.2
      · exact .inl (by unfold bR; rw [if_neg hE, if_neg hh, hd]; rfl)
      · obtain ⟨h1, h2⟩ := nS_yes hd
        have hd0 : dk l ≠ 0 := fun e => by
          rw [dgR_no (dgB_nil e)] at hd; cases hd
        have hc : cS l = ((dgR l).1 : Int) := by unfold cS; rw [if_neg hd0]; exact h1
        have hk0 : (kS l).2 ≠ 0 := by unfold kS; split; split; all_goals (simp only; omega)
        have hi : inR (kS l).1 0 2000 = false := by
          unfold badS at h
          rw [hc] at h
          have : decide (((dgR l).1 : Int) < 0) = false := by simp
          rw [this] at h
          simp [hk0] at h; exact h
        by_cases h116 : (l.drop (dk l)).head? = some 116
        · have hb : bR l = pwR (dgR l).1 (l.drop (dk l)) := by unfold bR; rw [if_neg hE, if_neg hh, hd, if_pos rfl, h2, if_pos h116]
          rw [hb]
          rcases pw_kS (c := (dgR l).1) rfl h116 with ⟨_, h2 | ⟨k, r, h2, h3⟩⟩ | ⟨h1, h2⟩
          · exact .inl h2
          · exact .inr ⟨_, k, r, h2, h3⟩
          · rw [h1] at hi; cases hi
        · exfalso
          unfold kS at hi; rw [if_neg h116] at hi
          exact absurd (inR_true.2 (show (0:Int) ≤ 0 ∧ (0:Int) ≤ 2000 by omega)) (by rw [hi]; simp)
theorem S_good {l : List UInt8} (h : badS l = false) : bR l = some ((cS l).toNat, (kS l).1.toNat, l.drop (kS l).2) ∧ 0 ≤ cS l ∧ 0 ≤ (kS l).1 ∧ (kS l).1 ≤ 2000 ∧ 0 < (kS l).2 := by
  unfold badS at h
  simp only [Bool.or_eq_false_iff, beq_eq_false_iff_ne, decide_eq_false_iff_not, Bool.not_eq_false'] at h
  obtain ⟨hk0, hc0, hi⟩ := h
  have hi' := inR_true.1 hi
  refine ⟨?_, by omega, hi'.1, hi'.2, by omega⟩
  have hE : l ≠ [] := fun e => by subst e; exact hk0 rfl
  by_cases hh : l.head? = some 116
  · have hd : dk l = 0 := by
      cases l with
      | nil => cases hh
      | cons c r => rw [dk_cons]; simp at hh; subst hh; rfl
    have hc : cS l = 1 := by unfold cS; rw [if_pos hd]
    have hb : bR l = pwR 1 (l.drop 0) := by unfold bR; rw [if_neg hE, if_pos hh]; rfl
    rw [hb, hc]
    rcases pw_kS (c := 1) hd.symm (by simpa using hh) with ⟨h1, _⟩ | ⟨_, h2⟩
    · rw [h1] at hi; cases hi
    · exact h2
  · have hd0 : dk l ≠ 0 := fun e => hk0 (by
      unfold kS; rw [if_neg (by rw [e]; simpa using hh)]; exact e)
    have hc : cS l = nS l := by unfold cS; rw [if_neg hd0]
    cases hd : (dgR l).2.2
    · rw [hc, nS_no hd] at hc0; omega
    · obtain ⟨h1, h2⟩ := nS_yes hd
      rw [hc, h1, Int.toNat_natCast]
      by_cases h116 : (l.drop (dk l)).head? = some 116
      · have hb : bR l = pwR (dgR l).1 (l.drop (dk l)) := by unfold bR; rw [if_neg hE, if_neg hh, hd, if_pos rfl, h2, if_pos h116]
        rw [hb]
        rcases pw_kS (c := (dgR l).1) rfl h116 with ⟨h1, _⟩ | ⟨_, h2⟩
        · rw [h1] at hi; cases hi
        · exact h2
      · unfold bR; rw [if_neg hE, if_neg hh, hd, if_pos rfl, h2, if_neg h116]
        unfold kS; rw [if_neg h116]; rfl
theorem psL_bad {s : List UInt8} (h0 : s ≠ []) (h : badS (bodT s) = true) (p : List Int) : psL s p = none := by
  rcases S_bad h with h1 | ⟨c, k, r, h1, h2⟩
  · exact psL_none h0 (by unfold tmR; rw [h1]; rfl) p
  · exact psL_big (c := sgT s * (c : Int)) (r := r) h0 (by unfold tmR; rw [h1]; rfl) h2 p
theorem psL_good {s : List UInt8} (h0 : s ≠ []) (h : badS (bodT s) = false) (p : List Int) :
    psL s p = psL ((bodT s).drop (kS (bodT s)).2) ((ext p (kS (bodT s)).1.toNat).set (kS (bodT s)).1.toNat (gx (ext p (kS (bodT s)).1.toNat) (kS (bodT s)).1.toNat + sgT s * cS (bodT s))) := by
  obtain ⟨h1, h2, h3, h4, _⟩ := S_good h
  have e : ((cS (bodT s)).toNat : Int) = cS (bodT s) := by omega
  exact psL_step (c := sgT s * cS (bodT s)) h0 (by unfold tmR; rw [h1]; simp only [Option.map_some, e]) (by omega) p
end Go.Proofs.YtdfhkkngbpidaaaDoor.Pl
