/-
  PLAIN LAWS, DRAWS: how far a source is from five numbers that are not 0 mod 3: a measure for the loops that ask for them.
-/
import Derived.Test.YtdfhkkngbpidaaaDoorPlHa
namespace Go.Proofs.YtdfhkkngbpidaaaDoor.Pl
set_option linter.unusedVariables false
set_option maxRecDepth 100000
theorem soon0 : soonAll 8192 0 = true := by decide +kernel
theorem soon1 : soonAll 8192 8192 = true := by decide +kernel
theorem soon2 : soonAll 8192 16384 = true := by decide +kernel
theorem soon3 : soonAll 8192 24576 = true := by decide +kernel
theorem soon_any (x : Nat) (h : x < 32768) : soon 220 (x * 8589934592 + 717934) = true := by
  rcases Nat.lt_or_ge x 8192 with h1 | h1
  · exact soonAll_at soon0 x (by omega) (by omega)
  rcases Nat.lt_or_ge x 16384 with h2 | h2
  · exact soonAll_at soon1 x (by omega) (by omega)
  rcases Nat.lt_or_ge x 24576 with h3 | h3
  · exact soonAll_at soon2 x (by omega) (by omega)
  exact soonAll_at soon3 x (by omega) (by omega)
theorem quiet_near (h : Nat) : ∃ N, N ≤ 4415290000000 ∧ quiet (itn N h) = true := by
  obtain ⟨N1, hN1, e1⟩ := low_reach 717934 33 (Nat.le_refl _) h
  have e1' : itn N1 h % 8589934592 = 717934 := e1
  have hN1' : N1 < 8589934592 := hN1
  obtain ⟨v, hv⟩ : ∃ v, itn N1 h / 8589934592 % 16777216 = v := ⟨_, rfl⟩
  have hv1 : v < 16777216 := by rw [← hv]; exact Nat.mod_lt _ (by decide)
  obtain ⟨j, hj1, hj2⟩ : ∃ j, j ≤ 513 ∧ (v + j * 32765) % 16777216 < 32765 := by
    by_cases h1 : v < 32765
    · exact ⟨0, by omega, by omega⟩
    · exact ⟨(16777216 - v + 32764) / 32765, by omega, by omega⟩
  obtain ⟨a1, a2⟩ := high_turns j v (itn N1 h) e1' hv
  generalize (v + j * 32765) % 16777216 = x at *
  obtain ⟨N3, hN3, e3⟩ := soon_is 220 _ (soon_any x (by omega))
  refine ⟨N1 + (j * 2 ^ 33 + N3), ?_, ?_⟩
  · rw [show (2 : Nat) ^ 33 = 8589934592 from rfl]
    omega
  · rw [itn_add, itn_add, ← e3]
    refine quiet_same (itn_same (k := 128) (by decide) N3 ?_)
    generalize itn (j * 2 ^ 33) (itn N1 h) = y at *
    omega
theorem least_of (p : Nat → Prop) (n : Nat) : p n → ∃ m, p m ∧ ∀ k, p k → m ≤ k := by
  induction n using Nat.strongRecOn with
  | _ n ih =>
    intro h
    by_cases hs : ∃ k, k < n ∧ p k
    · obtain ⟨k, hk, hp⟩ := hs
      exact ih k hk hp
    · exact ⟨n, h, fun k hk => Nat.le_of_not_lt fun hlt => hs ⟨k, hlt, hk⟩⟩
theorem far_ex (h : Nat) : ∃ d, quiet (itn d h) = true ∧ ∀ k, quiet (itn k h) = true → d ≤ k := by
  obtain ⟨N, _, e⟩ := quiet_near h
  exact least_of (fun d => quiet (itn d h) = true) N e
/-- How many numbers on the first five are that are not 0 mod 3. -/
noncomputable def far (h : Nat) : Nat := Classical.choose (far_ex h)
theorem far_quiet (h : Nat) : quiet (itn (far h) h) = true := (Classical.choose_spec (far_ex h)).1
theorem far_least (h k : Nat) (e : quiet (itn k h) = true) : far h ≤ k := (Classical.choose_spec (far_ex h)).2 k e
theorem far_le (h : Nat) : far h ≤ 4415290000000 := by
  obtain ⟨N, hN, e⟩ := quiet_near h
  exact Nat.le_trans (far_least h N e) hN
noncomputable def mu (h : Nat) : Nat := if nz h = true then 0 else 1 + far h
theorem mu_le (h : Nat) : mu h ≤ 4415290000001 := by unfold mu; have := far_le h; split <;> omega
theorem quiet_nz {q : Nat} (h : quiet q = true) (k : Nat) (hk : k ≤ 4) : nz (itn k q) = true := by
  unfold quiet at h
  simp only [Bool.and_eq_true] at h
  obtain ⟨⟨⟨⟨h0, h1⟩, h2⟩, h3⟩, h4⟩ := h
  match k, hk with
  | 0, _ => rw [itn_zero]; exact h0
  | 1, _ => rw [itn_one]; exact h1
  | 2, _ => rw [itn_succ, itn_one]; exact h2
  | 3, _ => rw [itn_succ, itn_succ, itn_one]; exact h3
  | 4, _ => rw [itn_succ, itn_succ, itn_succ, itn_one]; exact h4
  | k + 5, hk => omega
theorem mu_step {h g : Nat} (hz : nz h = false) (h1 : 1 ≤ g) (h5 : g ≤ 5) : mu (itn g h) < mu h := by
  have hd := far_quiet h
  have hm : mu h = 1 + far h := by unfold mu; rw [hz]; rfl
  have h0 : 1 ≤ far h := by
    rcases Nat.eq_zero_or_pos (far h) with e | e
    · rw [e] at hd
      have := quiet_nz hd 0 (by omega)
      rw [itn_zero, itn_zero, hz] at this
      cases this
    · exact e
  rw [hm]
  by_cases hg : g ≤ far h
  · have e : quiet (itn (far h - g) (itn g h)) = true := by
      rw [← itn_add, show g + (far h - g) = far h by omega]; exact hd
    have := far_least _ _ e
    unfold mu
    split <;> omega
  · have e : itn g h = itn (g - far h) (itn (far h) h) := by rw [← itn_add, show far h + (g - far h) = g by omega]
    have := quiet_nz hd (g - far h) (by omega)
    rw [← e] at this
    unfold mu
    rw [if_pos this]
    omega
/-- The measure of a source: what is left of its code, then how far its five numbers are. -/
noncomputable def mea (n t h : Nat) : Nat := (n - t) + if t < n then 5000000000000 else mu h
theorem mea_step {n t h g : Nat} (ht : t ≤ n) (hz : t = n → nz h = false) (h1 : 1 ≤ g) (h5 : g ≤ 5) : mea n (min (t + g) n) (itn g h) < mea n t h := by
  unfold mea
  have hm := mu_le (itn g h)
  by_cases hlt : t < n
  · rw [if_pos hlt]
    split <;> omega
  · have he : t = n := by omega
    have := mu_step (hz he) h1 h5
    rw [if_neg hlt, if_neg (show ¬ min (t + g) n < n by omega)]
    omega
theorem mea_le (n t h : Nat) : mea n t h ≤ n + 5000000000000 := by
  unfold mea
  have hm := mu_le h
  split <;> omega
end Go.Proofs.YtdfhkkngbpidaaaDoor.Pl
