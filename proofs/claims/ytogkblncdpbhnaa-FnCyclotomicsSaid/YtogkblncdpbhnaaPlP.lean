/-
  PLAIN LAWS, CHAPTER 2: what products and quotients hold: sums of products; polynomials again; no program in sight.
-/
import Derived.Test.YtogkblncdpbhnaaPlD
namespace Go.Proofs.Ytogkblncdpbhnaa.Pl
set_option linter.unusedVariables false
/-- A finite sum. -/
def sm (f : Nat → Int) : Nat → Int
  | 0 => 0
  | n + 1 => sm f n + f n
theorem sm_congr {f g : Nat → Int} : ∀ (n : Nat), (∀ i, i < n → f i = g i) → sm f n = sm g n
  | 0, _ => rfl
  | n + 1, h => by rw [sm, sm, sm_congr n fun i hi => h i (by omega), h n (by omega)]
theorem sm_zero {f : Nat → Int} : ∀ (n : Nat), (∀ i, i < n → f i = 0) → sm f n = 0
  | 0, _ => rfl
  | n + 1, h => by rw [sm, sm_zero n fun i hi => h i (by omega), h n (by omega)]; rfl
theorem sm_left (f : Nat → Int) : ∀ n : Nat, sm f (n + 1) = f 0 + sm (fun i => f (i + 1)) n
  | 0 => by simp [sm]
  | n + 1 => by rw [sm, sm_left f n, sm]; omega
theorem sm_add (f g : Nat → Int) : ∀ n : Nat, sm (fun i => f i + g i) n = sm f n + sm g n
  | 0 => rfl
  | n + 1 => by simp only [sm]; rw [sm_add f g n]; omega
theorem sm_mul (c : Int) (f : Nat → Int) : ∀ n : Nat, sm (fun i => c * f i) n = c * sm f n
  | 0 => by simp [sm]
  | n + 1 => by simp only [sm]; rw [sm_mul c f n, Int.mul_add]
theorem sm_more (f : Nat → Int) (n : Nat) : ∀ d : Nat, (∀ i, n ≤ i → i < n + d → f i = 0) → sm f (n + d) = sm f n
  | 0, _ => rfl
  | d + 1, h => by rw [← Nat.add_assoc, sm, sm_more f n d fun i a b => h i a (by omega), h (n + d) (by omega) (by omega)]; omega
theorem sm_rev (f : Nat → Int) : ∀ n : Nat, sm (fun i => f (n - 1 - i)) n = sm f n
  | 0 => rfl
  | n + 1 => by
    rw [sm_left, sm]
    have := sm_rev f n
    rw [show sm (fun i => f (n + 1 - 1 - (i + 1))) n = sm (fun i => f (n - 1 - i)) n from sm_congr n fun i hi => by congr 1; omega, this]
    simp; omega
theorem gx_set (xs : List Int) (n j : Nat) (v : Int) (h : n < xs.length) : gx (xs.set n v) j = if j = n then v else gx xs j := by
  by_cases e : j = n
  · subst e; rw [if_pos rfl]; simp [gx, List.getD, h]
  · rw [if_neg e]; simp [gx, List.getD, Ne.symm e]
theorem plusPr_some {s a b u : Int} (h : plusPr s a b = some u) : u = s + a * b ∧ (isCoef s = true → isCoef u = true) := by
  unfold plusPr at h
  split at h
  · rename_i h0
    cases h
    refine ⟨?_, id⟩
    rcases h0 with h0 | h0 <;> simp [h0]
  · split at h
    · cases h
    · split at h
      · rename_i hc; cases h; exact ⟨rfl, fun _ => hc⟩
      · cases h
/-- What the inner loop of a product leaves. -/
theorem prIn_sem {c : Int} {k : Nat} {p : List Int} : ∀ (r i : Nat) (out out' : List Int), prIn c k p r i out = some out' → i + k + r ≤ out.length →
    out'.length = out.length ∧ (∀ j, gx out' j = gx out j + if i + k ≤ j ∧ j < i + k + r then gx p (j - k) * c else 0) ∧ ((∀ j, isCoef (gx out j) = true) → ∀ j, isCoef (gx out' j) = true)
  | 0, i, out, out', h, hl => by
    cases h
    exact ⟨rfl, fun j => by rw [if_neg (by omega)]; omega, id⟩
  | r + 1, i, out, out', h, hl => by
    unfold prIn at h
    cases hp : plusPr (gx out (i + k)) (gx p i) c with
    | none => rw [hp] at h; cases h
    | some s =>
      rw [hp] at h
      obtain ⟨hs, hcs⟩ := plusPr_some hp
      obtain ⟨i1, i2, i3⟩ := prIn_sem r (i + 1) _ _ h (by rw [List.length_set]; omega)
      rw [List.length_set] at i1
      refine ⟨i1, fun j => ?_, fun hc => i3 fun j => ?_⟩
      · rw [i2 j, gx_set _ _ _ _ (by omega)]
        by_cases e : j = i + k
        · subst e
          rw [if_pos rfl, if_neg (by omega), if_pos (by omega), hs, Nat.add_sub_cancel]; omega
        · rw [if_neg e]
          by_cases e2 : i + 1 + k ≤ j ∧ j < i + 1 + k + r
          · rw [if_pos e2, if_pos (by omega)]
          · rw [if_neg e2, if_neg (by omega)]
      · rw [gx_set _ _ _ _ (by omega)]
        split
        · exact hcs (hc _)
        · exact hc j
/-- The part of coefficient j of a product that comes of coefficient k of q. -/
def tm (p q : List Int) (j k : Nat) : Int := if k ≤ j then gx q k * gx p (j - k) else 0
theorem prOut_sem {p q : List Int} : ∀ (r k : Nat) (out out' : List Int), prOut p q r k out = some out' → k + r = q.length → p.length + q.length - 1 ≤ out.length →
    out'.length = out.length ∧ (∀ j, gx out' j = gx out j + sm (fun x => tm p q j (k + x)) r) ∧ ((∀ j, isCoef (gx out j) = true) → ∀ j, isCoef (gx out' j) = true)
  | 0, k, out, out', h, hk, hl => by
    cases h
    exact ⟨rfl, fun j => by simp [sm], id⟩
  | r + 1, k, out, out', h, hk, hl => by
    by_cases h0 : gx q k = 0
    · rw [prOut_zero r out h0] at h
      obtain ⟨i1, i2, i3⟩ := prOut_sem r (k + 1) _ _ h (by omega) hl
      refine ⟨i1, fun j => ?_, i3⟩
      rw [i2 j, sm_left]
      have : tm p q j (k + 0) = 0 := by unfold tm; simp [h0]
      rw [this, show sm (fun x => tm p q j (k + (x + 1))) r = sm (fun x => tm p q j (k + 1 + x)) r from sm_congr r fun x _ => by congr 1; omega]
      omega
    · rw [prOut_go r out h0] at h
      cases hp : prIn (gx q k) k p p.length 0 out with
      | none => rw [hp] at h; cases h
      | some o1 =>
        rw [hp] at h
        obtain ⟨a1, a2, a3⟩ := prIn_sem p.length 0 out o1 hp (by omega)
        obtain ⟨i1, i2, i3⟩ := prOut_sem r (k + 1) o1 out' h (by omega) (by omega)
        refine ⟨by omega, fun j => ?_, fun hc => i3 (a3 hc)⟩
        rw [i2 j, a2 j, sm_left]
        have : (if 0 + k ≤ j ∧ j < 0 + k + p.length then gx p (j - k) * gx q k else 0) = tm p q j (k + 0) := by
          unfold tm
          by_cases e : k ≤ j
          · by_cases e2 : j < k + p.length
            · rw [if_pos (by omega), if_pos (by omega), Int.mul_comm]; rfl
            · rw [if_neg (by omega), if_pos (by omega), gx_out p (j - (k + 0)) (by omega)]; simp
          · rw [if_neg (by omega), if_neg (by omega)]
        rw [this, show sm (fun x => tm p q j (k + (x + 1))) r = sm (fun x => tm p q j (k + 1 + x)) r from sm_congr r fun x _ => by congr 1; omega]
        omega
/-- Coefficient j of a product. -/
def cv (p q : List Int) (j : Nat) : Int := sm (tm p q j) q.length
theorem gx_zeros (n j : Nat) : gx (List.replicate n 0) j = 0 := by
  unfold gx
  rw [List.getD_eq_getElem?_getD, List.getElem?_replicate]
  split <;> rfl
theorem prodP_sem {p q out : List Int} (h : prodP p q = (out, 0)) (hp : 0 < p.length) (hq : 0 < q.length) :
    out.length = p.length + q.length - 1 ∧ out.length ≤ 2001 ∧ (∀ j, gx out j = cv p q j) ∧ ∀ j, isCoef (gx out j) = true := by
  have h0 : ¬ (p.length = 0 ∨ q.length = 0) := by omega
  by_cases h2 : 2001 < p.length + q.length - 1
  · rw [prodP_long h0 h2] at h; cases h
  · rw [prodP_run h0 h2] at h
    cases ho : prOut p q q.length 0 (List.replicate (p.length + q.length - 1) 0) with
    | none => rw [ho] at h; cases h
    | some o =>
      rw [ho] at h
      have e : o = out := (Prod.mk.inj h).1
      subst e
      obtain ⟨i1, i2, i3⟩ := prOut_sem q.length 0 _ _ ho (by omega) (by simp)
      rw [List.length_replicate] at i1
      refine ⟨i1, by omega, fun j => ?_, i3 fun j => by rw [gx_zeros]; exact isCoef_zero⟩
      rw [i2 j, gx_zeros]
      unfold cv
      rw [show sm (fun x => tm p q j (0 + x)) q.length = sm (tm p q j) q.length from sm_congr _ fun x _ => by rw [Nat.zero_add]]
      omega
theorem prodP_code (p q : List Int) : (prodP p q).2 = 0 ∨ prodP p q = ([], 3) := by
  by_cases h0 : p.length = 0 ∨ q.length = 0
  · exact .inl (by rw [prodP_zero h0])
  · by_cases h2 : 2001 < p.length + q.length - 1
    · exact .inr (prodP_long h0 h2)
    · rw [prodP_run h0 h2]
      cases prOut p q q.length 0 (List.replicate (p.length + q.length - 1) 0) with
      | none => exact .inr rfl
      | some o => exact .inl rfl
theorem cv_top (p q : List Int) (hp : 0 < p.length) (hq : 0 < q.length) : cv p q (p.length + q.length - 2) = gx q (q.length - 1) * gx p (p.length - 1) := by
  unfold cv
  obtain ⟨m, hm⟩ : ∃ m, q.length = m + 1 := ⟨q.length - 1, by omega⟩
  rw [hm, sm, sm_zero m fun i hi => ?_]
  · unfold tm
    rw [if_pos (by omega), show p.length + (m + 1) - 2 - m = p.length - 1 by omega, Nat.add_sub_cancel]; omega
  · unfold tm
    rw [if_pos (by omega), gx_out p _ (by omega)]; simp
/-- A product is a polynomial. -/
theorem prodP_isPoly {p q out : List Int} (h : prodP p q = (out, 0)) (hp : isPoly p = true) (hq : isPoly q = true) : isPoly out = true := by
  by_cases h0 : p.length = 0 ∨ q.length = 0
  · rw [prodP_zero h0] at h
    have e : ([] : List Int) = out := (Prod.mk.inj h).1
    subst e; rfl
  · obtain ⟨i1, i2, i3, i4⟩ := prodP_sem h (by omega) (by omega)
    have hp1 := (isPoly_true.1 hp).2.1
    have hq1 := (isPoly_true.1 hq).2.1
    refine isPoly_yes i2 (.inr ?_) fun k _ => i4 k
    rw [i3, i1, show p.length + q.length - 1 - 1 = p.length + q.length - 2 by omega, cv_top p q (by omega) (by omega)]
    exact Int.mul_ne_zero (by omega) (by omega)
/-! ### quotients -/
theorem dvIn_coef {t : Int} {k : Nat} {q : List Int} : ∀ (r i : Nat) (rest rest' : List Int), dvIn t k q r i rest = some rest' → k + i + r ≤ rest.length → (∀ j, isCoef (gx rest j) = true) → rest'.length = rest.length ∧ (∀ j, gx rest' j = gx rest j + if k + i ≤ j ∧ j < k + i + r then -t * gx q (j - k) else 0) ∧ ∀ j, isCoef (gx rest' j) = true
  | 0, i, rest, rest', h, hl, hc => by
    cases h
    exact ⟨rfl, fun j => by rw [if_neg (by omega)]; omega, hc⟩
  | r + 1, i, rest, rest', h, hl, hc => by
    unfold dvIn at h
    cases hp : plusPr (gx rest (k + i)) (-t) (gx q i) with
    | none => rw [hp] at h; cases h
    | some s =>
      rw [hp] at h
      obtain ⟨hs, hcs⟩ := plusPr_some hp
      obtain ⟨i1, i2, i3⟩ := dvIn_coef r (i + 1) _ _ h (by rw [List.length_set]; omega) (fun j => by
        rw [gx_set _ _ _ _ (by omega)]
        split
        · exact hcs (hc _)
        · exact hc j)
      rw [List.length_set] at i1
      refine ⟨i1, fun j => ?_, i3⟩
      rw [i2 j, gx_set _ _ _ _ (by omega)]
      by_cases e : j = k + i
      · subst e
        rw [if_pos rfl, if_neg (by omega), if_pos (by omega), hs, show k + i - k = i by omega]; omega
      · rw [if_neg e]
        by_cases e2 : k + (i + 1) ≤ j ∧ j < k + (i + 1) + r
        · rw [if_pos e2, if_pos (by omega)]
        · rw [if_neg e2, if_neg (by omega)]
theorem dvOut_poly {q : List Int} (hq : 0 < q.length) : ∀ (k : Nat) (rest out o : List Int), dvOut q k rest out = (o, 0) → k + q.length ≤ rest.length + 1 → k ≤ out.length → (∀ j, isCoef (gx rest j) = true) → (∀ j, isCoef (gx out j) = true) →
    o.length = out.length ∧ (∀ j, isCoef (gx o j) = true) ∧ ∀ j, k ≤ j → gx o j = gx out j
  | 0, rest, out, o, h, hl, hk, hr, hc => by
    unfold dvOut at h
    split at h
    · have e : out = o := (Prod.mk.inj h).1
      subst e; exact ⟨rfl, hc, fun _ _ => rfl⟩
    · cases h
  | k + 1, rest, out, o, h, hl, hk, hr, hc => by
    have hset : ∀ v : Int, isCoef v = true → ∀ j, isCoef (gx (out.set k v) j) = true := fun v hv j => by
      rw [gx_set _ _ _ _ (by omega)]; split
      · exact hv
      · exact hc j
    by_cases h1 : (gx rest (k + (q.length - 1))).tmod (gx q (q.length - 1)) = 0
    · by_cases h2 : (gx rest (k + (q.length - 1))).tdiv (gx q (q.length - 1)) = 0
      · rw [dvOut_skip h1 h2] at h
        obtain ⟨a, b, c⟩ := dvOut_poly hq k rest (out.set k 0) o h (by omega) (by simp; omega) hr (hset 0 isCoef_zero)
        exact ⟨by simpa using a, b, fun j hj => by rw [c j (by omega), gx_set _ _ _ _ (by omega), if_neg (by omega)]⟩
      · rw [dvOut_go _ rfl h1 h2] at h
        cases hd : dvIn ((gx rest (k + (q.length - 1))).tdiv (gx q (q.length - 1))) k q q.length 0 rest with
        | none => rw [hd] at h; cases h
        | some r' =>
          rw [hd] at h
          obtain ⟨d1, d2, d3⟩ := dvIn_coef q.length 0 rest r' hd (by omega) hr
          obtain ⟨a, b, c⟩ := dvOut_poly hq k r' _ o h (by omega) (by simp; omega) d3 (hset _ (isCoef_true.2 (tdiv_coef _ _ (isCoef_true.1 (hr _)))))
          exact ⟨by simpa using a, b, fun j hj => by rw [c j (by omega), gx_set _ _ _ _ (by omega), if_neg (by omega)]⟩
    · rw [dvOut_odd h1] at h; cases h
/-- A quotient is a polynomial. -/
theorem quoP_isPoly {p q out : List Int} (h : quoP p q = (out, 0)) (hp : isPoly p = true) (hq : isPoly q = true) : isPoly out = true ∧ (0 < p.length → 0 < out.length) := by
  have hp1 := isPoly_true.1 hp
  have hq1 := isPoly_true.1 hq
  unfold quoP at h
  split at h
  · cases h
  · split at h
    · have e : ([] : List Int) = out := (Prod.mk.inj h).1
      subst e; exact ⟨rfl, fun h => by omega⟩
    · split at h
      · cases h
      · rename_i h1 h2 h3
        have hc0 : ∀ j, isCoef (gx p j) = true := fun j => isCoef_true.2 (isPoly_gx hp j)
        have hz : ∀ j, isCoef (gx (List.replicate (p.length - q.length + 1) 0) j) = true := fun j => by rw [gx_zeros]; exact isCoef_zero
        obtain ⟨a, b, _⟩ := dvOut_poly (by omega) _ _ _ _ h (by omega) (by simp) hc0 hz
        rw [List.length_replicate] at a
        refine ⟨isPoly_yes (by omega) (.inr ?_) fun k _ => b k, fun _ => by omega⟩
        rw [a, Nat.add_sub_cancel]
        -- the first step's number stays
        generalize hN : p.length - q.length = N at *
        have htop : N + (q.length - 1) = p.length - 1 := by omega
        have hpl : gx p (p.length - 1) ≠ 0 := by omega
        by_cases h4 : (gx p (N + (q.length - 1))).tmod (gx q (q.length - 1)) = 0
        · have h5 : (gx p (N + (q.length - 1))).tdiv (gx q (q.length - 1)) ≠ 0 := by
            intro h5
            have := Int.tmod_add_mul_tdiv (gx p (N + (q.length - 1))) (gx q (q.length - 1))
            rw [h4, h5, htop] at this
            simp at this; omega
          rw [dvOut_go _ rfl h4 h5] at h
          cases hd : dvIn ((gx p (N + (q.length - 1))).tdiv (gx q (q.length - 1))) N q q.length 0 p with
          | none => rw [hd] at h; cases h
          | some r' =>
            rw [hd] at h
            obtain ⟨d1, d2, d3⟩ := dvIn_coef q.length 0 p r' hd (by omega) hc0
            obtain ⟨_, _, c⟩ := dvOut_poly (by omega) N r' _ out h (by omega) (by simp) d3 (fun j => by
              rw [gx_set _ _ _ _ (by simp)]; split
              · exact isCoef_true.2 (tdiv_coef _ _ (isCoef_true.1 (hc0 _)))
              · exact hz j)
            rw [c N (Nat.le_refl _), gx_set _ _ _ _ (by simp), if_pos rfl]
            exact h5
        · rw [dvOut_odd h4] at h; cases h
end Go.Proofs.Ytogkblncdpbhnaa.Pl
