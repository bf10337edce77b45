/-
  PLAIN LAWS, CHAPTER 2: what the law on polynomials' texts says; no program in sight.
-/
import Derived.Test.YtdfhkkngbpidaaaDoorPlZ
namespace Go.Proofs.YtdfhkkngbpidaaaDoor.Pl
open Go
set_option linter.unusedVariables false
/-! ### texts come back -/
theorem ptP_ok {p : List Int} (h : (ptP p).2 = 0) : isPoly p = true ∧ ptP p = (ptx p, 0) := by
  unfold ptP at h ⊢
  cases hp : isPoly p
  · rw [hp] at h; simp at h
  · exact ⟨rfl, rfl⟩
theorem ppF_ptx {p : List Int} (hp : isPoly p = true) (hs : ∀ k, k < p.length → -1000000000 < gx p k ∧ gx p k < 1000000000) : ppF (ptx p) = (p, 0) := by
  obtain ⟨h1, h2, h3⟩ := isPoly_true.1 hp
  rcases Nat.eq_zero_or_pos p.length with h0 | h0
  · have e := List.eq_nil_of_length_eq_zero h0
    subst e
    rfl
  · obtain ⟨n, hn⟩ : ∃ n, p.length = n + 1 := ⟨p.length - 1, by omega⟩
    have hl : gx p n ≠ 0 := by
      rcases h2 with h | h
      · omega
      · rwa [show p.length - 1 = n by omega] at h
    obtain ⟨_, q, e1, e2⟩ := (pp_ptx n hn hl h1).1 (fun i hi => smC_true.2 (hs i (by omega)))
    rw [← ppS_eq]
    unfold ppS
    rw [e1]
    simp only [e2]
    rw [hp]; simp
theorem ppF_sound {t : List UInt8} {q : List Int} (h : ppF t = (q, 0)) : ptP q = (t, 0) := by
  rw [← ppS_eq] at h
  unfold ppS at h
  split at h
  · simp at h
  · split at h
    · rename_i hh
      simp only [Prod.mk.injEq, and_true] at h
      rw [h] at hh
      simp only [Bool.and_eq_true, beq_iff_eq] at hh
      unfold ptP
      rw [hh.1, hh.2]; rfl
    · simp at h
/-! ### values -/
/-- The sum of f j x^j below n. -/
def sv (f : Nat → Int) (x : Int) : Nat → Int
  | 0 => 0
  | n + 1 => sv f x n + f n * x ^ n
theorem sv_congr {f g : Nat → Int} (x : Int) : ∀ n, (∀ j, j < n → f j = g j) → sv f x n = sv g x n
  | 0, _ => rfl
  | n + 1, h => by
    show sv f x n + f n * x ^ n = sv g x n + g n * x ^ n
    rw [sv_congr x n (fun j hj => h j (by omega)), h n (by omega)]
def hv (x : Int) (p : List Int) : Int := p.foldr (fun c v => v * x + c) 0
theorem evGo_fold (x : Int) : ∀ (l : List Int) (v u : Int), evGo x l v = some u → u = l.foldl (fun v c => v * x + c) v
  | [], v, u, h => by simp [evGo] at h; exact h.symm
  | c :: cs, v, u, h => by
    unfold evGo at h
    split at h
    · exact evGo_fold x cs _ u h
    · cases h
theorem hv_app (x : Int) : ∀ (p : List Int) (v : Int), p.foldr (fun c v => v * x + c) v = hv x p + v * x ^ p.length
  | [], v => by simp [hv]
  | c :: cs, v => by
    show (cs.foldr (fun c v => v * x + c) v) * x + c = hv x (c :: cs) + _
    rw [hv_app x cs v]
    show _ = hv x cs * x + c + v * x ^ (cs.length + 1)
    rw [Int.add_mul, Int.pow_succ, Int.mul_assoc]
    omega
theorem hv_sum (x : Int) (p : List Int) : ∀ k, k ≤ p.length → hv x (p.take k) = sv (gx p) x k
  | 0, _ => rfl
  | k + 1, hk => by
    rw [take_snoc p k (by omega)]
    unfold hv
    rw [List.foldr_append]
    show (p.take k).foldr (fun c v => v * x + c) (0 * x + gx p k) = _
    rw [hv_app, hv_sum x p k (by omega), List.length_take, Nat.min_eq_left (by omega), Int.zero_mul, Int.zero_add]
    rfl
theorem evP_sum {p : List Int} {x u : Int} (h : evP p x = (u, 0)) : u = sv (gx p) x p.length := by
  unfold evP at h
  split at h
  · split at h
    · cases hg : evGo x p.reverse 0 with
      | none => rw [hg] at h; simp at h
      | some v =>
        rw [hg] at h
        simp only [Prod.mk.injEq, and_true] at h
        have e := evGo_fold x _ _ _ hg
        rw [List.foldl_reverse] at e
        rw [← h, e, ← hv_sum x p p.length (Nat.le_refl _), List.take_of_length_le (Nat.le_refl _)]
        rfl
    · simp at h
  · simp at h
/-! ### powers in place of the variable -/
def spf (p : List Int) (k j : Nat) : Int := if j % k = 0 then gx p (j / k) else 0
theorem sv_gap (p : List Int) (k : Nat) (hk : 1 ≤ k) (x : Int) (i : Nat) : ∀ m, m < k → sv (spf p k) x (i * k + 1 + m) = sv (spf p k) x (i * k + 1)
  | 0, _ => rfl
  | m + 1, h => by
    show sv _ x (i * k + 1 + m) + spf p k (i * k + 1 + m) * x ^ (i * k + 1 + m) = _
    rw [sv_gap p k hk x i m (by omega)]
    have e : (i * k + 1 + m) % k = m + 1 := by
      rw [show i * k + 1 + m = (m + 1) + k * i by rw [Nat.mul_comm]; omega, Nat.add_mul_mod_self_left, Nat.mod_eq_of_lt h]
    have z : spf p k (i * k + 1 + m) = 0 := by unfold spf; rw [if_neg (by rw [e]; omega)]
    rw [z, Int.zero_mul, Int.add_zero]
theorem sv_spread (p : List Int) (k : Nat) (hk : 1 ≤ k) (x : Int) : ∀ i, sv (spf p k) x (i * k + 1) = sv (gx p) (x ^ k) (i + 1)
  | 0 => by
    rw [Nat.zero_mul]
    show (0 : Int) + spf p k 0 * x ^ 0 = 0 + gx p 0 * (x ^ k) ^ 0
    unfold spf
    rw [Nat.zero_mod, Nat.zero_div]; simp
  | i + 1 => by
    have e1 : (i + 1) * k + 1 = (i * k + 1 + (k - 1)) + 1 := by rw [Nat.add_mul]; omega
    rw [e1]
    show sv _ x (i * k + 1 + (k - 1)) + spf p k (i * k + 1 + (k - 1)) * x ^ (i * k + 1 + (k - 1)) = sv (gx p) (x ^ k) (i + 1) + gx p (i + 1) * (x ^ k) ^ (i + 1)
    rw [sv_gap p k hk x i (k - 1) (by omega), sv_spread p k hk x i]
    have e2 : i * k + 1 + (k - 1) = (i + 1) * k := by rw [Nat.add_mul]; omega
    have z : spf p k ((i + 1) * k) = gx p (i + 1) := by unfold spf; rw [Nat.mul_mod_left, Nat.mul_div_cancel _ (by omega : 0 < k), if_pos rfl]
    rw [e2, z, Nat.mul_comm (i + 1) k, Int.pow_mul]
theorem spread_ln (p : List Int) (k : Nat) (h : p.length ≠ 0) : (spread p k).length = (p.length - 1) * k + 1 := by unfold spread; rw [if_neg h]; simp
theorem spread_gx (p : List Int) (k j : Nat) (h : p.length ≠ 0) (hj : j < (p.length - 1) * k + 1) : gx (spread p k) j = spf p k j := by
  rw [gx_eq _ _ (by rw [spread_ln p k h]; exact hj)]
  unfold spread spf
  simp [h]
theorem val_spread (p : List Int) (k : Nat) (hk : 1 ≤ k) (x : Int) : sv (gx (spread p k)) x (spread p k).length = sv (gx p) (x ^ k) p.length := by
  by_cases h : p.length = 0
  · have e := List.eq_nil_of_length_eq_zero h
    subst e
    rfl
  · rw [spread_ln p k h, sv_congr x _ (fun j hj => spread_gx p k j h hj), sv_spread p k hk x, show p.length - 1 + 1 = p.length by omega]
theorem neg_pow_odd {k : Nat} (h : k % 2 = 1) : (-1 : Int) ^ k = -1 := by
  obtain ⟨m, rfl⟩ : ∃ m, k = 2 * m + 1 := ⟨k / 2, by omega⟩
  rw [Int.pow_succ, Int.pow_mul, show (-1 : Int) ^ 2 = 1 by decide, Int.one_pow]; decide
theorem neg_pow_even {k : Nat} (h : k % 2 = 0) : (-1 : Int) ^ k = 1 := by
  obtain ⟨m, rfl⟩ : ∃ m, k = 2 * m := ⟨k / 2, by omega⟩
  rw [Int.pow_mul, show (-1 : Int) ^ 2 = 1 by decide, Int.one_pow]
theorem subP_ok {a b : List Int} {k : Int} (h : subP a k = (b, 0)) : (1 ≤ k ∧ k ≤ 2000) ∧ b = spread a k.toNat := by
  unfold subP at h
  split at h
  · split at h
    · rename_i h1 h2
      split at h
      · simp at h
      · simp only [Prod.mk.injEq, and_true] at h
        exact ⟨inR_true.1 h2, h.symm⟩
    · simp at h
  · simp at h
/-- What the law asks of the values. -/
theorem sub_vals {a b : List Int} {k u v o : Int} (h : subP a k = (b, 0)) (hu : evP a (-1) = (u, 0)) (hv : evP b (-1) = (v, 0)) (ho : evP a 1 = (o, 0)) :
    (k % 2 = 1 → u = v) ∧ (k % 2 = 0 → v = o) := by
  obtain ⟨hk, rfl⟩ := subP_ok h
  have e1 := evP_sum hu
  have e2 := evP_sum hv
  have e3 := evP_sum ho
  rw [val_spread a k.toNat (by omega)] at e2
  refine ⟨fun hm => ?_, fun hm => ?_⟩
  · rw [neg_pow_odd (by omega)] at e2
    rw [e1, e2]
  · rw [neg_pow_even (by omega)] at e2
    rw [e2, e3]
/-! ### symmetry -/
theorem trimL_self {d : List Int} (h : d.length = 0 ∨ gx d (d.length - 1) ≠ 0) : trimL d = d := by
  obtain ⟨k, hk, e, _, hz⟩ := trimL_prefix d
  rw [e]
  refine List.take_of_length_le ?_
  rcases h with h | h
  · omega
  · rcases Nat.lt_or_ge k d.length with hlt | hge
    · exact absurd (hz (d.length - 1) (by omega)) h
    · exact hge
theorem sym_rev {d : List Int} (h : isPoly d = true) : symP d = (trimL d.reverse == d, 0) ∧ revP d = (trimL d.reverse, 0) := by
  obtain ⟨h1, h2, h3⟩ := isPoly_true.1 h
  refine ⟨?_, by unfold revP; rw [h]; rfl⟩
  unfold symP
  rw [h]
  simp only [if_true]
  congr 1
  obtain ⟨k, hk, e, hl, _⟩ := trimL_prefix d.reverse
  rw [Bool.eq_iff_iff, beq_iff_eq, beq_iff_eq]
  constructor
  · intro hd
    rw [← hd]
    exact trimL_self h2
  · intro hd
    have hlen := congrArg List.length hd
    rw [e, List.length_take, List.length_reverse] at hlen
    have hkk : d.reverse.length ≤ k := by rw [List.length_reverse] at hk ⊢; omega
    rw [e, List.take_of_length_le hkk] at hd
    exact hd.symm
end Go.Proofs.YtdfhkkngbpidaaaDoor.Pl
