/-
  PLAIN LAWS, CHAPTER 2: products are commutative, divided by a factor they give the other one; sums are undone; values multiply; no program in sight.
-/
import Derived.Test.YtogkblncdpbhnaaPlP
namespace Go.Proofs.Ytogkblncdpbhnaa.Pl
set_option linter.unusedVariables false
/-! ### convolution, the other way round -/
def cw (p q : List Int) (j : Nat) : Int := sm (fun k => gx q k * gx p (j - k)) (j + 1)
theorem cv_cw (p q : List Int) (j : Nat) : cv p q j = cw p q j := by
  unfold cv cw
  rcases Nat.le_total q.length (j + 1) with h | h
  · have h1 := sm_more (fun k => gx q k * gx p (j - k)) q.length (j + 1 - q.length) (fun i hi _ => by show gx q i * gx p (j - i) = 0; rw [gx_out q i hi, Int.zero_mul])
    rw [show q.length + (j + 1 - q.length) = j + 1 by omega] at h1
    rw [h1]
    exact sm_congr _ fun k hk => by unfold tm; rw [if_pos (by omega)]
  · have h1 := sm_more (tm p q j) (j + 1) (q.length - (j + 1)) (fun i hi _ => by unfold tm; rw [if_neg (by omega)])
    rw [show j + 1 + (q.length - (j + 1)) = q.length by omega] at h1
    rw [h1]
    exact sm_congr _ fun k hk => by unfold tm; rw [if_pos (by omega)]
theorem cw_comm (p q : List Int) (j : Nat) : cw p q j = cw q p j := by
  unfold cw
  rw [← sm_rev (fun k => gx q k * gx p (j - k)) (j + 1)]
  exact sm_congr _ fun k hk => by
    show gx q (j + 1 - 1 - k) * gx p (j - (j + 1 - 1 - k)) = gx p k * gx q (j - k)
    rw [show j + 1 - 1 - k = j - k by omega, show j - (j - k) = k by omega, Int.mul_comm]
theorem cv_comm (p q : List Int) (j : Nat) : cv p q j = cv q p j := by rw [cv_cw, cw_comm, ← cv_cw]
theorem prodP_comm {p q a b : List Int} (h : prodP p q = (a, 0)) (h2 : prodP q p = (b, 0)) : b = a := by
  by_cases h0 : p.length = 0 ∨ q.length = 0
  · rw [prodP_zero h0] at h
    rw [prodP_zero (by omega)] at h2
    rw [← (Prod.mk.inj h).1, ← (Prod.mk.inj h2).1]
  · obtain ⟨i1, _, i3, _⟩ := prodP_sem h (by omega) (by omega)
    obtain ⟨j1, _, j3, _⟩ := prodP_sem h2 (by omega) (by omega)
    exact gx_ext _ _ (by omega) fun k _ => by rw [i3, j3, cv_comm]
theorem mulP_code {p q : List Int} (hp : isPoly p = true) (hq : isPoly q = true) : (mulP p q).2 = 0 ∨ (mulP p q).2 = 3 := by
  unfold mulP
  rw [hp, hq]
  rcases prodP_code p q with h | h
  · exact .inl h
  · exact .inr (by simp [h])
theorem mulP_yes {p q out : List Int} (h : mulP p q = (out, 0)) : isPoly p = true ∧ isPoly q = true ∧ prodP p q = (out, 0) := by
  unfold mulP at h
  cases hp : isPoly p <;> cases hq : isPoly q <;> rw [hp, hq] at h
  · cases h
  · cases h
  · cases h
  · exact ⟨rfl, rfl, h⟩
theorem mulP_turn {p q a : List Int} (h : mulP p q = (a, 0)) : (mulP q p).2 = 3 ∨ mulP q p = (a, 0) := by
  obtain ⟨hp, hq, h1⟩ := mulP_yes h
  rcases mulP_code hq hp with h2 | h2
  · right
    have h3 := mulP_yes (p := q) (q := p) (out := (mulP q p).1) (by rw [← h2])
    have := prodP_comm h1 h3.2.2
    rw [← this, ← h2]
  · exact .inl h2
/-! ### quotients of products -/
/-- The first n terms of p, times q. -/
def cp (p q : List Int) (n j : Nat) : Int := sm (fun i => if i ≤ j then gx p i * gx q (j - i) else 0) n
theorem cp_succ (p q : List Int) (n j : Nat) : cp p q (n + 1) j = cp p q n j + (if n ≤ j then gx p n * gx q (j - n) else 0) := rfl
theorem cp_cv (p q : List Int) (j : Nat) : cp p q p.length j = cv p q j := by
  rw [cv_comm]
  unfold cp cv
  exact sm_congr _ fun i _ => rfl
/-- The top coefficient. -/
theorem cp_top (p q : List Int) (n : Nat) (hq : 0 < q.length) : cp p q (n + 1) (n + (q.length - 1)) = gx p n * gx q (q.length - 1) := by
  rw [cp_succ, if_pos (by omega), show n + (q.length - 1) - n = q.length - 1 by omega]
  have : cp p q n (n + (q.length - 1)) = 0 := by
    unfold cp
    exact sm_zero n fun i hi => by rw [if_pos (by omega), gx_out q _ (by omega)]; simp
  omega
/-- Dividing what is left: the first k terms of p, times q. -/
theorem dvOut_exact {p q : List Int} (hq : 0 < q.length) (hl : gx q (q.length - 1) ≠ 0) : ∀ (k : Nat) (rest out : List Int), (∀ j, gx rest j = cp p q k j) → k + q.length ≤ rest.length + 1 → k ≤ out.length → (∀ j, isCoef (gx rest j) = true) →
    (∀ j, k ≤ j → j < out.length → gx out j = gx p j) → (dvOut q k rest out).2 = 3 ∨ ∃ o, dvOut q k rest out = (o, 0) ∧ o.length = out.length ∧ ∀ j, j < out.length → gx o j = gx p j
  | 0, rest, out, hr, h1, h2, hc, ho => by
    right
    refine ⟨out, ?_, rfl, fun j hj => ho j (Nat.zero_le _) hj⟩
    unfold dvOut
    rw [if_pos ((trimL_eq_nil rest).2 fun j => by rw [hr j]; rfl)]
  | k + 1, rest, out, hr, h1, h2, hc, ho => by
    have htop : gx rest (k + (q.length - 1)) = gx p k * gx q (q.length - 1) := by rw [hr, cp_top p q k hq]
    have hm : (gx rest (k + (q.length - 1))).tmod (gx q (q.length - 1)) = 0 := by rw [htop]; exact Int.mul_tmod_left _ _
    have hd : (gx rest (k + (q.length - 1))).tdiv (gx q (q.length - 1)) = gx p k := by rw [htop]; exact Int.mul_tdiv_cancel _ hl
    have hset : ∀ j, k ≤ j → j < (out.set k (gx p k)).length → gx (out.set k (gx p k)) j = gx p j := fun j hj hj2 => by
      rw [List.length_set] at hj2
      rw [gx_set _ _ _ _ (by omega)]
      split
      · rename_i e; rw [e]
      · exact ho j (by omega) hj2
    by_cases h0 : gx p k = 0
    · rw [dvOut_skip hm (by rw [hd]; exact h0)]
      rw [h0] at hset
      have := dvOut_exact hq hl k rest (out.set k 0) (fun j => by rw [hr j, cp_succ, h0]; split <;> simp) (by omega) (by simp; omega) hc hset
      simpa using this
    · rw [dvOut_go _ hd hm h0]
      cases hdv : dvIn (gx p k) k q q.length 0 rest with
      | none => exact .inl rfl
      | some r' =>
        obtain ⟨d1, d2, d3⟩ := dvIn_coef q.length 0 rest r' hdv (by omega) hc
        have := dvOut_exact hq hl k r' (out.set k (gx p k)) (fun j => by
          rw [d2 j, hr j, cp_succ]
          by_cases hj : k + 0 ≤ j ∧ j < k + 0 + q.length
          · rw [if_pos hj, if_pos (by omega), Int.neg_mul]; omega
          · rw [if_neg hj]
            by_cases hkj : k ≤ j
            · rw [if_pos hkj, gx_out q _ (by omega)]; simp
            · rw [if_neg hkj]; omega) (by omega) (by simp; omega) d3 hset
        simpa [dvThen] using this
theorem mul_div {p q a : List Int} (h : mulP p q = (a, 0)) (hq : 0 < q.length) : (divP a q).2 = 3 ∨ divP a q = (p, 0) := by
  obtain ⟨hp, hqp, h1⟩ := mulP_yes h
  have ha := prodP_isPoly h1 hp hqp
  have hql := (isPoly_true.1 hqp).2.1
  unfold divP
  rw [ha, hqp]
  show (quoP a q).2 = 3 ∨ quoP a q = (p, 0)
  unfold quoP
  rw [if_neg (by omega)]
  by_cases hp0 : p.length = 0
  · rw [prodP_zero (.inl hp0)] at h1
    have e : ([] : List Int) = a := (Prod.mk.inj h1).1
    subst e
    rw [if_pos (show ([] : List Int).length = 0 from rfl)]
    exact .inr (by rw [List.eq_nil_of_length_eq_zero hp0])
  · obtain ⟨i1, i2, i3, i4⟩ := prodP_sem h1 (by omega) hq
    rw [if_neg (by omega), if_neg (by omega)]
    rw [show a.length - q.length + 1 = p.length by omega]
    rcases dvOut_exact (p := p) hq (by omega) p.length a (List.replicate p.length 0) (fun j => by rw [i3, cp_cv]) (by omega) (by simp) i4 (fun j hj hj2 => by simp at hj2; omega) with h5 | ⟨o, h5, h6, h7⟩
    · exact .inl h5
    · right
      rw [h5]
      simp at h6
      have : o = p := gx_ext _ _ h6 fun k hk => h7 k (by simp; omega)
      rw [this]
/-! ### products of quotients -/
/-- What a division has divided off. -/
theorem dvOut_sem {q : List Int} (hq : 0 < q.length) : ∀ (k : Nat) (rest out o : List Int), dvOut q k rest out = (o, 0) → k + q.length ≤ rest.length + 1 → k ≤ out.length → (∀ j, isCoef (gx rest j) = true) →
    o.length = out.length ∧ (∀ j, k ≤ j → gx o j = gx out j) ∧ ∀ j, gx rest j = cp o q k j
  | 0, rest, out, o, h, hl, hk, hr => by
    unfold dvOut at h
    split at h
    · rename_i h0
      have e : out = o := (Prod.mk.inj h).1
      subst e
      exact ⟨rfl, fun _ _ => rfl, fun j => by rw [(trimL_eq_nil rest).1 h0 j]; rfl⟩
    · cases h
  | k + 1, rest, out, o, h, hl, hk, hr => by
    by_cases h1 : (gx rest (k + (q.length - 1))).tmod (gx q (q.length - 1)) = 0
    · by_cases h2 : (gx rest (k + (q.length - 1))).tdiv (gx q (q.length - 1)) = 0
      · rw [dvOut_skip h1 h2] at h
        obtain ⟨a, b, c⟩ := dvOut_sem hq k rest (out.set k 0) o h (by omega) (by simp; omega) hr
        refine ⟨by simpa using a, fun j hj => by rw [b j (by omega), gx_set _ _ _ _ (by omega), if_neg (by omega)], fun j => ?_⟩
        have hk0 : gx o k = 0 := by rw [b k (Nat.le_refl _), gx_set _ _ _ _ (by omega), if_pos rfl]
        rw [c j, cp_succ, hk0]; split <;> simp
      · rw [dvOut_go _ rfl h1 h2] at h
        generalize (gx rest (k + (q.length - 1))).tdiv (gx q (q.length - 1)) = t at h
        cases hd : dvIn t k q q.length 0 rest with
        | none => rw [hd] at h; cases h
        | some r' =>
          rw [hd] at h
          obtain ⟨d1, d2, d3⟩ := dvIn_coef q.length 0 rest r' hd (by omega) hr
          obtain ⟨a, b, c⟩ := dvOut_sem hq k r' (out.set k t) o h (by omega) (by simp; omega) d3
          refine ⟨by simpa using a, fun j hj => by rw [b j (by omega), gx_set _ _ _ _ (by omega), if_neg (by omega)], fun j => ?_⟩
          have hkt : gx o k = t := by rw [b k (Nat.le_refl _), gx_set _ _ _ _ (by omega), if_pos rfl]
          have hc := c j
          rw [d2 j] at hc
          rw [cp_succ, hkt, ← hc]
          by_cases hj : k + 0 ≤ j ∧ j < k + 0 + q.length
          · rw [if_pos hj, if_pos (by omega), Int.neg_mul]; omega
          · rw [if_neg hj]
            by_cases hkj : k ≤ j
            · rw [if_pos hkj, gx_out q _ (by omega)]; simp
            · rw [if_neg hkj]; omega
    · rw [dvOut_odd h1] at h; cases h
theorem divP_yes {p q out : List Int} (h : divP p q = (out, 0)) : isPoly p = true ∧ isPoly q = true ∧ quoP p q = (out, 0) := by
  unfold divP at h
  cases hp : isPoly p <;> cases hq : isPoly q <;> rw [hp, hq] at h
  · cases h
  · cases h
  · cases h
  · exact ⟨rfl, rfl, h⟩
theorem div_mul {c e f : List Int} (h : divP c e = (f, 0)) : (mulP f e).2 = 3 ∨ mulP f e = (c, 0) := by
  obtain ⟨hc, he, h1⟩ := divP_yes h
  have hf := quoP_isPoly h1 hc he
  rcases mulP_code hf.1 he with h2 | h2
  · right
    have h3 := mulP_yes (p := f) (q := e) (out := (mulP f e).1) (by rw [← h2])
    have key : (mulP f e).1 = c := by
      have h4 := h1
      unfold quoP at h4
      split at h4
      · cases h4
      · split at h4
        · rename_i hc0
          have e0 : ([] : List Int) = f := (Prod.mk.inj h4).1
          subst e0
          have h5 := h3.2.2
          rw [prodP_zero (.inl rfl)] at h5
          rw [← (Prod.mk.inj h5).1, List.eq_nil_of_length_eq_zero hc0]
        · split at h4
          · cases h4
          · rename_i g1 g2 g3
            obtain ⟨a, b, d⟩ := dvOut_sem (by omega) _ _ _ _ h4 (by omega) (by simp) (fun j => isCoef_true.2 (isPoly_gx hc j))
            have hfl : f.length = c.length - e.length + 1 := by simpa using a
            obtain ⟨i1, _, i3, _⟩ := prodP_sem h3.2.2 (by omega) (by omega)
            refine gx_ext _ _ (by omega) fun k _ => ?_
            rw [i3, d k, ← cp_cv, hfl]
    rw [← key, ← h2]
  · exact .inl h2
/-! ### sums -/
theorem poly_ext {a b : List Int} (ha : isPoly a = true) (hb : isPoly b = true) (h : ∀ j, gx a j = gx b j) : a = b := by
  have hl : a.length = b.length := by
    have h1 := (isPoly_true.1 ha).2.1
    have h2 := (isPoly_true.1 hb).2.1
    rcases Nat.lt_trichotomy a.length b.length with h3 | h3 | h3
    · rcases h2 with h2 | h2
      · omega
      · rw [← h, gx_out a _ (by omega)] at h2; exact absurd rfl h2
    · exact h3
    · rcases h1 with h1 | h1
      · omega
      · rw [h, gx_out b _ (by omega)] at h1; exact absurd rfl h1
  exact gx_ext _ _ hl fun k _ => h k
theorem gx_addK' (p : List Int) (k : Int) (q : List Int) (j : Nat) : gx (addK p k q) j = gx p j + k * gx q j := by
  by_cases h : j < max p.length q.length
  · exact gx_addK p k q j h
  · rw [gx_out _ _ (by rw [addK_len]; omega), gx_out p _ (by omega), gx_out q _ (by omega)]; simp
theorem sum_undo {a b s : List Int} (h : sumF a 1 b = (s, 0)) : sumF s (-1) b = (a, 0) := by
  unfold sumF at h
  cases ha : isPoly a
  · rw [ha] at h; cases h
  · cases hb : isPoly b
    · rw [ha, hb] at h; cases h
    · rw [ha, hb] at h
      have h1 : sumP a 1 b = (s, 0) := h
      unfold sumP at h1
      split at h1
      · rename_i hall
        have e : trimL (addK a 1 b) = s := (Prod.mk.inj h1).1
        have hal := (isPoly_true.1 ha).1
        have hbl := (isPoly_true.1 hb).1
        have hs : isPoly s = true := by rw [← e, trimL_isPoly _ (by rw [addK_len]; omega)]; exact hall
        have hg : ∀ j, gx (addK s (-1) b) j = gx a j := fun j => by
          rw [gx_addK', ← e, gx_trimL, gx_addK']; omega
        unfold sumF
        rw [hs, hb]
        show sumP s (-1) b = (a, 0)
        have hsl : s.length ≤ 2001 := (isPoly_true.1 hs).1
        rw [sumP_all (fun j _ => by rw [hg]; exact isCoef_true.2 (isPoly_gx ha j))]
        have ht : isPoly (trimL (addK s (-1) b)) = true := by
          rw [trimL_isPoly _ (by rw [addK_len]; omega), List.all_eq_true]
          intro x hx
          obtain ⟨k, hk, rfl⟩ := List.mem_iff_getElem.1 hx
          rw [← gx_eq _ k hk, hg]
          exact isCoef_true.2 (isPoly_gx ha k)
        rw [poly_ext ht ha fun j => by rw [gx_trimL]; exact hg j]
      · cases h1
/-! ### values -/
def vl (f : Nat → Int) (x : Int) (n : Nat) : Int := sm (fun j => f j * x ^ j) n
theorem evGo_val (x : Int) : ∀ (l : List Int) (v u : Int), evGo x l v = some u → u = v * x ^ l.length + vl (gx l.reverse) x l.length
  | [], v, u, h => by simp only [evGo, Option.some.injEq] at h; subst h; simp [vl, sm]
  | c :: cs, v, u, h => by
    unfold evGo at h
    split at h
    · have ih := evGo_val x cs _ _ h
      rw [ih, List.length_cons, List.reverse_cons]
      have h1 : vl (gx (cs.reverse ++ [c])) x (cs.length + 1) = vl (gx cs.reverse) x cs.length + c * x ^ cs.length := by
        unfold vl
        rw [sm]
        congr 1
        · exact sm_congr _ fun i hi => by
            have : gx (cs.reverse ++ [c]) i = gx cs.reverse i := by simp [gx, List.getD, List.getElem?_append_left (show i < cs.reverse.length by simpa using hi)]
            rw [this]
        · have : gx (cs.reverse ++ [c]) cs.length = c := by
            rw [gx_eq _ _ (by simp)]; simp
          rw [this]
      rw [h1, Int.pow_succ, Int.add_mul, Int.mul_assoc, Int.mul_comm x (x ^ cs.length)]
      omega
    · cases h
theorem evP_val {p : List Int} {x u : Int} (h : evP p x = (u, 0)) : u = vl (gx p) x p.length := by
  unfold evP at h
  split at h
  · cases hg : evGo x p.reverse 0 with
    | none =>
      first
        | (rw [hg] at h; cases h)
        | (split at h <;> (first | (rw [hg] at h; cases h) | cases h))
    | some v =>
      have h2 := evGo_val x _ _ _ hg
      rw [List.reverse_reverse, List.length_reverse] at h2
      have h3 : v = u := by
        first
          | (rw [hg] at h; exact (Prod.mk.inj h).1)
          | (split at h <;> (first | (rw [hg] at h; exact (Prod.mk.inj h).1) | cases h))
      rw [← h3, h2]; omega
  · cases h
theorem vl_congr {f g : Nat → Int} (x : Int) (n : Nat) (h : ∀ j, j < n → f j = g j) : vl f x n = vl g x n := sm_congr _ fun i hi => by rw [h i hi]
theorem vl_more (p : List Int) (x : Int) (d : Nat) : vl (gx p) x (p.length + d) = vl (gx p) x p.length := sm_more _ _ _ fun i hi _ => by rw [gx_out p i hi, Int.zero_mul]
/-- A shifted multiple. -/
theorem vl_shift (g : Nat → Int) (c x : Int) (n : Nat) : ∀ d : Nat, vl (fun j => if n ≤ j then c * g (j - n) else 0) x (n + d) = c * x ^ n * vl g x d
  | 0 => by
    unfold vl
    rw [sm_zero (n + 0) fun i hi => by show (if n ≤ i then c * g (i - n) else 0) * x ^ i = 0; rw [if_neg (by omega), Int.zero_mul]]
    simp [sm]
  | d + 1 => by
    have ih := vl_shift g c x n d
    unfold vl at ih ⊢
    rw [← Nat.add_assoc, sm, ih, sm]
    show c * x ^ n * sm (fun j => g j * x ^ j) d + (if n ≤ n + d then c * g (n + d - n) else 0) * x ^ (n + d) = _
    rw [if_pos (by omega), show n + d - n = d by omega, Int.pow_add, Int.mul_add]
    congr 1
    rw [Int.mul_assoc c (g d), Int.mul_assoc c (x ^ n), Int.mul_left_comm (g d)]
theorem vl_add (f g : Nat → Int) (x : Int) (n : Nat) : vl (fun j => f j + g j) x n = vl f x n + vl g x n := by
  unfold vl
  rw [← sm_add]
  exact sm_congr _ fun i _ => by rw [Int.add_mul]
theorem vl_cp (p q : List Int) (x : Int) (hq : 0 < q.length) : ∀ (n M : Nat), n + q.length ≤ M + 1 → vl (cp p q n) x M = vl (gx p) x n * vl (gx q) x q.length
  | 0, M, h => by
    have h1 : vl (cp p q 0) x M = 0 := by unfold vl; exact sm_zero M fun i _ => by show (0 : Int) * _ = 0; rw [Int.zero_mul]
    have h2 : vl (gx p) x 0 = 0 := rfl
    rw [h1, h2, Int.zero_mul]
  | n + 1, M, h => by
    have ih := vl_cp p q x hq n M (by omega)
    have e1 : vl (cp p q (n + 1)) x M = vl (cp p q n) x M + vl (fun j => if n ≤ j then gx p n * gx q (j - n) else 0) x M := by
      rw [← vl_add]
      exact vl_congr x M fun j _ => cp_succ p q n j
    have e2 : vl (fun j => if n ≤ j then gx p n * gx q (j - n) else 0) x M = gx p n * x ^ n * vl (gx q) x q.length := by
      have h1 := vl_shift (gx q) (gx p n) x n (M - n)
      rw [show n + (M - n) = M by omega] at h1
      rw [h1]
      have h2 := vl_more q x (M - n - q.length)
      rw [show q.length + (M - n - q.length) = M - n by omega] at h2
      rw [h2]
    have e3 : vl (gx p) x (n + 1) = vl (gx p) x n + gx p n * x ^ n := rfl
    rw [e1, e2, e3, ih, Int.add_mul]
theorem mul_val {p q a : List Int} {x u v y : Int} (h : mulP p q = (a, 0)) (h1 : evP p x = (u, 0)) (h2 : evP q x = (v, 0)) (h3 : evP a x = (y, 0)) : y = u * v := by
  obtain ⟨hp, hq, hm⟩ := mulP_yes h
  rw [evP_val h1, evP_val h2, evP_val h3]
  by_cases h0 : p.length = 0 ∨ q.length = 0
  · rw [prodP_zero h0] at hm
    have e : ([] : List Int) = a := (Prod.mk.inj hm).1
    subst e
    rcases h0 with h0 | h0
    · rw [h0]; simp [vl, sm]
    · rw [h0]; simp [vl, sm]
  · obtain ⟨i1, _, i3, _⟩ := prodP_sem hm (by omega) (by omega)
    rw [vl_congr x a.length (g := cp p q p.length) fun j _ => by rw [i3, cp_cv]]
    exact vl_cp p q x (by omega) p.length a.length (by omega)
end Go.Proofs.Ytogkblncdpbhnaa.Pl
