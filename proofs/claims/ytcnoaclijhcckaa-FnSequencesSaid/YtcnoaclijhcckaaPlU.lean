/-
  PLAIN LAWS, CHAPTER 4: a sequence descends; each number is a sum of those behind it; the sequence without its first number; no program in sight.
-/
import Derived.Test.YtcnoaclijhcckaaPlL
import Derived.Test.YtcnoaclijhcckaaPlM
namespace Go.Proofs.Ytcnoaclijhcckaa.Pl
open K
set_option linter.unusedVariables false
theorem seq_facts {xs : List Int} (h : isBr xs = true) (m : Nat) : gx (seqB xs ++ ones m) 0 = gx xs 0 ∧ (seqB xs ++ ones m).Pairwise (fun x y => y ≤ x) := by
  obtain ⟨e, ks, hx, hc, h1, h2, h3, h4, h5⟩ := br_runs h
  have hb := bsq_seq h m
  have hl := seqB_len h
  have hp : ∀ y ∈ seqB xs ++ ones m, 1 ≤ y := by
    intro y hy
    rcases List.mem_append.1 hy with h6 | h6
    · exact (seqB_bd h y h6).1
    · unfold ones at h6; rw [(List.mem_replicate.1 h6).2]; exact Int.le_refl _
  unfold bsq at hb
  cases hpI : pI (gx (seqB xs ++ ones m) 0) 0 [gx (seqB xs ++ ones m) 0] (seqB xs ++ ones m) with
  | none => rw [hpI] at hb; cases hb
  | some T =>
    rw [hpI] at hb
    have h0 : 1 ≤ gx (seqB xs ++ ones m) 0 := hp _ (gx_mem _ 0 (by simp; omega))
    refine ⟨?_, (pI_desc _ _ _ _ _ _ (Nat.le_refl _) h0 hp hpI).1⟩
    rw [h5, hx]
    cases ks with
    | nil => have : e = 1 := hc
             subst this; rfl
    | cons k ks =>
      rw [if_neg (by simp)]
      have hke := h3 k rfl
      have hq1 : 1 ≤ k / e := (Nat.le_div_iff_mul_le (by omega)).2 (by omega)
      obtain ⟨q, hq⟩ : ∃ q, k / e = q + 1 := ⟨k / e - 1, by omega⟩
      rw [catR_cons, steps_nat k e h1, hq, List.replicate_succ]
      rfl
theorem pw_gx {ys : List Int} (h : ys.Pairwise (fun x y => y ≤ x)) (i j : Nat) (hij : i < j) (hj : j < ys.length) : gx ys j ≤ gx ys i := by
  rw [gx_eq _ _ hj, gx_eq _ _ (by omega)]
  exact List.pairwise_iff_getElem.1 h i j (by omega) hj hij
/-- The blocks of a sequence tell it. -/
theorem blk_seq {xs : List Int} (h : isBr xs = true) : ex (blkL (seqB xs) (seqB xs).length) = seqB xs := by
  have hl := seqB_len h
  have hpw := (seq_facts h 0).2
  simp only [ones, List.replicate_zero, List.append_nil] at hpw
  have := (blk_dn (xs := seqB xs) (fun i h1 h2 => pw_gx hpw (i - 1) i (by omega) h2) (fun i hi => (seqB_bd h _ (gx_mem _ i hi)).1) (seqB xs).length hl.1 (Nat.le_refl _)).2.1
  rwa [List.take_length] at this
theorem blk_rows {xs : List Int} (h : isBr xs = true) : ∀ s ∈ blkL (seqB xs) (seqB xs).length, ∃ v c : Int, s = [v, c] ∧ 1 ≤ v ∧ 1 ≤ c := by
  have hl := seqB_len h
  have hpw := (seq_facts h 0).2
  simp only [ones, List.replicate_zero, List.append_nil] at hpw
  have h2 := (blk_dn (xs := seqB xs) (fun i h1 h2 => pw_gx hpw (i - 1) i (by omega) h2) (fun i hi => (seqB_bd h _ (gx_mem _ i hi)).1) (seqB xs).length hl.1 (Nat.le_refl _)).1
  generalize blkL (seqB xs) (seqB xs).length = b at h2
  generalize gx (seqB xs) 0 + 1 = m at h2
  clear hl hpw h
  induction b generalizing m with
  | nil => intro s hs; cases hs
  | cons s t ih =>
    obtain ⟨⟨v, c, rfl, a1, a2, a3⟩, a4⟩ := h2
    intro s hs
    rcases List.mem_cons.1 hs with e | e
    · exact ⟨v, c, e, a1, a3⟩
    · simp only [gx_cons_zero] at a4
      exact ih _ a4 s e
/-- How many numbers the first blocks have. -/
def cn (b : List (List Int)) (i : Nat) : Nat := (ex (b.take i)).length
theorem cn_zero (b : List (List Int)) : cn b 0 = 0 := by simp [cn, ex]
theorem ex_append (a b : List (List Int)) : ex (a ++ b) = ex a ++ ex b := by simp [ex]
theorem cn_succ (b : List (List Int)) (i : Nat) (hi : i < b.length) : cn b (i + 1) = cn b i + (gx (gxx b i) 1).toNat := by
  unfold cn
  rw [List.take_succ_eq_append_getElem hi, ex_append, List.length_append, gxx_eq b i hi]
  simp [ex]
theorem cn_all (b : List (List Int)) : cn b b.length = (ex b).length := by unfold cn; rw [List.take_length]
/-- The numbers of block i. -/
theorem ex_at (b : List (List Int)) (i j : Nat) (hi : i < b.length) (hj : j < (gx (gxx b i) 1).toNat) : cn b i + j < (ex b).length ∧ gx (ex b) (cn b i + j) = gx (gxx b i) 0 := by
  have h1 : ex b = ex (b.take i) ++ (List.replicate (gx (gxx b i) 1).toNat (gx (gxx b i) 0) ++ ex (b.drop (i + 1))) := by
    have h3 : ex (b[i] :: b.drop (i + 1)) = List.replicate (gx (gxx b i) 1).toNat (gx (gxx b i) 0) ++ ex (b.drop (i + 1)) := by rw [gxx_eq b i hi]; unfold ex; rw [List.flatMap_cons]
    rw [← h3, ← List.drop_eq_getElem_cons hi, ← ex_append, List.take_append_drop]
  have hl : (ex (b.take i)).length = cn b i := rfl
  constructor
  · rw [h1]; simp; omega
  · rw [h1, gx_append, if_neg (by omega), gx_append, if_pos (by simp; omega)]
    rw [show cn b i + j - (ex (b.take i)).length = j by omega]
    rw [gx_eq _ _ (by simpa using hj)]
    simp
theorem sumW_take (f : Int → Int) (l : List Int) (i : Nat) (hi : i < l.length) : sumW f (l.take (i + 1)) = sumW f (l.take i) + f (gx l i) := by
  rw [List.take_succ_eq_append_getElem hi, sumW_snoc, gx_eq l i hi]
theorem sumW_bd400 {f : Int → Int} {m : Int} {l : List Int} (hm : 0 ≤ m) (h : ∀ x ∈ l, 0 ≤ f x ∧ f x ≤ m) (hl : l.length ≤ 400) (i : Nat) : 0 ≤ sumW f (l.take i) ∧ sumW f (l.take i) ≤ 400 * m := by
  have h1 := sumW_bd (l := l.take i) hm (fun x hx => h x (List.mem_of_mem_take hx))
  refine ⟨h1.1, Int.le_trans h1.2 ?_⟩
  refine Int.mul_le_mul_of_nonneg_right ?_ hm
  rw [List.length_take]; omega
/-! ### proximity -/
/-- A number is the sum of the first few. -/
def Hits (x : Int) (l : List Int) : Prop := ∃ t, t ≤ l.length ∧ (l.take t).sum = x
def Prox : List Int → Prop
  | [] => True
  | x :: l => (1 < x → Hits x l) ∧ Prox l
theorem hits_head (x : Int) (l : List Int) (h : l.head? = some x) : Hits x l := by
  cases l with
  | nil => cases h
  | cons y l => simp at h; subst h; exact ⟨1, by simp, by simp⟩
theorem hits_steps (a b : Nat) (hb : 1 ≤ b) (Z : List Int) : Hits (a : Int) (reps (steps a b) ++ Z) := by
  rw [steps_nat a b hb]
  rcases Nat.eq_zero_or_pos (a % b) with h0 | h0
  · refine ⟨a / b, by simp, ?_⟩
    rw [List.append_assoc, List.take_left' (by simp)]
    have h1 : a / b * b = a := Nat.div_mul_cancel (Nat.dvd_of_mod_eq_zero h0)
    have : ((a / b : Nat) : Int) * (b : Int) = (a : Int) := by rw [← Int.natCast_mul, h1]
    simpa using this
  · have hlt := Nat.mod_lt a (show 0 < b by omega)
    have hh := steps_hd b (a % b) h0 hlt
    cases hr : reps (steps b (a % b)) with
    | nil => rw [hr] at hh; cases hh
    | cons y R =>
      rw [hr] at hh
      have hy : y = ((a % b : Nat) : Int) := by simpa using hh
      refine ⟨a / b + 1, by simp, ?_⟩
      rw [List.append_assoc, List.take_append]
      simp only [List.length_replicate]
      rw [List.take_of_length_le (by simp), show a / b + 1 - a / b = 1 by omega]
      rw [List.sum_append]
      have h1 := Nat.div_add_mod a b
      have h2 : ((a / b : Nat) : Int) * (b : Int) + ((a % b : Nat) : Int) = (a : Int) := by rw [← Int.natCast_mul, ← Int.natCast_add, Nat.mul_comm]; exact congrArg _ h1
      rw [hy]
      simpa using h2
theorem prox_rep (x : Int) (Z : List Int) (hZ : Prox Z) (hx : 1 < x → Hits x Z) : ∀ q : Nat, Prox (List.replicate q x ++ Z) ∧ (1 < x → Hits x (List.replicate q x ++ Z))
  | 0 => ⟨by simpa using hZ, by simpa using hx⟩
  | q + 1 => by
    obtain ⟨i1, i2⟩ := prox_rep x Z hZ hx q
    rw [List.replicate_succ, List.cons_append]
    exact ⟨⟨i2, i1⟩, fun _ => hits_head _ _ rfl⟩
theorem prox_steps : ∀ (n a b : Nat), b ≤ n → 1 ≤ b → ∀ Z, Prox Z → ((1 : Int) < (Nat.gcd a b : Nat) → Hits (Nat.gcd a b : Nat) Z) → Prox (reps (steps a b) ++ Z)
  | 0, a, b, h, hb, Z, _, _ => by omega
  | n + 1, a, b, h, hb, Z, hZ, hg => by
    rw [steps_nat a b hb]
    rcases Nat.eq_zero_or_pos (a % b) with h0 | h0
    · have hgb : Nat.gcd a b = b := Nat.gcd_eq_right (Nat.dvd_of_mod_eq_zero h0)
      rw [hgb] at hg
      have e : reps (steps b (a % b)) = [] := by rw [h0]; unfold steps; simp [reps]
      rw [e, List.append_nil]
      exact (prox_rep _ Z hZ hg _).1
    · have hlt := Nat.mod_lt a (show 0 < b by omega)
      have hgg : Nat.gcd b (a % b) = Nat.gcd a b := by rw [Nat.gcd_comm a b, Nat.gcd_rec b a, Nat.gcd_comm]
      have ih := prox_steps n b (a % b) (by omega) h0 Z hZ (by rw [hgg]; exact hg)
      rw [List.append_assoc]
      exact (prox_rep _ _ ih (fun _ => hits_steps b (a % b) h0 Z) _).1
theorem prox_ones : ∀ m, Prox (ones m)
  | 0 => trivial
  | m + 1 => by
    have : ones (m + 1) = 1 :: ones m := by simp [ones, List.replicate_succ]
    rw [this]
    exact ⟨fun h => by omega, prox_ones m⟩
theorem prox_cat : ∀ (ks : List Nat) (e m : Nat), chain e ks → Prox (catR e ks ++ ones m) ∧ ((1 : Int) < (e : Int) → Hits (e : Int) (catR e ks ++ ones m))
  | [], e, m, h => by
    have he : e = 1 := h
    subst he
    exact ⟨by simpa [catR] using prox_ones m, fun h => by simp at h⟩
  | k :: ks, e, m, h => by
    have h2 := chain_two h
    obtain ⟨i1, i2⟩ := prox_cat ks (Nat.gcd e k) m h.2.2
    rw [catR_cons, List.append_assoc]
    refine ⟨?_, fun _ => ?_⟩
    · refine prox_steps e k e (Nat.le_refl _) (by omega) _ i1 ?_
      rw [Nat.gcd_comm k e]; exact i2
    · rcases Nat.lt_or_ge k e with hk | hk
      · rw [steps_nat k e (by omega), Nat.div_eq_of_lt hk, Nat.mod_eq_of_lt hk]
        simp only [List.replicate_zero, List.nil_append]
        exact hits_steps e k h2.2 _
      · refine hits_head _ _ ?_
        have hq1 : 1 ≤ k / e := (Nat.le_div_iff_mul_le (by omega)).2 (by omega)
        obtain ⟨q, hq⟩ : ∃ q, k / e = q + 1 := ⟨k / e - 1, by omega⟩
        rw [steps_nat k e (by omega), hq, List.replicate_succ]
        rfl
theorem prox_seq {xs : List Int} (h : isBr xs = true) (m : Nat) : Prox (seqB xs ++ ones m) := by
  obtain ⟨e, ks, hx, hc, h1, h2, h3, h4, h5⟩ := br_runs h
  rw [h5]
  cases ks with
  | nil =>
    rw [if_pos rfl]
    have := prox_ones (m + 1)
    rwa [show ones (m + 1) = [1] ++ ones m by simp [ones, List.replicate_succ]] at this
  | cons k ks => rw [if_neg (by simp)]; exact (prox_cat _ e m hc).1
theorem prox_at : ∀ (l : List Int), Prox l → ∀ i, i < l.length → 1 < gx l i → Hits (gx l i) (l.drop (i + 1))
  | [], _, i, hi, _ => by simp at hi
  | x :: l, h, 0, _, hx => by simpa [gx] using h.1 (by simpa [gx] using hx)
  | x :: l, h, i + 1, hi, hx => by
    rw [gx_cons_succ] at hx ⊢
    simpa using prox_at l h.2 i (by simpa using hi) hx
/-- The sum of some numbers, from i on, below j. -/
def sg (l : List Int) (i j : Nat) : Int := ((l.drop i).take (j - i)).sum
theorem sg_self (l : List Int) (i : Nat) : sg l i i = 0 := by simp [sg]
theorem sg_succ (l : List Int) (i j : Nat) (h : i ≤ j) (hj : j < l.length) : sg l i (j + 1) = sg l i j + gx l j := by
  unfold sg
  rw [show j + 1 - i = (j - i) + 1 by omega, List.take_succ_eq_append_getElem (by simp; omega), List.sum_append, gx_eq l j hj]
  simp [show i + (j - i) = j by omega]
theorem sum_nonneg : ∀ (l : List Int), (∀ x ∈ l, 0 ≤ x) → 0 ≤ l.sum
  | [], _ => by simp
  | x :: l, h => by
    have h1 := h x (by simp)
    have h2 := sum_nonneg l fun y hy => h y (by simp [hy])
    simp; omega
theorem sum_take_le : ∀ (l : List Int) (a b : Nat), (∀ x ∈ l, 0 ≤ x) → a ≤ b → (l.take a).sum ≤ (l.take b).sum
  | [], a, b, _, _ => by simp
  | x :: l, 0, b, h, _ => by simpa using sum_nonneg _ (fun y hy => h y (List.mem_of_mem_take hy))
  | x :: l, a + 1, 0, h, hab => by omega
  | x :: l, a + 1, b + 1, h, hab => by
    have := sum_take_le l a b (fun y hy => h y (by simp [hy])) (by omega)
    simp; omega
/-- While the sum is less than the number it goes on; it stops at the number itself. -/
theorem sg_hits {l : List Int} {i j : Nat} {x : Int} (h : Hits x (l.drop i)) (hp : ∀ y ∈ l, 1 ≤ y) (hij : i ≤ j) (hj : j ≤ l.length) :
    (sg l i j < x → j < l.length ∧ sg l i (j + 1) ≤ x) := by
  obtain ⟨t, ht, hs⟩ := h
  have hp' : ∀ y ∈ l.drop i, 0 ≤ y := fun y hy => by have := hp y (List.mem_of_mem_drop hy); omega
  intro hlt
  have h1 : j - i < t := by
    rcases Nat.lt_or_ge (j - i) t with h2 | h2
    · exact h2
    · have := sum_take_le (l.drop i) t (j - i) hp' h2
      unfold sg at hlt; omega
  have hl : (l.drop i).length = l.length - i := by simp
  refine ⟨by omega, ?_⟩
  unfold sg
  rw [← hs]
  exact sum_take_le _ _ _ hp' (by omega)
/-! ### the strict transform -/
theorem psums_inj : ∀ (a b : List Nat) (l : Int), psums l a = psums l b → a = b
  | [], [], _, _ => rfl
  | [], b :: u, l, h => by cases h
  | a :: t, [], l, h => by cases h
  | a :: t, b :: u, l, h => by
    simp only [psums, List.cons.injEq] at h
    have e : a = b := by omega
    subst e
    rw [psums_inj t u _ h.2]
theorem runs_br {ys : List Int} {e : Nat} {ks : List Nat} {m : Nat} (h : Runs ys e ks m) : isBr ((e : Int) :: psums 0 ks) = true := isBr_chain h.ch h.lo h.hi h.hd h.bd
/-- A list that runs tell is the sequence of its branch, with more ones. -/
theorem runs_seq {ys : List Int} {e : Nat} {ks : List Nat} {m : Nat} (h : Runs ys e ks m) : (seqB ((e : Int) :: psums 0 ks)).length ≤ ys.length ∧ seqB ((e : Int) :: psums 0 ks) ++ ones (ys.length - (seqB ((e : Int) :: psums 0 ks)).length) = ys := by
  obtain ⟨e', ks', hx, hc, h1, h2, h3, h4, h5⟩ := br_runs (runs_br h)
  have hee : (e : Int) = (e' : Int) := (List.cons.inj hx).1
  have hee2 : e = e' := by omega
  subst hee2
  have hkk := psums_inj _ _ _ (List.cons.inj hx).2
  subst hkk
  rw [h5]
  cases ks with
  | nil =>
    have he : e = 1 := h.ch
    subst he
    have hy := h.eq
    simp only [catR, List.nil_append] at hy
    have h0 := h.at0
    cases m with
    | zero => rw [hy] at h0; simp [ones, gx] at h0
    | succ m =>
      rw [if_pos rfl, hy]
      simp [ones, List.replicate_succ]
  | cons k ks =>
    rw [if_neg (by simp), h.eq]
    simp [ones]
/-- The strict transform's sequence. -/
theorem strict_seq {xs : List Int} (h : isBr xs = true) : ∃ T, bsq ((seqB xs ++ ones 1).drop 1) = some T ∧ isBr T = true ∧ (seqB T).length ≤ (seqB xs).length ∧ seqB T ++ ones ((seqB xs).length - (seqB T).length) = (seqB xs ++ ones 1).drop 1 := by
  obtain ⟨e, ks, m, hr⟩ := strict_br h
  have h1 := runs_seq hr
  have hl : ((seqB xs ++ ones 1).drop 1).length = (seqB xs).length := by simp [ones]
  rw [hl] at h1
  exact ⟨_, hr.bsq, runs_br hr, h1.1, h1.2⟩
theorem bos_seq {xs : List Int} (h : isBr xs = true) (m : Nat) (hm : (seqB xs).length + m ≤ 400) : bosB (seqB xs ++ ones m) = (xs, 0) ∧ isqB (seqB xs ++ ones m) = true := by
  have hl := seqB_len h
  have hp : ptsB (seqB xs ++ ones m) = true := by
    refine ptsB_true.2 ⟨by simp; omega, by simp [ones]; omega, fun i hi => ?_⟩
    have := gx_mem _ i hi
    generalize gx (seqB xs ++ ones m) i = y at this ⊢
    rcases List.mem_append.1 this with h6 | h6
    · exact seqB_bd h _ h6
    · unfold ones at h6; rw [(List.mem_replicate.1 h6).2]; omega
  have hb := bsq_seq h m
  constructor
  · unfold bosB; rw [if_pos hp, hb]
  · unfold isqB; rw [hp, hb]; rfl
theorem bos_isq (xs : List Int) : isqB xs = ((bosB xs).2 == 0) := by
  unfold isqB bosB
  cases ptsB xs
  · rfl
  · rw [if_pos rfl]
    cases bsq xs <;> rfl
end Go.Proofs.Ytcnoaclijhcckaa.Pl
