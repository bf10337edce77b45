/-
  PLAIN LAWS, CHAPTER 4: the sequence of a branch is read back; the sequence without its first number is that of the strict transform; no program in sight.
-/
import Derived.Test.YtcnoaclijhcckaaPlK
namespace Go.Proofs.Ytcnoaclijhcckaa.Pl
set_option linter.unusedVariables false
/-- The runs of numbers ks, from e on. -/
def catR : Nat → List Nat → List Int
  | _, [] => []
  | e, k :: ks => reps (steps k e) ++ catR (Nat.gcd e k) ks
theorem catR_cons (e k : Nat) (ks : List Nat) : catR e (k :: ks) = reps (steps k e) ++ catR (Nat.gcd e k) ks := rfl
def chain : Nat → List Nat → Prop
  | e, [] => e = 1
  | e, k :: ks => 1 ≤ e ∧ k % e ≠ 0 ∧ chain (Nat.gcd e k) ks
def psums (last : Int) : List Nat → List Int
  | [] => []
  | k :: ks => (last + k) :: psums (last + k) ks
theorem chain_two {e k : Nat} {ks : List Nat} (h : chain e (k :: ks)) : 2 ≤ e ∧ 1 ≤ k := by
  obtain ⟨h1, h2, _⟩ := h
  refine ⟨?_, ?_⟩
  · rcases Nat.lt_or_ge e 2 with h3 | h3
    · obtain rfl : e = 1 := by omega
      simp [Nat.mod_one] at h2
    · exact h3
  · rcases Nat.eq_zero_or_pos k with h3 | h3
    · subst h3; simp at h2
    · exact h3
theorem gcdI_nat (a b : Nat) : gcdI (a : Int) (b : Int) = (Nat.gcd a b : Nat) := by unfold gcdI; simp [Int.gcd]
theorem steps_nat (k e : Nat) (he : 1 ≤ e) : reps (steps k e) = List.replicate (k / e) (e : Int) ++ reps (steps e (k % e)) := by
  rw [steps_pos k e he]
  simp only [reps, rep, gx, List.flatMap_cons, List.getD_cons_zero, List.getD_cons_succ]
  rw [Int.toNat_natCast]
theorem steps_hd (a r : Nat) (h1 : 1 ≤ r) (h2 : r < a) : (reps (steps a r)).head? = some (r : Int) := by
  have := steps_head (a : Int) (r : Int) (by omega) (by omega)
  simpa using this
/-- Runs are read back. -/
theorem pI_runs : ∀ (ks : List Nat) (e : Nat) (last : Int) (T : List Int) (m : Nat), chain e ks → pI (e : Int) last T (catR e ks ++ ones m) = some (T ++ psums last ks)
  | [], e, last, T, m, h => by
    have he : e = 1 := h
    subst he
    rw [pI_one (by omega)]
    simp [catR, psums, ones]
  | k :: ks, e, last, T, m, h => by
    obtain ⟨he2, hk1⟩ := chain_two h
    obtain ⟨_, hne, hch⟩ := h
    have hlt := Nat.mod_lt k (show e > 0 by omega)
    have hr1 : 1 ≤ k % e := by omega
    have hcat : catR e (k :: ks) ++ ones m = List.replicate (k / e) (e : Int) ++ (reps (steps e (k % e)) ++ (catR (Nat.gcd e k) ks ++ ones m)) := by
      rw [catR_cons, steps_nat k e (by omega)]; simp [List.append_assoc]
    have hcat2 : catR e (k :: ks) ++ ones m = reps (steps k e) ++ (catR (Nat.gcd e k) ks ++ ones m) := by rw [catR_cons, List.append_assoc]
    have hhd := steps_hd e (k % e) hr1 hlt
    have hhd2 : (reps (steps e (k % e)) ++ (catR (Nat.gcd e k) ks ++ ones m)).head? = some ((k % e : Nat) : Int) := by rw [List.head?_append, hhd]; rfl
    have hp : pre (e : Int) (catR e (k :: ks) ++ ones m) = k / e := by
      rw [hcat]
      exact pre_rep _ _ (fun z hz => by rw [hhd2] at hz; cases hz; omega) _
    have hlen : (catR e (k :: ks) ++ ones m).length ≠ k / e := by
      rw [hcat]
      have : (reps (steps e (k % e)) ++ (catR (Nat.gcd e k) ks ++ ones m)).length ≠ 0 := by
        intro h0
        rw [List.eq_nil_of_length_eq_zero h0] at hhd2; cases hhd2
      rw [List.length_append, List.length_replicate]; omega
    have hgx : gx (catR e (k :: ks) ++ ones m) (k / e) = ((k % e : Nat) : Int) := by
      rw [hcat, gx_append, if_neg (by simp)]
      simp only [List.length_replicate, Nat.sub_self]
      cases hz : reps (steps e (k % e)) ++ (catR (Nat.gcd e k) ks ++ ones m) with
      | nil => rw [hz] at hhd2; cases hhd2
      | cons z Z => rw [hz] at hhd2; exact (gx_cons_zero z Z).trans (Option.some.inj hhd2)
    have hk : kOf (e : Int) (catR e (k :: ks) ++ ones m) = (k : Int) := by
      unfold kOf; rw [hp, hgx]
      have := Nat.div_add_mod k e
      have h2 : ((k / e : Nat) : Int) * (e : Int) + ((k % e : Nat) : Int) = ((e * (k / e) + k % e : Nat) : Int) := by
        push_cast; rw [Int.mul_comm]
      rw [h2, this]
    have hrun : runL (e : Int) (catR e (k :: ks) ++ ones m) = reps (steps k e) := by unfold runL; rw [hk]; simp
    rw [pI_go (by omega) (by rw [hp]; exact fun h => hlen h.symm) (by rw [hp, hgx]; omega) (by rw [hp, hgx]; omega) (by rw [hrun, hcat2]; exact List.prefix_append _ _)]
    rw [hk, hrun, hcat2, List.drop_left, gcdI_nat, pI_runs ks _ _ _ m hch]
    simp [psums]
/-! ### branches as runs -/
theorem psums_len (last : Int) : ∀ ks, (psums last ks).length = ks.length
  | [] => rfl
  | k :: ks => by simp [psums, psums_len]
/-- The divisors of a list of sums. -/
theorem dg_psums : ∀ (ks : List Nat) (T : List Int) (last : Int) (e : Nat), 1 ≤ T.length → dg T T.length = (e : Int) → (e : Int) ∣ last → chain e ks →
    dg (T ++ psums last ks) (T ++ psums last ks).length = 1 ∧ ∀ i, T.length ≤ i → i < (T ++ psums last ks).length → dg (T ++ psums last ks) (i + 1) ≠ dg (T ++ psums last ks) i
  | [], T, last, e, h1, h2, h3, h4 => by
    have : e = 1 := h4
    subst this
    simp only [psums, List.append_nil]
    exact ⟨h2, fun i a b => by omega⟩
  | k :: ks, T, last, e, h1, h2, h3, h4 => by
    obtain ⟨he2, hk1⟩ := chain_two h4
    obtain ⟨_, hne, hch⟩ := h4
    have e1 : dg (T ++ [last + (k : Int)]) (T ++ [last + (k : Int)]).length = ((Nat.gcd e k : Nat) : Int) := by
      simp only [List.length_append, List.length_singleton]
      rw [dg_snoc, h2, Int.add_comm last, gcdI_add h3, gcdI_nat]
    have hd : ((Nat.gcd e k : Nat) : Int) ∣ last + (k : Int) :=
      Int.dvd_add (Int.dvd_trans (Int.natCast_dvd_natCast.2 (Nat.gcd_dvd_left e k)) h3) (Int.natCast_dvd_natCast.2 (Nat.gcd_dvd_right e k))
    obtain ⟨i1, i2⟩ := dg_psums ks (T ++ [last + (k : Int)]) (last + k) (Nat.gcd e k) (by simp) e1 hd hch
    have hT : T ++ psums last (k :: ks) = (T ++ [last + (k : Int)]) ++ psums (last + k) ks := by simp [psums]
    rw [hT]
    refine ⟨i1, fun i a b => ?_⟩
    by_cases hi : T.length = i
    · subst hi
      rw [dg_append (T ++ [last + (k : Int)]) _ (T.length + 1) (by simp), dg_append (T ++ [last + (k : Int)]) _ T.length (by simp), dg_snoc, dg_append T _ _ (Nat.le_refl _), h2, Int.add_comm last, gcdI_add h3, gcdI_nat]
      intro hc
      have : Nat.gcd e k = e := by omega
      exact hne (Nat.mod_eq_zero_of_dvd (Nat.gcd_eq_left_iff_dvd.1 this))
    · exact i2 i (by simp; omega) b
theorem psums_bd {m : Int} : ∀ (ks : List Nat) (last : Int), (∀ k ∈ ks, 1 ≤ k) → ∀ i, i < ks.length → (i = 0 → last < gx (psums last ks) i) ∧ (1 ≤ i → gx (psums last ks) (i - 1) < gx (psums last ks) i)
  | [], last, h, i, hi => by simp at hi
  | k :: ks, last, h, i, hi => by
    have hk := h k (by simp)
    cases i with
    | zero => exact ⟨fun _ => by show last < last + (k : Int); omega, fun h => by omega⟩
    | succ i =>
      have I := psums_bd (m := m) ks (last + k) (fun x hx => h x (by simp [hx])) i (by simpa using hi)
      refine ⟨fun h => by omega, fun _ => ?_⟩
      simp only [psums, Nat.add_sub_cancel]
      rw [gx_cons_succ]
      cases i with
      | zero => rw [gx_cons_zero]; exact I.1 rfl
      | succ i => rw [gx_cons_succ]; exact I.2 (by omega)
theorem chain_pos : ∀ (ks : List Nat) (e : Nat), chain e ks → ∀ k ∈ ks, 1 ≤ k
  | [], _, _, k, hk => by simp at hk
  | x :: ks, e, h, k, hk => by
    rcases List.mem_cons.1 hk with rfl | h2
    · exact (chain_two h).2
    · exact chain_pos ks _ h.2.2 k h2
/-- What runs spell is a branch. -/
theorem isBr_chain {e : Nat} {ks : List Nat} (h : chain e ks) (he1 : 1 ≤ e) (he : e ≤ 64) (h1 : ∀ k, ks.head? = some k → e < k) (hb : ∀ x ∈ psums 0 ks, x ≤ 2000) : isBr ((e : Int) :: psums 0 ks) = true := by
  have hd := dg_psums ks [(e : Int)] 0 e (by simp) (by show dg [(e : Int)] 1 = _; exact dg_one _ (by show (0 : Int) ≤ (e : Int); omega)) (Int.dvd_zero _) h
  rw [show [(e : Int)] ++ psums 0 ks = (e : Int) :: psums 0 ks from rfl] at hd
  have hl : ((e : Int) :: psums 0 ks).length = ks.length + 1 := by simp [psums_len]
  refine isBr_true.2 ⟨by simp, ⟨by show (1 : Int) ≤ (e : Int); omega, by show (e : Int) ≤ 64; omega⟩, fun i a b => okT_true.2 ⟨?_, ?_, ?_⟩, hd.1⟩
  · obtain ⟨j, rfl⟩ : ∃ j, i = j + 1 := ⟨i - 1, by omega⟩
    rw [hl] at b
    have P := psums_bd (m := 0) ks 0 (chain_pos ks e h) j (by omega)
    simp only [Nat.add_sub_cancel]
    rw [gx_cons_succ]
    cases j with
    | zero =>
      rw [gx_cons_zero]
      cases ks with
      | nil => simp at b
      | cons k ks =>
        have := h1 k rfl
        show (e : Int) < 0 + (k : Int); omega
    | succ j => rw [gx_cons_succ]; exact P.2 (by omega)
  · obtain ⟨j, rfl⟩ : ∃ j, i = j + 1 := ⟨i - 1, by omega⟩
    rw [hl] at b
    rw [gx_cons_succ]
    exact hb _ (gx_mem _ _ (by rw [psums_len]; omega))
  · exact hd.2 i (by simpa using a) b
theorem psums_le : ∀ (ks : List Nat) {a b : Int}, a ≤ b → ∀ x ∈ psums a ks, ∃ y ∈ psums b ks, x ≤ y
  | [], a, b, _, x, hx => by simp [psums] at hx
  | k :: ks, a, b, h, x, hx => by
    simp only [psums, List.mem_cons] at hx ⊢
    rcases hx with rfl | hx
    · exact ⟨b + k, .inl rfl, by omega⟩
    · obtain ⟨y, hy, hxy⟩ := psums_le ks (a := a + k) (b := b + k) (by omega) x hx
      exact ⟨y, .inr hy, hxy⟩
theorem bsq_runs {e : Nat} {ks : List Nat} {ys : List Int} {m : Nat} (h : chain e ks) (he1 : 1 ≤ e) (he : e ≤ 64) (h1 : ∀ k, ks.head? = some k → e < k) (hb : ∀ x ∈ psums 0 ks, x ≤ 2000) (hy : ys = catR e ks ++ ones m) (h0 : gx ys 0 = (e : Int)) :
    bsq ys = some ((e : Int) :: psums 0 ks) := by
  refine bsq_yes ?_ (isBr_chain h he1 he h1 hb)
  rw [h0, hy, pI_runs ks e 0 [(e : Int)] m h]; rfl
/-- Runs whose branch the sequence without its first number has. -/
structure Runs (ys : List Int) (e : Nat) (ks : List Nat) (m : Nat) : Prop where
  eq : ys = catR e ks ++ ones m
  ch : chain e ks
  lo : 1 ≤ e
  hi : e ≤ 64
  hd : ∀ k, ks.head? = some k → e < k
  bd : ∀ x ∈ psums 0 ks, x ≤ 2000
  at0 : gx ys 0 = (e : Int)
theorem Runs.bsq {ys : List Int} {e : Nat} {ks : List Nat} {m : Nat} (h : Runs ys e ks m) : bsq ys = some ((e : Int) :: psums 0 ks) := bsq_runs h.ch h.lo h.hi h.hd h.bd h.eq h.at0
theorem chain_one {ks : List Nat} (h : chain 1 ks) : ks = [] := by
  cases ks with
  | nil => rfl
  | cons k ks => exact absurd (Nat.mod_one k) h.2.1
theorem strict_runs {e : Nat} {ks : List Nat} (h : chain e ks) (he1 : 1 ≤ e) (he : e ≤ 64) (h1 : ∀ k, ks.head? = some k → e < k) (hb : ∀ x ∈ psums 0 ks, x ≤ 2000) :
    ∃ e' ks' m, Runs (((if ks = [] then [1] else catR e ks) ++ ones 1).drop 1) e' ks' m := by
  cases ks with
  | nil =>
    refine ⟨1, [], 1, ⟨rfl, rfl, Nat.le_refl _, by omega, (fun k hk => by cases hk), (fun x hx => by simp [psums] at hx), rfl⟩⟩
  | cons k ks =>
    have hke := h1 k rfl
    obtain ⟨he2, hk1⟩ := chain_two h
    obtain ⟨_, hne, hch⟩ := h
    have hlt := Nat.mod_lt k (show e > 0 by omega)
    have hr1 : 1 ≤ k % e := by omega
    have hdm := Nat.div_add_mod k e
    have hq1 : 1 ≤ k / e := (Nat.le_div_iff_mul_le (by omega)).2 (by omega)
    obtain ⟨q, hq⟩ : ∃ q, k / e = q + 1 := ⟨k / e - 1, by omega⟩
    have hcat : ((if k :: ks = [] then [1] else catR e (k :: ks)) ++ ones 1).drop 1 = List.replicate q (e : Int) ++ (reps (steps e (k % e)) ++ (catR (Nat.gcd e k) ks ++ ones 1)) := by
      rw [if_neg (by simp), catR_cons, steps_nat k e (by omega), hq, List.replicate_succ]
      simp [List.append_assoc]
    have hgr : Nat.gcd e k = Nat.gcd e (k % e) := by
      rw [Nat.gcd_rec e k, Nat.gcd_comm]
    rw [hcat]
    rcases Nat.eq_zero_or_pos q with h0 | h0
    · -- one number alone: the run goes on with its rest
      subst h0
      have hkr : k = e + k % e := by
        have : e * (k / e) = e := by rw [hq]; omega
        omega
      generalize hr : k % e = r at *
      have hhd := steps_hd e r hr1 hlt
      have hg0 : gx (reps (steps e r) ++ (catR (Nat.gcd e k) ks ++ ones 1)) 0 = (r : Int) := by
        cases hz : reps (steps e r) with
        | nil => rw [hz] at hhd; cases hhd
        | cons z Z => rw [hz] at hhd; rw [List.cons_append, gx_cons_zero]; exact Option.some.inj hhd
      simp only [List.replicate_zero, List.nil_append]
      by_cases hre : e % r = 0
      · have hstep : reps (steps e r) = List.replicate (e / r) (r : Int) := by
          rw [steps_nat e r hr1, hre, steps_zero, reps_nil, List.append_nil]
        have hgr2 : Nat.gcd e k = r := by rw [hgr]; exact Nat.gcd_eq_right (Nat.dvd_of_mod_eq_zero hre)
        rw [hgr2] at hch hg0 ⊢
        by_cases hr2 : r = 1
        · subst hr2
          have hks := chain_one hch
          subst hks
          refine ⟨1, [], e + 1, ⟨?_, rfl, Nat.le_refl _, by omega, (fun k hk => by cases hk), (fun x hx => by simp [psums] at hx), hg0⟩⟩
          rw [hstep]
          simp [catR, ones, List.replicate_succ']
        · cases ks with
          | nil => exact absurd hch hr2
          | cons k2 ks2 =>
            obtain ⟨_, hne2, hch2⟩ := hch
            have hd1 : (e + k2) / r = e / r + k2 / r := by
              obtain ⟨c, hc⟩ := Nat.dvd_of_mod_eq_zero hre
              rw [hc, Nat.mul_add_div (by omega), Nat.mul_div_cancel_left _ (by omega)]
            have hd2 : (e + k2) % r = k2 % r := by rw [Nat.add_mod, hre, Nat.zero_add, Nat.mod_mod]
            have hd3 : Nat.gcd r (e + k2) = Nat.gcd r k2 := by rw [Nat.gcd_rec, hd2, ← Nat.gcd_rec]
            refine ⟨r, (e + k2) :: ks2, 1, ⟨?_, ⟨hr1, by rw [hd2]; exact hne2, by rw [hd3]; exact hch2⟩, hr1, by omega, (fun k hk => by cases hk; omega), (fun x hx => ?_), hg0⟩⟩
            · rw [catR_cons, catR_cons, hstep, steps_nat (e + k2) r hr1, steps_nat k2 r hr1, hd1, hd2, hd3]
              simp only [List.append_assoc]
              rw [← List.append_assoc, List.replicate_append_replicate]
            · simp only [psums, List.mem_cons] at hx hb
              rcases hx with rfl | hx
              · have := hb (0 + (k : Int) + (k2 : Int)) (.inr (.inl rfl)); push_cast; omega
              · obtain ⟨y, hy, hxy⟩ := psums_le ks2 (a := 0 + ((e + k2 : Nat) : Int)) (b := 0 + (k : Int) + (k2 : Int)) (by push_cast; omega) x hx
                have := hb y (.inr (.inr hy)); omega
      · have hgc : Nat.gcd r e = Nat.gcd e k := by rw [hgr, Nat.gcd_comm]
        refine ⟨r, e :: ks, 1, ⟨?_, ⟨hr1, hre, by rw [hgc]; exact hch⟩, hr1, by omega, (fun k hk => by cases hk; exact hlt), (fun x hx => ?_), hg0⟩⟩
        · rw [catR_cons, hgc]; simp [List.append_assoc]
        · simp only [psums, List.mem_cons] at hx hb
          rcases hx with rfl | hx
          · have := hb (0 + (k : Int)) (.inl rfl); omega
          · obtain ⟨y, hy, hxy⟩ := psums_le ks (a := 0 + (e : Int)) (b := 0 + (k : Int)) (by omega) x hx
            have := hb y (.inr hy); omega
    · -- several numbers: one less
      have hk2 : e ≤ k := by omega
      have hd1 : (k - e) / e = q := by
        rw [Nat.sub_eq_of_eq_add (show k = (q * e + k % e) + e by rw [hq] at hdm; rw [Nat.mul_add] at hdm; rw [Nat.mul_comm q e]; omega)]
        rw [Nat.mul_comm q e, Nat.mul_add_div (by omega), Nat.div_eq_of_lt hlt, Nat.add_zero]
      have hd2 : (k - e) % e = k % e := by rw [← Nat.mod_eq_sub_mod hk2]
      have hd3 : Nat.gcd e (k - e) = Nat.gcd e k := by rw [Nat.gcd_rec e (k - e), hd2, ← Nat.gcd_rec]
      have hbig : e < k - e := by
        have h5 : e * (k / e) = e * q + e := by rw [hq, Nat.mul_add, Nat.mul_one]
        have h6 : e ≤ e * q := Nat.le_mul_of_pos_right e h0
        omega
      refine ⟨e, (k - e) :: ks, 1, ⟨?_, ⟨he1, by rw [hd2]; exact hne, by rw [hd3]; exact hch⟩, he1, he, (fun k' hk' => by cases hk'; exact hbig), (fun x hx => ?_), ?_⟩⟩
      · rw [catR_cons, hd3, steps_nat (k - e) e he1, hd1, hd2]; simp [List.append_assoc]
      · simp only [psums, List.mem_cons] at hx hb
        rcases hx with rfl | hx
        · have := hb (0 + (k : Int)) (.inl rfl); omega
        · obtain ⟨y, hy, hxy⟩ := psums_le ks (a := 0 + ((k - e : Nat) : Int)) (b := 0 + (k : Int)) (by omega) x hx
          have := hb y (.inr hy); omega
      · obtain ⟨d, hd⟩ : ∃ d, q = d + 1 := ⟨q - 1, by omega⟩
        rw [hd, List.replicate_succ, List.cons_append, gx_cons_zero]
/-! ### a branch's own runs -/
theorem ee_next {xs : List Int} (h : isBr xs = true) (i : Nat) (h1 : 1 ≤ i) (h2 : i < xs.length) : Nat.gcd (ee xs i) (kk xs i) = ee xs (i + 1) := by
  obtain ⟨a, b, c, d, e⟩ := kk_bd h i h1 h2
  have hdg := isBr_dg h i h1
  have hee : ((ee xs i : Nat) : Int) = dg xs i := by unfold ee; omega
  have hdv : dg xs i ∣ (if i ≤ 1 then 0 else gx xs (i - 1)) := by
    split
    · exact Int.dvd_zero _
    · have := dg_dvd xs (i - 1); rwa [show i - 1 + 1 = i by omega] at this
  have key : gcdI (dg xs i) (gx xs i) = ((Nat.gcd (ee xs i) (kk xs i) : Nat) : Int) := by
    rw [← gcdI_nat, hee, ← gcdI_add hdv (b := ((kk xs i : Nat) : Int)), e.1]
    congr 1; omega
  have h3 : dg xs (i + 1) = gcdI (dg xs i) (gx xs i) := dg_succ xs i
  unfold ee at key ⊢
  rw [h3, key]; simp
theorem br_runs_from {xs : List Int} (h : isBr xs = true) : ∀ (n a : Nat), 1 ≤ a → a + n = xs.length →
    xs.drop a = psums (if a ≤ 1 then 0 else gx xs (a - 1)) ((List.range' a n).map (kk xs)) ∧ chain (ee xs a) ((List.range' a n).map (kk xs)) ∧
    reps ((List.range' a n).flatMap fun j => steps (kk xs j) (ee xs j)) = catR (ee xs a) ((List.range' a n).map (kk xs))
  | 0, a, h1, h2 => by
    have hlast := (isBr_true.1 h).2.2.2
    refine ⟨?_, ?_, rfl⟩
    · rw [List.drop_of_length_le (by omega)]; rfl
    · show ee xs a = 1
      unfold ee; rw [show a = xs.length by omega, hlast]; rfl
  | n + 1, a, h1, h2 => by
    have hlt : a < xs.length := by omega
    obtain ⟨b1, b2, b3, b4, b5⟩ := kk_bd h a h1 hlt
    obtain ⟨i1, i2, i3⟩ := br_runs_from h n (a + 1) (by omega) (by omega)
    have hnext := ee_next h a h1 hlt
    have hdg := isBr_dg h a h1
    have hok := (okT_true.1 ((isBr_true.1 h).2.2.1 a h1 hlt)).2.2
    have hk : (if a ≤ 1 then 0 else gx xs (a - 1)) + ((kk xs a : Nat) : Int) = gx xs a := by rw [b5.1]; omega
    rw [List.range'_succ, List.map_cons]
    refine ⟨?_, ⟨b3, fun hm => ?_, by rw [hnext]; exact i2⟩, ?_⟩
    · rw [psums, hk, List.drop_eq_getElem_cons hlt, i1, if_neg (by omega), gx_eq xs a hlt]; simp [gx, hlt]
    · have : ee xs (a + 1) = ee xs a := by rw [← hnext]; exact Nat.gcd_eq_left (Nat.dvd_of_mod_eq_zero hm)
      have hdg2 := isBr_dg h (a + 1) (by omega)
      unfold ee at this
      omega
    · rw [List.flatMap_cons, reps_append, i3, catR_cons, hnext]
theorem br_runs {xs : List Int} (h : isBr xs = true) : ∃ (e : Nat) (ks : List Nat), xs = (e : Int) :: psums 0 ks ∧ chain e ks ∧ 1 ≤ e ∧ e ≤ 64 ∧ (∀ k, ks.head? = some k → e < k) ∧ (∀ x ∈ psums 0 ks, x ≤ 2000) ∧ seqB xs = (if ks = [] then [1] else catR e ks) := by
  obtain ⟨hl, h0, hok, _⟩ := isBr_true.1 h
  obtain ⟨i1, i2, i3⟩ := br_runs_from h (xs.length - 1) 1 (Nat.le_refl _) (by omega)
  have hee : ((ee xs 1 : Nat) : Int) = gx xs 0 := by unfold ee; rw [dg_one xs (by omega)]; omega
  rw [if_pos (Nat.le_refl _)] at i1
  have hxs : xs = ((ee xs 1 : Nat) : Int) :: psums 0 ((List.range' 1 (xs.length - 1)).map (kk xs)) := by
    rw [← i1, hee]
    cases xs with
    | nil => simp at hl
    | cons x t => rfl
  refine ⟨ee xs 1, _, hxs, i2, by omega, by omega, fun k hk => ?_, fun x hx => ?_, ?_⟩
  · have hlen : 1 < xs.length := by
      rcases Nat.lt_or_ge 1 xs.length with h2 | h2
      · exact h2
      · rw [show xs.length - 1 = 0 by omega] at hk; cases hk
    have h2 := (okT_true.1 (hok 1 (Nat.le_refl _) hlen)).1
    obtain ⟨d, hd⟩ : ∃ d, xs.length - 1 = d + 1 := ⟨xs.length - 2, by omega⟩
    rw [hd, List.range'_succ, List.map_cons] at hk
    cases hk
    have := (kk_bd h 1 (Nat.le_refl _) hlen).2.2.2.2.1
    rw [if_pos (Nat.le_refl _)] at this
    simp at h2
    omega
  · rw [← i1] at hx
    obtain ⟨q, hq, rfl⟩ := List.getElem_of_mem hx
    rw [List.length_drop] at hq
    have := (okT_true.1 (hok (1 + q) (by omega) (by omega))).2.1
    rw [List.getElem_drop, ← gx_eq]
    exact this
  · unfold seqB sqn rws
    by_cases h1 : xs.length = 1
    · rw [if_pos h1, if_pos (by rw [h1]; rfl)]
    · rw [if_neg h1, i3, if_neg]
      intro hc
      have := congrArg List.length hc
      simp at this; omega
/-- The sequence of a branch, with more ones, is read back. -/
theorem bsq_seq {xs : List Int} (h : isBr xs = true) (m : Nat) : bsq (seqB xs ++ ones m) = some xs := by
  obtain ⟨e, ks, hx, hc, h1, h2, h3, h4, h5⟩ := br_runs h
  rw [h5]
  cases ks with
  | nil =>
    have he : e = 1 := hc
    subst he
    rw [if_pos rfl, hx]
    refine bsq_runs (m := m + 1) hc h1 h2 h3 h4 ?_ rfl
    simp [catR, ones, List.replicate_succ]
  | cons k ks =>
    rw [if_neg (by simp), hx]
    refine bsq_runs (m := m) hc h1 h2 h3 h4 rfl ?_
    have hke := h3 k rfl
    have hq1 : 1 ≤ k / e := (Nat.le_div_iff_mul_le (by omega)).2 (by omega)
    obtain ⟨q, hq⟩ : ∃ q, k / e = q + 1 := ⟨k / e - 1, by omega⟩
    rw [catR_cons, steps_nat k e h1, hq, List.replicate_succ]
    rfl
/-- The strict transform of a branch. -/
theorem strict_br {xs : List Int} (h : isBr xs = true) : ∃ e' ks' m, Runs ((seqB xs ++ ones 1).drop 1) e' ks' m := by
  obtain ⟨e, ks, hx, hc, h1, h2, h3, h4, h5⟩ := br_runs h
  rw [h5]
  exact strict_runs hc h1 h2 h3 h4
end Go.Proofs.Ytcnoaclijhcckaa.Pl
