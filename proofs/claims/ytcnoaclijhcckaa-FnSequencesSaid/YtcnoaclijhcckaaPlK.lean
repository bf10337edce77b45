/-
  PLAIN LAWS, CHAPTER 4: the branch of a sequence, read by runs and read by blocks; no program in sight.
-/
import Derived.Test.YtcnoaclijhcckaaPlG
namespace Go.Proofs.Ytcnoaclijhcckaa.Pl
set_option linter.unusedVariables false
/-- How many numbers e a list begins with. -/
def pre (e : Int) : List Int → Nat
  | [] => 0
  | y :: ys => if y = e then pre e ys + 1 else 0
theorem pre_le (e : Int) : ∀ ys, pre e ys ≤ ys.length
  | [] => by simp [pre]
  | y :: ys => by
    have := pre_le e ys
    unfold pre; split
    · simp; omega
    · omega
theorem gx_nil (k : Nat) : gx [] k = 0 := by simp [gx]
theorem gx_cons_zero (y : Int) (ys : List Int) : gx (y :: ys) 0 = y := by simp [gx]
theorem gx_cons_succ (y : Int) (ys : List Int) (k : Nat) : gx (y :: ys) (k + 1) = gx ys k := by simp [gx]
/-- The first c numbers are e. -/
theorem pre_at (e : Int) : ∀ (ys : List Int) (j : Nat), j < pre e ys → gx ys j = e
  | [], j, h => by simp [pre] at h
  | y :: ys, j, h => by
    unfold pre at h; split at h
    · cases j with
      | zero => rw [gx_cons_zero]; assumption
      | succ j => rw [gx_cons_succ]; exact pre_at e ys j (by omega)
    · omega
theorem pre_stop (e : Int) : ∀ (ys : List Int), pre e ys < ys.length → gx ys (pre e ys) ≠ e
  | [], h => by simp at h
  | y :: ys, h => by
    by_cases hy : y = e
    · have hp : pre e (y :: ys) = pre e ys + 1 := by rw [pre, if_pos hy]
      rw [hp] at h ⊢
      rw [gx_cons_succ]
      exact pre_stop e ys (by simp at h; omega)
    · have hp : pre e (y :: ys) = 0 := by rw [pre, if_neg hy]
      rw [hp, gx_cons_zero]; exact hy
/-- What counting finds is the number of them. -/
theorem pre_unique (e : Int) (ys : List Int) (c : Nat) (hc : c ≤ ys.length) (h1 : ∀ j, j < c → gx ys j = e) (h2 : c = ys.length ∨ gx ys c ≠ e) : c = pre e ys := by
  have hl := pre_le e ys
  rcases Nat.lt_trichotomy c (pre e ys) with h | h | h
  · have := pre_at e ys c h
    rcases h2 with h2 | h2
    · omega
    · exact absurd this h2
  · exact h
  · exact absurd (h1 _ h) (pre_stop e ys (by omega))
theorem pre_rep (e : Int) (Z : List Int) (hZ : ∀ z, Z.head? = some z → z ≠ e) : ∀ c : Nat, pre e (List.replicate c e ++ Z) = c
  | 0 => by
    cases Z with
    | nil => rfl
    | cons z Z => simp [pre, hZ z rfl]
  | c + 1 => by
    have := pre_rep e Z hZ c
    simp [List.replicate_succ, pre, this]
/-- One run after another. -/
def kOf (e : Int) (ys : List Int) : Int := (pre e ys : Int) * e + gx ys (pre e ys)
def runL (e : Int) (ys : List Int) : List Int := reps (steps (kOf e ys).toNat e.toNat)
def pI (e last : Int) (T ys : List Int) : Option (List Int) :=
  if 1 < e then
    if pre e ys = ys.length ∨ e < gx ys (pre e ys) then none
    else if runL e ys <+: ys then
      if h : gcdI e (kOf e ys) < e then pI (gcdI e (kOf e ys)) (last + kOf e ys) (T ++ [last + kOf e ys]) (ys.drop (runL e ys).length) else none
    else none
  else if ys.all (· == 1) then some T else none
termination_by e.toNat
decreasing_by omega
theorem pI_one {e last : Int} {T ys : List Int} (h : ¬ 1 < e) : pI e last T ys = if ys.all (· == 1) then some T else none := by rw [pI, if_neg h]
theorem pI_end {e last : Int} {T ys : List Int} (h : 1 < e) (h2 : pre e ys = ys.length) : pI e last T ys = none := by rw [pI, if_pos h, if_pos (.inl h2)]
theorem pI_up {e last : Int} {T ys : List Int} (h : 1 < e) (h2 : e < gx ys (pre e ys)) : pI e last T ys = none := by rw [pI, if_pos h, if_pos (.inr h2)]
theorem pI_no {e last : Int} {T ys : List Int} (h : 1 < e) (h2 : ¬ runL e ys <+: ys) : pI e last T ys = none := by
  rw [pI, if_pos h]; split
  · rfl
  · first | rfl | rw [if_neg h2]
theorem gcd_lt {e r : Int} (he : 1 < e) (h1 : 1 ≤ r) (h2 : r < e) (c : Int) : gcdI e (c * e + r) < e ∧ gcdI e (c * e + r) = gcdI e r ∧ 1 ≤ gcdI e r := by
  have e1 : gcdI e (c * e + r) = gcdI e r := by
    rw [show c * e + r = r + c * e by omega]
    exact gcdI_add (Int.dvd_mul_left c e)
  have := gcdI_le_right e r (by omega)
  have := gcdI_pos e r (by omega)
  exact ⟨by omega, e1, by omega⟩
theorem pI_go {e last : Int} {T ys : List Int} (h : 1 < e) (h1 : pre e ys ≠ ys.length) (h2 : ¬ e < gx ys (pre e ys)) (h3 : 1 ≤ gx ys (pre e ys)) (h4 : runL e ys <+: ys) :
    pI e last T ys = pI (gcdI e (kOf e ys)) (last + kOf e ys) (T ++ [last + kOf e ys]) (ys.drop (runL e ys).length) := by
  have hl := pre_le e ys
  have hne := pre_stop e ys (by omega)
  have hg := gcd_lt h h3 (by omega) (pre e ys : Int)
  rw [pI, if_pos h, if_neg (by rintro (h | h); exact h1 h; exact h2 h), if_pos h4]
  exact dif_pos hg.1
/-! ### steps, written out -/
theorem steps_desc : ∀ (n a b : Nat), b ≤ n → 0 < b → (reps (steps a b)).Pairwise (fun x y => y ≤ x) ∧ ∀ y ∈ reps (steps a b), y ≤ (b : Int) ∧ gcdI (b : Int) (a : Int) ≤ y
  | 0, a, b, h, hb => by omega
  | n + 1, a, b, h, hb => by
    rw [steps_pos a b hb]
    have e1 : reps ([((a / b : Nat) : Int), (b : Int)] :: steps b (a % b)) = List.replicate (a / b) (b : Int) ++ reps (steps b (a % b)) := by
      simp only [reps, rep, gx, List.flatMap_cons, List.getD_cons_zero, List.getD_cons_succ]
      rw [Int.toNat_natCast]
    rw [e1]
    have hgb : gcdI (b : Int) (a : Int) ≤ b := gcdI_le_left _ _ (by omega)
    rcases Nat.eq_zero_or_pos (a % b) with h0 | h0
    · rw [h0, steps_zero, reps_nil, List.append_nil]
      refine ⟨?_, fun y hy => ?_⟩
      · rw [List.pairwise_replicate]; exact Or.inr (Int.le_refl _)
      · rw [(List.mem_replicate.1 hy).2]; exact ⟨Int.le_refl _, hgb⟩
    · have hlt := Nat.mod_lt a hb
      have I := steps_desc n b (a % b) (by omega) h0
      have hg : gcdI ((a % b : Nat) : Int) (b : Int) = gcdI (b : Int) (a : Int) := by
        unfold gcdI
        simp only [Int.gcd, Int.natAbs_natCast]
        rw [Nat.gcd_rec b a]
      refine ⟨List.pairwise_append.2 ⟨?_, I.1, fun x hx y hy => ?_⟩, fun y hy => ?_⟩
      · rw [List.pairwise_replicate]; exact Or.inr (Int.le_refl _)
      · rw [(List.mem_replicate.1 hx).2]
        have := (I.2 y hy).1; omega
      · rcases List.mem_append.1 hy with hy | hy
        · rw [(List.mem_replicate.1 hy).2]; exact ⟨Int.le_refl _, hgb⟩
        · have := I.2 y hy
          rw [hg] at this
          exact ⟨by omega, this.2⟩
/-- What is read by runs descends. -/
theorem pI_desc : ∀ (n : Nat) (e last : Int) (T ys T' : List Int), e.toNat ≤ n → 1 ≤ e → (∀ y ∈ ys, 1 ≤ y) → pI e last T ys = some T' → ys.Pairwise (fun x y => y ≤ x) ∧ ∀ y ∈ ys, y ≤ e
  | 0, e, last, T, ys, T', hn, he, _, _ => by omega
  | n + 1, e, last, T, ys, T', hn, he, hy, h => by
    by_cases h1 : 1 < e
    · by_cases h2 : pre e ys = ys.length
      · rw [pI_end h1 h2] at h; cases h
      · by_cases h3 : e < gx ys (pre e ys)
        · rw [pI_up h1 h3] at h; cases h
        · by_cases h4 : runL e ys <+: ys
          · have hl := pre_le e ys
            have hp : 1 ≤ gx ys (pre e ys) := hy _ (gx_mem ys _ (by omega))
            have hne := pre_stop e ys (by omega)
            rw [pI_go h1 h2 h3 hp h4] at h
            have hg := gcd_lt h1 hp (by omega) (pre e ys : Int)
            have hge : gcdI e (kOf e ys) = gcdI e (gx ys (pre e ys)) := hg.2.1
            have hk1 : 0 ≤ kOf e ys := by
              unfold kOf; have : 0 ≤ (pre e ys : Int) * e := Int.mul_nonneg (by omega) (by omega); omega
            obtain ⟨Z, hZ⟩ := h4
            have hdrop : ys.drop (runL e ys).length = Z := by
              have := List.drop_left (l₁ := runL e ys) (l₂ := Z)
              rwa [hZ] at this
            rw [hdrop] at h
            have I := pI_desc n _ _ _ Z T' (by rw [hge]; have := hg.1; have := hg.2.1; omega) (by rw [hge]; exact hg.2.2) (fun y hyz => hy y (by rw [← hZ]; exact List.mem_append.2 (.inr hyz))) h
            have S := steps_desc e.toNat (kOf e ys).toNat e.toNat (Nat.le_refl _) (by omega)
            have ek : ((kOf e ys).toNat : Int) = kOf e ys := Int.toNat_of_nonneg hk1
            have ee : ((e.toNat : Nat) : Int) = e := Int.toNat_of_nonneg (by omega)
            rw [ek, ee] at S
            rw [← hZ]
            refine ⟨List.pairwise_append.2 ⟨S.1, I.1, fun x hx y hyz => ?_⟩, fun y hyy => ?_⟩
            · have := (S.2 x hx).2
              have := I.2 y hyz
              omega
            · rcases List.mem_append.1 hyy with hyy | hyy
              · exact (S.2 y hyy).1
              · have := I.2 y hyy
                have := hg.1; unfold kOf at *; omega
          · rw [pI_no h1 h4] at h; cases h
    · rw [pI_one h1] at h
      split at h
      · rename_i ha
        have hall : ∀ y ∈ ys, y = 1 := fun y hy => by simpa using List.all_eq_true.1 ha y hy
        refine ⟨?_, fun y hy => by rw [hall y hy]; omega⟩
        rw [List.pairwise_iff_forall_sublist]
        intro a b hab
        have ha := hall a (hab.subset (by simp))
        have hb := hall b (hab.subset (by simp))
        omega
      · cases h
/-! ### blocks {value, count} -/
def ex (tl : List (List Int)) : List Int := tl.flatMap fun s => List.replicate (gx s 1).toNat (gx s 0)
theorem ex_cons (v c : Int) (tl : List (List Int)) : ex ([v, c] :: tl) = List.replicate c.toNat v ++ ex tl := by simp [ex, gx]
def Dn : Int → List (List Int) → Prop
  | _, [] => True
  | m, s :: t => (∃ v c, s = [v, c] ∧ 1 ≤ v ∧ v < m ∧ 1 ≤ c) ∧ Dn (gx s 0) t
theorem ex_head {m : Int} {tl : List (List Int)} (h : Dn m tl) : ∀ z, (ex tl).head? = some z → z ≠ m := by
  cases tl with
  | nil => intro z hz; simp [ex] at hz
  | cons s t =>
    obtain ⟨⟨v, c, rfl, h1, h2, h3⟩, _⟩ := h
    intro z hz
    rw [ex_cons] at hz
    obtain ⟨d, hd⟩ : ∃ d, c.toNat = d + 1 := ⟨c.toNat - 1, by omega⟩
    rw [hd, List.replicate_succ] at hz
    simp at hz
    omega
theorem pfx_rep (r : Int) : ∀ (q c : Nat) (W Z : List Int), (∀ z, Z.head? = some z → z ≠ r) → (List.replicate q r ++ W <+: List.replicate c r ++ Z) → q ≤ c ∧ (q = c → W <+: Z) ∧ (q < c → ∀ x, W.head? = some x → x = r)
  | 0, 0, W, Z, hZ, h => ⟨Nat.le_refl _, fun _ => by simpa using h, fun h => by omega⟩
  | 0, c + 1, W, Z, hZ, h => by
    refine ⟨by omega, fun h => by omega, fun _ x hx => ?_⟩
    cases W with
    | nil => simp at hx
    | cons w W =>
      simp [List.replicate_succ] at h hx
      omega
  | q + 1, 0, W, Z, hZ, h => by
    exfalso
    cases Z with
    | nil => simp [List.replicate_succ] at h
    | cons z Z =>
      simp [List.replicate_succ] at h
      exact hZ z rfl h.1.symm
  | q + 1, c + 1, W, Z, hZ, h => by
    have h' : List.replicate q r ++ W <+: List.replicate c r ++ Z := by
      simpa [List.replicate_succ] using h
    obtain ⟨a, b, d⟩ := pfx_rep r q c W Z hZ h'
    exact ⟨by omega, fun e => b (by omega), fun e => d (by omega)⟩
/-- The blocks of one run behind its first one. -/
def inn (e rest cnt : Int) : List (List Int) → Option (Int × Int × List (List Int))
  | [] => if e % rest = 0 then (if cnt - e / rest < 0 then none else some (rest, cnt - e / rest, [])) else none
  | s :: t => if e % rest = 0 then (if cnt - e / rest < 0 then none else some (rest, cnt - e / rest, s :: t))
    else if cnt ≠ e / rest then none else if gx s 0 ≠ e % rest then none else inn rest (gx s 0) (gx s 1) t
def InnOk (e r c : Int) (tl : List (List Int)) : Option (Int × Int × List (List Int)) → Prop
  | none => ¬ (reps (steps e.toNat r.toNat) <+: ex ([r, c] :: tl))
  | some (g, c', t') => g = gcdI e r ∧ 0 ≤ c' ∧ Dn g t' ∧ t'.length ≤ tl.length ∧ ex ([r, c] :: tl) = reps (steps e.toNat r.toNat) ++ (List.replicate c'.toNat g ++ ex t')
theorem steps_int (e r : Int) (he : 0 ≤ e) (hr : 1 ≤ r) : reps (steps e.toNat r.toNat) = List.replicate (e / r).toNat r ++ reps (steps r.toNat (e % r).toNat) := by
  obtain ⟨a, rfl⟩ := Int.eq_ofNat_of_zero_le he
  obtain ⟨b, rfl⟩ := Int.eq_ofNat_of_zero_le (show 0 ≤ r by omega)
  simp only [Int.toNat_natCast]
  rw [steps_pos a b (by omega)]
  simp [reps, rep, gx]
  norm_cast
theorem steps_head (a r : Int) (h1 : 1 ≤ r) (h2 : r < a) : (reps (steps a.toNat r.toNat)).head? = some r := by
  rw [steps_int a r (by omega) h1]
  have : 1 ≤ a / r := Int.le_ediv_of_mul_le (by omega) (by omega)
  obtain ⟨d, hd⟩ : ∃ d, (a / r).toNat = d + 1 := ⟨(a / r).toNat - 1, by omega⟩
  rw [hd, List.replicate_succ]; rfl
theorem inn_zero {e r c : Int} {tl : List (List Int)} (he : 1 ≤ e) (hr : 1 ≤ r) (hc : 1 ≤ c) (hd : Dn r tl) (h0 : e % r = 0) : InnOk e r c tl (if c - e / r < 0 then none else some (r, c - e / r, tl)) := by
  have hq : 0 ≤ e / r := Int.ediv_nonneg (by omega) (by omega)
  have hs : reps (steps e.toNat r.toNat) = List.replicate (e / r).toNat r := by
    rw [steps_int e r (by omega) hr, h0]
    simp [steps_zero, reps_nil]
  split
  · rename_i hneg
    show ¬ _
    rw [hs, ex_cons]
    intro hp
    have := (pfx_rep r (e / r).toNat c.toNat [] (ex tl) (ex_head hd) (by simpa using hp)).1
    omega
  · refine ⟨?_, by omega, hd, Nat.le_refl _, ?_⟩
    · rw [gcdI_comm]; exact (gcdI_eq_left (by omega) (Int.dvd_of_emod_eq_zero h0)).symm
    · rw [hs, ex_cons, ← List.append_assoc, List.replicate_append_replicate]
      congr 2; omega
theorem inn_spec : ∀ (tl : List (List Int)) (e r c : Int), 1 ≤ e → 1 ≤ r → 1 ≤ c → Dn r tl → InnOk e r c tl (inn e r c tl)
  | [], e, r, c, he, hr, hc, hd => by
    unfold inn
    by_cases h0 : e % r = 0
    · rw [if_pos h0]; exact inn_zero he hr hc hd h0
    · rw [if_neg h0]
      show ¬ _
      rw [steps_int e r (by omega) hr, ex_cons]
      intro hp
      have hlt := Int.emod_lt_of_pos e (show 0 < r by omega)
      have hge := Int.emod_nonneg e (show r ≠ 0 by omega)
      have hh := steps_head r (e % r) (by omega) hlt
      obtain ⟨a, b, d⟩ := pfx_rep r _ _ _ _ (ex_head hd) hp
      rcases Nat.lt_or_ge (e / r).toNat c.toNat with h | h
      · have := d h _ hh; omega
      · have := b (by omega)
        rw [show ex [] = [] from rfl, List.prefix_nil] at this
        rw [this] at hh; simp at hh
  | s :: t, e, r, c, he, hr, hc, hd => by
    unfold inn
    by_cases h0 : e % r = 0
    · rw [if_pos h0]; exact inn_zero he hr hc hd h0
    · rw [if_neg h0]
      have hlt := Int.emod_lt_of_pos e (show 0 < r by omega)
      have hge := Int.emod_nonneg e (show r ≠ 0 by omega)
      have hq : 0 ≤ e / r := Int.ediv_nonneg (by omega) (by omega)
      have hh := steps_head r (e % r) (by omega) hlt
      have hS := steps_int e r (by omega) hr
      have hE := ex_head hd
      obtain ⟨⟨v, c2, rfl, h1, h2, h3⟩, hd2⟩ := hd
      have hEC := ex_cons v c2 t
      have gv : gx [v, c2] 0 = v := by simp [gx]
      have gc : gx [v, c2] 1 = c2 := by simp [gx]
      rw [gv] at hd2
      split
      · rename_i hne
        show ¬ _
        rw [hS, ex_cons]
        intro hp
        obtain ⟨a, b, d⟩ := pfx_rep r _ _ _ _ hE hp
        have := d (by omega) _ hh
        omega
      · rename_i heq
        have heq : c = e / r := by omega
        split
        · rename_i hv
          rw [gv] at hv
          show ¬ _
          rw [hS, ex_cons]
          intro hp
          obtain ⟨a, b, d⟩ := pfx_rep r _ _ _ _ hE hp
          obtain ⟨Y, hY⟩ := b (by rw [heq])
          rw [hEC] at hY
          obtain ⟨d2, hd2⟩ : ∃ d, c2.toNat = d + 1 := ⟨c2.toNat - 1, by omega⟩
          rw [hd2, List.replicate_succ] at hY
          have h5 : ((reps (steps r.toNat (e % r).toNat)) ++ Y).head? = some (e % r) := by rw [List.head?_append, hh]; rfl
          rw [hY] at h5
          simp at h5
          omega
        · rename_i hv
          rw [gv] at hv ⊢
          rw [gc]
          have hv : v = e % r := by omega
          have I := inn_spec t r v c2 hr h1 h3 hd2
          generalize inn r v c2 t = o at I
          have key : ex ([r, c] :: [v, c2] :: t) = List.replicate (e / r).toNat r ++ ex ([v, c2] :: t) := by rw [ex_cons r c, heq]
          match o, I with
          | none, I =>
            show ¬ _
            rw [hS, key]
            intro hp
            refine I ?_
            have h9 := (pfx_rep r _ _ _ _ hE hp).2.1 rfl
            rw [← hv] at h9
            exact h9
          | some (g, c', t'), I =>
            obtain ⟨i1, i2, i3, i4, i5⟩ := I
            refine ⟨?_, i2, i3, by simp; omega, ?_⟩
            · rw [i1, hv, gcdI_step e r (by omega) (by omega)]
            · rw [key, hS, i5, hv, List.append_assoc]
def pS (e cnt last : Int) (T : List Int) (tl : List (List Int)) : Option (List Int) :=
  if 1 < e then
    match tl with
    | [] => none
    | s :: t =>
      match inn e (gx s 0) (gx s 1) t with
      | none => none
      | some (g, c', t') => if h : t'.length < t.length + 1 then pS g c' (last + (cnt * e + gx s 0)) (T ++ [last + (cnt * e + gx s 0)]) t' else none
  else some T
termination_by tl.length
decreasing_by simpa using h
theorem pS_one {e cnt last : Int} {T : List Int} {tl : List (List Int)} (h : ¬ 1 < e) : pS e cnt last T tl = some T := by rw [pS.eq_def, if_neg h]
theorem pS_nil {e cnt last : Int} {T : List Int} (h : 1 < e) : pS e cnt last T [] = none := by rw [pS.eq_def, if_pos h]
theorem pS_no {e cnt last : Int} {T : List Int} {s : List Int} {t : List (List Int)} (h : 1 < e) (h2 : inn e (gx s 0) (gx s 1) t = none) : pS e cnt last T (s :: t) = none := by rw [pS.eq_def, if_pos h]; simp only [h2]
theorem pS_go {e cnt last g c' : Int} {T : List Int} {s : List Int} {t t' : List (List Int)} (h : 1 < e) (h2 : inn e (gx s 0) (gx s 1) t = some (g, c', t')) (h3 : t'.length ≤ t.length) :
    pS e cnt last T (s :: t) = pS g c' (last + (cnt * e + gx s 0)) (T ++ [last + (cnt * e + gx s 0)]) t' := by
  rw [pS.eq_def, if_pos h]; simp only [h2]; rw [dif_pos (by omega)]
/-- Both readings agree. -/
theorem pI_pS : ∀ (n : Nat) (e cnt last : Int) (T : List Int) (tl : List (List Int)), e.toNat ≤ n → 1 ≤ e → 0 ≤ cnt → Dn e tl → pI e last T (List.replicate cnt.toNat e ++ ex tl) = pS e cnt last T tl
  | 0, e, cnt, last, T, tl, hn, he, _, _ => by omega
  | n + 1, e, cnt, last, T, tl, hn, he, hc, hd => by
    by_cases h1 : 1 < e
    · have hp := pre_rep e (ex tl) (ex_head hd) cnt.toNat
      cases tl with
      | nil =>
        rw [pS_nil h1, pI_end h1]
        rw [hp]; simp [ex]
      | cons s t =>
        have hE := ex_head hd
        obtain ⟨⟨v, c, rfl, hv1, hv2, hc1⟩, hd2⟩ := hd
        have gv : gx [v, c] 0 = v := by simp [gx]
        have gc : gx [v, c] 1 = c := by simp [gx]
        rw [gv] at hd2
        have hlen : pre e (List.replicate cnt.toNat e ++ ex ([v, c] :: t)) ≠ (List.replicate cnt.toNat e ++ ex ([v, c] :: t)).length := by
          rw [hp, ex_cons]; simp; omega
        have hgx : gx (List.replicate cnt.toNat e ++ ex ([v, c] :: t)) (pre e (List.replicate cnt.toNat e ++ ex ([v, c] :: t))) = v := by
          rw [hp, gx_append, if_neg (by simp), ex_cons]
          obtain ⟨d, hd⟩ : ∃ d, c.toNat = d + 1 := ⟨c.toNat - 1, by omega⟩
          simp [hd, List.replicate_succ, gx]
        have hk : kOf e (List.replicate cnt.toNat e ++ ex ([v, c] :: t)) = cnt * e + v := by
          unfold kOf; rw [hgx, hp, Int.toNat_of_nonneg hc]
        have hke : 0 ≤ cnt * e + v := by have : 0 ≤ cnt * e := Int.mul_nonneg hc (by omega); omega
        have hdiv : (cnt * e + v) / e = cnt := by
          rw [show cnt * e + v = v + cnt * e by omega, Int.add_mul_ediv_right _ _ (by omega), Int.ediv_eq_zero_of_lt (by omega) hv2]; omega
        have hmod : (cnt * e + v) % e = v := by
          rw [show cnt * e + v = v + cnt * e by omega, Int.add_mul_emod_self_right, Int.emod_eq_of_lt (by omega) hv2]
        have hrun : runL e (List.replicate cnt.toNat e ++ ex ([v, c] :: t)) = List.replicate cnt.toNat e ++ reps (steps e.toNat v.toNat) := by
          unfold runL; rw [hk, steps_int _ e hke (by omega), hdiv, hmod]
        have I := inn_spec t e v c (by omega) hv1 hc1 hd2
        generalize ho : inn e v c t = o at I
        match o, I with
        | none, I =>
          rw [pS_no h1 (by rw [gv, gc]; exact ho), pI_no h1]
          rw [hrun, List.prefix_append_right_inj]
          exact I
        | some (g, c', t'), I =>
          obtain ⟨i1, i2, i3, i4, i5⟩ := I
          rw [pS_go h1 (by rw [gv, gc]; exact ho) i4, pI_go h1 hlen (by rw [hgx]; omega) (by rw [hgx]; omega) (by rw [hrun, i5, ← List.append_assoc]; exact List.prefix_append _ _)]
          have hg := gcd_lt h1 hv1 hv2 cnt
          rw [hk, hrun, gv, hg.2.1]
          rw [← pI_pS n g c' _ _ t' (by rw [i1]; have := hg.1; omega) (by rw [i1]; exact hg.2.2) i2 i3, i1]
          congr 1
          rw [i5, ← List.append_assoc, List.drop_left, i1]
    · obtain rfl : e = 1 := by omega
      rw [pS_one h1, pI_one h1]
      have : tl = [] := by
        cases tl with
        | nil => rfl
        | cons s t => obtain ⟨⟨v, c, rfl, a, b, _⟩, _⟩ := hd; omega
      subst this
      rw [if_pos]
      rw [List.all_eq_true]
      intro y hy
      simp [ex] at hy
      simp [hy.2]
/-- The next number is at most half of this one. -/
theorem gcd_half {e r : Int} (he : 1 ≤ e) (h1 : 1 ≤ r) (h2 : r < e) : 2 * gcdI e r ≤ e := by
  have hp := gcdI_pos e r (by omega)
  have hle := gcdI_le_right e r (by omega)
  obtain ⟨k, hk⟩ := gcdI_dvd_left e r
  generalize gcdI e r = g at *
  subst hk
  rcases Int.lt_or_le k 2 with h | h
  · rcases Int.lt_or_le k 1 with h3 | h3
    · have := Int.mul_nonneg (show 0 ≤ g by omega) (show 0 ≤ 0 - k by omega)
      have e2 : g * (0 - k) = -(g * k) := by rw [Int.mul_sub]; simp
      omega
    · obtain rfl : k = 1 := by omega
      omega
  · have := Int.mul_le_mul_of_nonneg_left h (show 0 ≤ g by omega)
    omega
def ptsB (xs : List Int) : Bool := decide (1 ≤ xs.length) && (decide (xs.length ≤ 400) && wiB xs 1 64)
theorem ptsB_true {xs : List Int} : ptsB xs = true ↔ 1 ≤ xs.length ∧ xs.length ≤ 400 ∧ ∀ i, i < xs.length → 1 ≤ gx xs i ∧ gx xs i ≤ 64 := by
  unfold ptsB wiB
  simp only [Bool.and_eq_true, decide_eq_true_eq, allF_true, inR_true]
  exact ⟨fun ⟨a, b, c⟩ => ⟨a, b, fun i h => c i (Nat.zero_le _) h⟩, fun ⟨a, b, c⟩ => ⟨a, b, fun i _ h => c i h⟩⟩
/-- The branch of a sequence, none if there is none. -/
def bsq (xs : List Int) : Option (List Int) := match pI (gx xs 0) 0 [gx xs 0] xs with
  | some T => if isBr T then some T else none
  | none => none
def bosB (xs : List Int) : List Int × Int := if ptsB xs then (match bsq xs with | some T => (T, 0) | none => ([], 5)) else ([], 2)
def isqB (xs : List Int) : Bool := ptsB xs && (bsq xs).isSome
theorem bsq_no {xs : List Int} (h : pI (gx xs 0) 0 [gx xs 0] xs = none) : bsq xs = none := by unfold bsq; rw [h]
theorem bsq_br {xs T : List Int} (h : pI (gx xs 0) 0 [gx xs 0] xs = some T) (hb : isBr T = false) : bsq xs = none := by unfold bsq; rw [h]; simp [hb]
theorem bsq_yes {xs T : List Int} (h : pI (gx xs 0) 0 [gx xs 0] xs = some T) (hb : isBr T = true) : bsq xs = some T := by unfold bsq; rw [h]; simp [hb]
theorem bosB_len (xs : List Int) : (bosB xs).1.length ≤ 1000000000 := by
  unfold bosB bsq; split
  · cases h : pI (gx xs 0) 0 [gx xs 0] xs with
    | none => simp
    | some T =>
      by_cases hb : isBr T = true
      · have := isBr_len_le hb
        simp [hb]; omega
      · simp [hb]
  · simp
end Go.Proofs.Ytcnoaclijhcckaa.Pl
