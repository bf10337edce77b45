/-
  PLAIN LAWS, CHAPTER 2: factors of a polynomial make it up to its sign; no program in sight.
  PLAIN LAWS, CHAPTER 2: binomials are products of the cyclotomic polynomials of all divisors, up to 60, by the kernel; no program in sight.
-/
import Derived.Test.YtogkblncdpbhnaaPlOB
import Derived.Test.YtogkblncdpbhnaaPlOx
import Derived.Test.YtogkblncdpbhnaaPlQ
namespace Go.Proofs.Ytogkblncdpbhnaa.Pl
open Go
set_option linter.unusedVariables false
/-! ### multiplication by a list, of functions -/
def sh (f : Nat → Int) (j : Nat) : Int := if j = 0 then 0 else f (j - 1)
def mf : List Int → (Nat → Int) → Nat → Int
  | [], _ => fun _ => 0
  | c :: cs, f => fun j => c * f j + sh (mf cs f) j
theorem mf_nil (f : Nat → Int) (j : Nat) : mf [] f j = 0 := rfl
theorem mf_cons (c : Int) (cs : List Int) (f : Nat → Int) (j : Nat) : mf (c :: cs) f j = c * f j + sh (mf cs f) j := rfl
theorem mf_ext {f g : Nat → Int} (h : ∀ j, f j = g j) (q : List Int) (j : Nat) : mf q f j = mf q g j := by rw [show f = g from funext h]
theorem mf_add (f g : Nat → Int) : ∀ (q : List Int) (j : Nat), mf q (fun i => f i + g i) j = mf q f j + mf q g j
  | [], j => rfl
  | c :: cs, j => by
    rw [mf_cons, mf_cons, mf_cons, Int.mul_add]
    have h : sh (mf cs (fun i => f i + g i)) j = sh (mf cs f) j + sh (mf cs g) j := by
      unfold sh; split
      · rfl
      · exact mf_add f g cs _
    rw [h]; omega
theorem mf_smul (a : Int) (f : Nat → Int) : ∀ (q : List Int) (j : Nat), mf q (fun i => a * f i) j = a * mf q f j
  | [], j => by rw [mf_nil, mf_nil, Int.mul_zero]
  | c :: cs, j => by
    rw [mf_cons, mf_cons, Int.mul_add, Int.mul_left_comm]
    have h : sh (mf cs (fun i => a * f i)) j = a * sh (mf cs f) j := by
      unfold sh; split
      · rw [Int.mul_zero]
      · exact mf_smul a f cs _
    rw [h]
theorem mf_sh (f : Nat → Int) : ∀ (q : List Int) (j : Nat), mf q (sh f) j = sh (mf q f) j
  | [], j => by unfold sh; split <;> rfl
  | c :: cs, j => by
    rw [mf_cons, show mf cs (sh f) = sh (mf cs f) from funext fun i => mf_sh f cs i]
    unfold sh
    rcases j with _ | j
    · simp
    · simp only [Nat.add_sub_cancel, Nat.succ_ne_zero, if_false]
      rw [mf_cons]; rfl
theorem mf_zero : ∀ (q : List Int) (j : Nat), mf q (fun _ => 0) j = 0
  | [], _ => rfl
  | c :: cs, j => by
    rw [mf_cons, Int.mul_zero]
    unfold sh; split
    · rfl
    · rw [mf_zero cs]; rfl
theorem mf_comm (f : Nat → Int) (r : List Int) : ∀ (q : List Int) (j : Nat), mf q (mf r f) j = mf r (mf q f) j
  | [], j => (mf_zero r j).symm
  | c :: cs, j => by
    have e : mf (c :: cs) f = fun i => (fun i => c * f i) i + sh (mf cs f) i := rfl
    rw [e, mf_add, mf_smul, mf_sh, mf_cons]
    have h : sh (mf cs (mf r f)) j = sh (mf r (mf cs f)) j := by
      unfold sh; split
      · rfl
      · exact mf_comm f r cs _
    rw [h]
theorem mf_sm (f : Nat → Int) : ∀ (q : List Int) (j : Nat), sm (fun k => if k ≤ j then gx q k * f (j - k) else 0) q.length = mf q f j
  | [], j => rfl
  | c :: cs, j => by
    rw [List.length_cons, sm_left, mf_cons, if_pos (Nat.zero_le j)]
    congr 1
    rcases j with _ | j
    · unfold sh
      exact sm_zero _ (fun i _ => if_neg (by omega))
    · show _ = (if j + 1 = 0 then 0 else mf cs f (j + 1 - 1))
      rw [if_neg (by omega), Nat.add_sub_cancel, ← mf_sm f cs j]
      refine sm_congr _ fun i _ => ?_
      by_cases h : i ≤ j
      · rw [if_pos h, if_pos (by omega), show j + 1 - (i + 1) = j - i by omega]; rfl
      · rw [if_neg h, if_neg (by omega)]
theorem cv_mf (p q : List Int) (j : Nat) : cv p q j = mf q (gx p) j := mf_sm (gx p) q j
/-! ### congruence -/
def md (a b : Int) : Prop := a % 18446744073709551616 = b % 18446744073709551616
theorem md_refl (a : Int) : md a a := rfl
theorem md_trans {a b c : Int} (h : md a b) (h2 : md b c) : md a c := h.trans h2
theorem md_add {a b c d : Int} (h : md a b) (h2 : md c d) : md (a + c) (b + d) := by unfold md at *; omega
theorem md_mul {a b : Int} (c : Int) (h : md a b) : md (c * a) (c * b) := by
  unfold md at *
  rw [Int.mul_emod, h, ← Int.mul_emod]
theorem mf_md {f g : Nat → Int} (h : ∀ j, md (f j) (g j)) : ∀ (q : List Int) (j : Nat), md (mf q f j) (mf q g j)
  | [], j => rfl
  | c :: cs, j => by
    rw [mf_cons, mf_cons]
    refine md_add (md_mul c (h j)) ?_
    unfold sh; split
    · rfl
    · exact mf_md h cs _
theorem wr_md (z : Int) : md (wr z) z := by
  unfold md wr
  simp only [IntKind.wrap, IntKind.bits, IntKind.signed]
  simp
  split <;> omega
theorem qIn_md (t : Int) (k : Nat) (q : List Int) : ∀ (r i : Nat) (rest : List Int), k + i + r ≤ rest.length →
    ∀ j, md (gx (qIn t k q r i rest) j) (if k + i ≤ j ∧ j < k + i + r then gx rest j - t * gx q (j - k) else gx rest j)
  | 0, i, rest, _, j => by rw [if_neg (by omega)]; rfl
  | r + 1, i, rest, hl, j => by
    show md (gx (qIn t k q r (i + 1) (rest.set (k + i) (wr (gx rest (k + i) - wr (t * gx q i))))) j) _
    refine md_trans (qIn_md t k q r (i + 1) _ (by rw [List.length_set]; omega) j) ?_
    rw [gx_set rest (k + i) j _ (by omega)]
    by_cases h1 : j = k + i
    · subst h1
      rw [if_neg (by omega), if_pos rfl, if_pos (by omega), Nat.add_sub_cancel_left]
      have e1 := wr_md (gx rest (k + i) - wr (t * gx q i))
      have e2 := wr_md (t * gx q i)
      unfold md at *
      omega
    · rw [if_neg h1]
      by_cases h2 : k + (i + 1) ≤ j ∧ j < k + (i + 1) + r
      · rw [if_pos h2, if_pos (by omega)]; rfl
      · rw [if_neg h2, if_neg (by omega)]; rfl
theorem qOut_md (q : List Int) (hq : 0 < q.length) : ∀ (k : Nat) (rest out : List Int), k + q.length ≤ rest.length + 1 → k ≤ out.length →
    ∀ j, md (gx rest j) (gx (qOut q k rest out).1 j + cp (qOut q k rest out).2 q k j)
  | 0, rest, out, _, _, j => by
    show md (gx rest j) (gx rest j + 0)
    rw [Int.add_zero]; rfl
  | k + 1, rest, out, hl, ho, j => by
    have e := qOut_md q hq k (qIn (gx rest (k + (q.length - 1))) k q q.length 0 rest) (out.set k (gx rest (k + (q.length - 1)))) (by rw [qIn_len]; omega) (by rw [List.length_set]; omega) j
    have e1 := qIn_md (gx rest (k + (q.length - 1))) k q q.length 0 rest (by omega) j
    have e2 : gx (qOut q (k + 1) rest out).2 k = gx rest (k + (q.length - 1)) := by
      show gx (qOut q k (qIn (gx rest (k + (q.length - 1))) k q q.length 0 rest) (out.set k (gx rest (k + (q.length - 1))))).2 k = _
      rw [qOut_keep q k _ _ k (Nat.le_refl _) (by rw [List.length_set]; omega), gx_set out k k _ (by omega), if_pos rfl]
    rw [cp_succ, e2]
    show md (gx rest j) (gx (qOut q k (qIn (gx rest (k + (q.length - 1))) k q q.length 0 rest) (out.set k (gx rest (k + (q.length - 1))))).1 j + (cp (qOut q k (qIn (gx rest (k + (q.length - 1))) k q q.length 0 rest) (out.set k (gx rest (k + (q.length - 1))))).2 q k j + _))
    generalize gx (qOut q k (qIn (gx rest (k + (q.length - 1))) k q q.length 0 rest) (out.set k (gx rest (k + (q.length - 1))))).1 j = R at *
    generalize cp (qOut q k (qIn (gx rest (k + (q.length - 1))) k q q.length 0 rest) (out.set k (gx rest (k + (q.length - 1))))).2 q k j = C at *
    generalize gx (qIn (gx rest (k + (q.length - 1))) k q q.length 0 rest) j = X at *
    generalize gx rest (k + (q.length - 1)) = t at *
    rw [Nat.add_zero] at e1
    by_cases h1 : k ≤ j
    · rw [if_pos h1]
      by_cases h2 : j < k + q.length
      · rw [if_pos ⟨h1, h2⟩] at e1
        generalize t * gx q (j - k) = m at *
        unfold md at *; omega
      · rw [if_neg (fun h => h2 h.2)] at e1
        rw [gx_out q (j - k) (by omega), Int.mul_zero]
        unfold md at *; omega
    · rw [if_neg h1]
      rw [if_neg (fun h => h1 h.1)] at e1
      unfold md at *; omega
theorem allZ_gx {l : List Int} (h : allZ l = true) (j : Nat) : gx l j = 0 := by
  unfold allZ at h
  rw [List.all_eq_true] at h
  rcases Nat.lt_or_ge j l.length with hj | hj
  · have := h (gx l j) (gx_mem l j hj)
    simpa using this
  · exact gx_out l j hj
/-- What a division says. -/
theorem qwF_md {p q : List Int} (hq : 0 < q.length) (h : (qwF p q).2 = true) (j : Nat) : md (gx p j) (mf q (gx (qwF p q).1) j) := by
  obtain ⟨hl, hlen⟩ := qwF_len h
  have e := qOut_md q hq (p.length - q.length + 1) p (List.replicate (p.length - q.length + 1) 0) (by omega) (by rw [List.length_replicate]; omega) j
  unfold qwF at h hlen ⊢
  rw [if_neg (by omega)] at h hlen ⊢
  simp only at h hlen ⊢
  rw [allZ_gx h j, Int.zero_add] at e
  rw [← cv_mf, ← cp_cv, hlen]
  exact e
/-! ### the factors -/
def mfn (q : List Int) : Nat → (Nat → Int) → Nat → Int
  | 0, f => f
  | e + 1, f => mf q (mfn q e f)
theorem mfn_md {f g : Nat → Int} (q : List Int) (h : ∀ j, md (f j) (g j)) : ∀ (e : Nat) (j : Nat), md (mfn q e f j) (mfn q e g j)
  | 0, j => h j
  | e + 1, j => mf_md (mfn_md q h e) q j
theorem mfn_mf (q r : List Int) (f : Nat → Int) : ∀ e : Nat, mfn q e (mf r f) = mf r (mfn q e f)
  | 0 => rfl
  | e + 1 => by
    show mf q (mfn q e (mf r f)) = mf r (mf q (mfn q e f))
    rw [mfn_mf q r f e]
    exact funext fun j => mf_comm (mfn q e f) r q j
theorem mfn_smul (a : Int) (q : List Int) (f : Nat → Int) : ∀ e : Nat, mfn q e (fun i => a * f i) = fun i => a * mfn q e f i
  | 0 => rfl
  | e + 1 => by
    show mf q (mfn q e (fun i => a * f i)) = _
    rw [mfn_smul a q f e]
    exact funext fun j => mf_smul a _ q j
theorem dvR_md {q : List Int} (hq : 0 < q.length) : ∀ (f : Nat) (rest : List Int) (j : Nat), md (gx rest j) (mfn q (dvR f q rest).2 (gx (dvR f q rest).1) j)
  | 0, rest, j => md_refl _
  | f + 1, rest, j => by
    cases h : (qwF rest q).2
    · rw [dvR_no h]; exact md_refl _
    · rw [dvR_yes h]
      exact md_trans (qwF_md hq h j) (mf_md (fun i => dvR_md hq f (qwF rest q).1 i) q j)
noncomputable def ap : List (Nat × Nat) → (Nat → Int) → Nat → Int
  | [], g => g
  | (n, e) :: r, g => mfn (phi n) e (ap r g)
theorem ap_mf (q : List Int) (g : Nat → Int) : ∀ r : List (Nat × Nat), ap r (mf q g) = mf q (ap r g)
  | [] => rfl
  | (n, e) :: r => by
    show mfn (phi n) e (ap r (mf q g)) = _
    rw [ap_mf q g r, mfn_mf]; rfl
theorem ap_mfn (q : List Int) (g : Nat → Int) (r : List (Nat × Nat)) : ∀ e : Nat, ap r (mfn q e g) = mfn q e (ap r g)
  | 0 => rfl
  | e + 1 => by
    show ap r (mf q (mfn q e g)) = mf q (mfn q e (ap r g))
    rw [ap_mf, ap_mfn q g r e]
theorem ap_app (g : Nat → Int) : ∀ (r s : List (Nat × Nat)), ap (r ++ s) g = ap r (ap s g)
  | [], s => rfl
  | (n, e) :: r, s => by
    show mfn (phi n) e (ap (r ++ s) g) = mfn (phi n) e (ap r (ap s g))
    rw [ap_app g r s]
theorem ap_snoc (g : Nat → Int) (r : List (Nat × Nat)) (n e : Nat) : ap (r ++ [(n, e)]) g = mfn (phi n) e (ap r g) := by
  rw [ap_app, show ap [(n, e)] g = mfn (phi n) e g from rfl, ap_mfn]
theorem ap_md {f g : Nat → Int} (h : ∀ j, md (f j) (g j)) : ∀ (r : List (Nat × Nat)) (j : Nat), md (ap r f j) (ap r g j)
  | [], j => h j
  | (n, e) :: r, j => mfn_md (phi n) (ap_md h r) e j
theorem ap_smul (a : Int) (g : Nat → Int) : ∀ r : List (Nat × Nat), ap r (fun i => a * g i) = fun i => a * ap r g i
  | [] => rfl
  | (n, e) :: r => by
    show mfn (phi n) e (ap r (fun i => a * g i)) = _
    rw [ap_smul a g r, mfn_smul]; rfl
theorem phi_ge (n : Nat) (h1 : 1 ≤ n) (h2 : n ≤ 2000) : 2 ≤ (phi n).length := by rw [phi_len]; have := totN_pos n h1 h2; omega
/-- What the search for factors says. -/
theorem cfR_md : ∀ (f n : Nat) (rest : List Int) (rows : List (Nat × Nat)), 1 ≤ n → n + f ≤ 2001 → 1 ≤ rest.length → rest.length ≤ 51 →
    ∃ new, (cfR f n rest rows).2 = rows ++ new ∧ (∀ j, md (gx rest j) (ap new (gx (cfR f n rest rows).1) j)) ∧ ∀ x ∈ new, (1 ≤ x.1 ∧ x.1 ≤ 2000) ∧ 1 ≤ x.2 ∧ x.2 ≤ 50
  | 0, n, rest, rows, _, _, _, _ => ⟨[], by show rows = _; simp, fun j => md_refl _, fun x hx => by cases hx⟩
  | f + 1, n, rest, rows, h1, h2, h3, h4 => by
    by_cases hs : rest.length ≤ 1
    · rw [cfR_stop hs]
      exact ⟨[], by simp, fun j => md_refl _, fun x hx => by cases hx⟩
    · rw [cfR_go hs]
      have hD : (∀ j, md (gx rest j) (mfn (phi n) (cfD n rest).2 (gx (cfD n rest).1) j)) ∧ (cfD n rest).2 + (cfD n rest).1.length ≤ rest.length ∧ 1 ≤ (cfD n rest).1.length := by
        have hph := phi_ge n h1 (by omega)
        unfold cfD
        split
        · have := dvR_facts hph 60 rest h3
          exact ⟨dvR_md (by omega) 60 rest, this.1, this.2.1⟩
        · exact ⟨fun j => md_refl _, by simp, h3⟩
      obtain ⟨d1, d2, d3⟩ := hD
      obtain ⟨new, e1, e2, e3⟩ := cfR_md f (n + 1) (cfD n rest).1 (cfA n (cfD n rest).2 rows) (by omega) (by omega) d3 (by omega)
      unfold cfA at e1
      unfold cfA at e2
      by_cases h0 : (cfD n rest).2 = 0
      · rw [if_pos h0] at e1 e2
        unfold cfA
        rw [if_pos h0]
        refine ⟨new, e1, fun j => ?_, e3⟩
        have := d1 j
        rw [h0] at this
        exact md_trans this (e2 j)
      · rw [if_neg h0] at e1 e2
        unfold cfA
        rw [if_neg h0]
        refine ⟨(n, (cfD n rest).2) :: new, by rw [e1]; simp, fun j => ?_, fun x hx => ?_⟩
        · exact md_trans (d1 j) (mfn_md (phi n) e2 _ j)
        · rcases List.mem_cons.1 hx with rfl | hx
          · exact ⟨by show 1 ≤ n ∧ n ≤ 2000; omega, by show 1 ≤ (cfD n rest).2 ∧ (cfD n rest).2 ≤ 50; omega⟩
          · exact e3 x hx
theorem isPoly_phi (n : Nat) (h1 : 1 ≤ n) (h2 : n ≤ 2000) : isPoly (phi n) = true := by
  have hc := (chk_all n h1 h2).1
  have hl := totN_le n
  refine isPoly_true.2 ⟨by rw [phi_len]; omega, .inr ?_, fun c hcm => ?_⟩
  · rw [phi_len, Nat.add_sub_cancel, phi_top hc]; decide
  · obtain ⟨i, hi, rfl⟩ := List.getElem_of_mem hcm
    have := phi_bd hc i
    rw [gx_eq _ i hi] at this
    unfold isCoef
    exact inR_true.2 (by omega)
theorem md_near {a b : Int} (h : md a b) (ha : -1000000000000 ≤ a ∧ a ≤ 1000000000000) (hb : -1000000000000 ≤ b ∧ b ≤ 1000000000000) : a = b := by unfold md at h; omega
theorem gx_neg (P : List Int) (j : Nat) : gx (P.map fun x => -x) j = -(gx P j) := by
  unfold gx
  rw [List.getD_eq_getElem?_getD, List.getD_eq_getElem?_getD, List.getElem?_map]
  cases P[j]? <;> simp
theorem isPoly_neg {P : List Int} (h : isPoly P = true) : isPoly (P.map fun x => -x) = true := by
  obtain ⟨h1, h2, h3⟩ := isPoly_true.1 h
  refine isPoly_true.2 ⟨by simpa using h1, ?_, fun c hc => ?_⟩
  · rw [List.length_map, gx_neg]
    rcases h2 with h | h
    · exact .inl h
    · exact .inr (by omega)
  · obtain ⟨x, hx, rfl⟩ := List.mem_map.1 hc
    have := h3 x hx
    unfold isCoef at *
    have := inR_true.1 this
    exact inR_true.2 (by omega)
/-- The product of the factors is the polynomial or its opposite. -/
theorem fac_prod {p P : List Int} {R : List Int} {rows : List (Nat × Nat)} (hp : isPoly p = true) (hP : isPoly P = true) (hR : ∀ j, md (gx p j) (ap rows (gx R) j)) (hl : R.length = 1) (hs : gx R 0 = 1 ∨ gx R 0 = -1) (hg : ∀ j, gx P j = ap rows one j) :
    P = p ∨ (P.map fun x => -x) = p := by
  have hR1 : gx R = fun j => gx R 0 * one j := funext fun j => by
    unfold one
    by_cases h : j = 0
    · rw [if_pos h, h]; omega
    · rw [if_neg h, gx_out R j (by omega)]; omega
  rw [hR1, ap_smul] at hR
  rcases hs with h | h
  · left
    refine poly_ext hP hp fun j => ?_
    have e := hR j
    rw [h] at e
    simp only [Int.one_mul] at e
    rw [← hg j] at e
    exact (md_near e (isPoly_gx hp j) (isPoly_gx hP j)).symm
  · right
    refine poly_ext (isPoly_neg hP) hp fun j => ?_
    have e := hR j
    rw [h] at e
    simp only [Int.neg_mul, Int.one_mul] at e
    rw [← hg j] at e
    have b := isPoly_gx hP j
    rw [gx_neg]
    exact (md_near e (isPoly_gx hp j) (by omega)).symm
/-- One multiplication more. -/
theorem mul_more {P q A : List Int} {g : Nat → Int} (h : mulP P q = (A, 0)) (hg : ∀ j, gx P j = g j) (hp : 0 < P.length) (hq : 0 < q.length) : (∀ j, gx A j = mf q g j) ∧ isPoly A = true ∧ 0 < A.length := by
  obtain ⟨h1, h2, h3⟩ := mulP_yes h
  have hs := prodP_sem h3 hp hq
  refine ⟨fun j => ?_, prodP_isPoly h3 h1 h2, ?_⟩
  · rw [hs.2.2.1 j, cv_mf]
    exact mf_ext hg q j
  · rw [hs.1]; omega
end Go.Proofs.Ytogkblncdpbhnaa.Pl
namespace Go.Proofs.Ytogkblncdpbhnaa.Pl
open Go
set_option linter.unusedVariables false
set_option maxRecDepth 100000
/-- The product over the divisors of n up to k. -/
noncomputable def pdC (n : Nat) : Nat → Option (List Int)
  | 0 => some [1]
  | k + 1 => if n % (k + 1) = 0 then (match pdC n k with | none => none | some P => if (mulP P (phi (k + 1))).2 = 0 then some (mulP P (phi (k + 1))).1 else none) else pdC n k
noncomputable def chkC (n : Nat) : Bool := (pdC n n == some (bnP [[(n : Int), 1]]).1) && ((bnP [[(n : Int), 1]]).2 == 0 && ((symP (phi n)).1 == decide (1 < n) && (symP (phi n)).2 == 0))
noncomputable def allC (lo : Nat) : Nat → Bool
  | 0 => true
  | k + 1 => chkC (lo + k) && allC lo k
theorem allC_get {lo : Nat} : ∀ {k : Nat}, allC lo k = true → ∀ j, j < k → chkC (lo + j) = true
  | 0, _, j, hj => absurd hj (Nat.not_lt_zero _)
  | k + 1, h, j, hj => by
    have h' : (chkC (lo + k) && allC lo k) = true := h
    rw [Bool.and_eq_true] at h'
    rcases Nat.lt_or_eq_of_le (Nat.le_of_lt_succ hj) with h1 | rfl
    · exact allC_get h'.2 j h1
    · exact h'.1
theorem allC1 : allC 1 20 = true := by decide +kernel
theorem allC2 : allC 21 20 = true := by decide +kernel
theorem allC3 : allC 41 20 = true := by decide +kernel
theorem chkC_all (n : Nat) (h1 : 1 ≤ n) (h2 : n ≤ 60) : chkC n = true := by
  rcases Nat.lt_or_ge n 21 with h | h
  · have := allC_get allC1 (n - 1) (by omega)
    rwa [show 1 + (n - 1) = n by omega] at this
  rcases Nat.lt_or_ge n 41 with h' | h'
  · have := allC_get allC2 (n - 21) (by omega)
    rwa [show 21 + (n - 21) = n by omega] at this
  have := allC_get allC3 (n - 41) (by omega)
  rwa [show 41 + (n - 41) = n by omega] at this
theorem pdC_no {n k : Nat} (h : n % (k + 1) ≠ 0) : pdC n (k + 1) = pdC n k := if_neg h
theorem pdC_yes {n k : Nat} (h : n % (k + 1) = 0) {A : List Int} (e : pdC n (k + 1) = some A) : ∃ P, pdC n k = some P ∧ mulP P (phi (k + 1)) = (A, 0) := by
  have e' : (if n % (k + 1) = 0 then (match pdC n k with | none => none | some P => if (mulP P (phi (k + 1))).2 = 0 then some (mulP P (phi (k + 1))).1 else none) else pdC n k) = some A := e
  rw [if_pos h] at e'
  cases hp : pdC n k with
  | none => rw [hp] at e'; cases e'
  | some P =>
    rw [hp] at e'
    simp only at e'
    split at e'
    · rename_i h0
      refine ⟨P, rfl, ?_⟩
      rw [← Option.some.inj e', ← h0]
    · cases e'
theorem pdC_back {n : Nat} : ∀ (m k : Nat) {B : List Int}, pdC n (k + m) = some B → ∃ A, pdC n k = some A
  | 0, k, B, h => ⟨B, h⟩
  | m + 1, k, B, h => by
    have h2 : pdC n ((k + m) + 1) = some B := h
    by_cases hd : n % (k + m + 1) = 0
    · obtain ⟨P, hP, _⟩ := pdC_yes hd h2
      exact pdC_back m k hP
    · rw [pdC_no hd] at h2
      exact pdC_back m k h2
theorem chkC_parts {n : Nat} (h : chkC n = true) : pdC n n = some (bnP [[(n : Int), 1]]).1 ∧ (bnP [[(n : Int), 1]]).2 = 0 ∧ symP (phi n) = (decide (1 < n), 0) := by
  unfold chkC at h
  simp only [Bool.and_eq_true, beq_iff_eq] at h
  exact ⟨h.1, h.2.1, Prod.ext h.2.2.1 h.2.2.2⟩
end Go.Proofs.Ytogkblncdpbhnaa.Pl
