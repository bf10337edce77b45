/-
  PLAIN LAWS, CHAPTER 2: the text of a polynomial, and what parses it; no program in sight.
-/
import Derived.Test.YtdfhkkngbpidaaaDoorPlY
import Derived.Test.YtdfhkkngbpidaaaDoorPlB
namespace Go.Proofs.YtdfhkkngbpidaaaDoor.Pl
open Go
set_option linter.unusedVariables false
/-! ### the text -/
def pwT (k : Nat) : List UInt8 := if k = 0 then [] else if k = 1 then [116] else 116 :: 94 :: dec k
def cfT (k : Nat) (c : Int) : List UInt8 := if k = 0 ∨ (c ≠ 1 ∧ c ≠ -1) then sgnI c else if c = -1 then [45] else []
def tmT (k : Nat) (c : Int) : List UInt8 := cfT k c ++ pwT k
def plT (txt : List UInt8) (c : Int) : List UInt8 := if txt ≠ [] ∧ 0 < c then [43] else []
def stp (txt : List UInt8) (k : Nat) (c : Int) : List UInt8 := if c = 0 then txt else (txt ++ plT txt c) ++ tmT k c
def pTf (xs : List Int) : Nat → List UInt8
  | 0 => []
  | j + 1 => stp (pTf xs j) (xs.length - 1 - j) (gx xs (xs.length - 1 - j))
/-- The text behind the places from m on. -/
def pTd (xs : List Int) (m : Nat) : List UInt8 := pTf xs (xs.length - m)
theorem pTd_end (xs : List Int) : pTd xs xs.length = [] := by unfold pTd; rw [Nat.sub_self]; rfl
theorem pTd_step (xs : List Int) (m : Nat) (h : m < xs.length) : pTd xs m = stp (pTd xs (m + 1)) m (gx xs m) := by
  unfold pTd
  obtain ⟨j, hj⟩ : ∃ j, xs.length - m = j + 1 := ⟨xs.length - m - 1, by omega⟩
  rw [hj, show xs.length - (m + 1) = j by omega]
  show stp (pTf xs j) (xs.length - 1 - j) (gx xs (xs.length - 1 - j)) = _
  rw [show xs.length - 1 - j = m by omega]
def ptx (xs : List Int) : List UInt8 := if xs.length = 0 then [48] else pTd xs 0
def ptP (xs : List Int) : List UInt8 × Int := if isPoly xs then (ptx xs, 0) else ([], 1)
theorem stp_zero (txt : List UInt8) (k : Nat) : stp txt k 0 = txt := by unfold stp; rw [if_pos rfl]
theorem stp_more {c : Int} (h : c ≠ 0) (txt : List UInt8) (k : Nat) : stp txt k c = (txt ++ plT txt c) ++ tmT k c := by unfold stp; rw [if_neg h]
theorem sgnI_ne (c : Int) : sgnI c ≠ [] := by
  unfold sgnI; split
  · simp
  · exact dec_ne _
theorem tmT_ne (k : Nat) {c : Int} (h : c ≠ 0) : tmT k c ≠ [] := by
  unfold tmT cfT pwT
  by_cases hk : k = 0
  · simp [hk, sgnI_ne]
  · by_cases h1 : k = 1
    · simp [h1]
    · simp [hk, h1]
theorem stp_ne {c : Int} (h : c ≠ 0) (txt : List UInt8) (k : Nat) : stp txt k c ≠ [] := by
  rw [stp_more h]; simp [tmT_ne k h]
theorem pTd_ne {xs : List Int} (h0 : gx xs (xs.length - 1) ≠ 0) : ∀ m, m < xs.length → pTd xs m ≠ [] := by
  intro m hm
  induction hj : xs.length - m generalizing m with
  | zero => omega
  | succ j ih =>
    rw [pTd_step xs m hm]
    by_cases hc : gx xs m = 0
    · rw [hc, stp_zero]
      have : m + 1 < xs.length := by
        rcases Nat.lt_or_ge (m + 1) xs.length with h | h
        · exact h
        · rw [show xs.length - 1 = m by omega] at h0; exact absurd hc h0
      exact ih (m + 1) this (by omega)
    · exact stp_ne hc _ _
theorem pwT_len (k : Nat) (h : k ≤ 1000000) : (pwT k).length ≤ 11 := by
  unfold pwT; split
  · simp
  · split
    · simp
    · have := dec_len_le k (by omega); simp; omega
theorem tmT_len (k : Nat) (c : Int) (hk : k ≤ 1000000) (h0 : -1000000000000000 ≤ c) (h1 : c ≤ 1000000000000000) : (tmT k c).length ≤ 28 := by
  have := pwT_len k hk
  have := sgnI_size c h0 h1
  unfold tmT cfT
  rw [List.length_append]
  split
  · omega
  · split <;> simp <;> omega
theorem stp_len (txt : List UInt8) (k : Nat) (c : Int) (hk : k ≤ 1000000) (h0 : -1000000000000000 ≤ c) (h1 : c ≤ 1000000000000000) : (stp txt k c).length ≤ txt.length + 29 := by
  have := tmT_len k c hk h0 h1
  unfold stp plT
  split
  · omega
  · split <;> simp <;> omega
theorem pTd_len (xs : List Int) (hl : xs.length ≤ 1000000) (hc : ∀ k, -1000000000000000 ≤ gx xs k ∧ gx xs k ≤ 1000000000000000) : ∀ m, m ≤ xs.length → (pTd xs m).length ≤ 29 * (xs.length - m) := by
  intro m hm
  induction hj : xs.length - m generalizing m with
  | zero => rw [show m = xs.length by omega, pTd_end]; simp
  | succ j ih =>
    rw [pTd_step xs m (by omega)]
    have := stp_len (pTd xs (m + 1)) m (gx xs m) (by omega) (hc m).1 (hc m).2
    have := ih (m + 1) (by omega) (by omega)
    omega
theorem sgnI_bd (c : Int) (h0 : -1000000000000000 ≤ c) (h1 : c ≤ 1000000000000000) : (sgnI c).length ≤ 17 := sgnI_size c h0 h1

/-! ### parsing a term -/
def pwR (c : Nat) (s : List UInt8) : Option (Nat × Nat × List UInt8) :=
  if (s.drop 1).head? = some 94 then (if (dgR (s.drop 2)).2.2 then some (c, (dgR (s.drop 2)).1, (dgR (s.drop 2)).2.1) else none) else some (c, 1, s.drop 1)
def bR (s : List UInt8) : Option (Nat × Nat × List UInt8) :=
  if s = [] then none
  else if s.head? = some 116 then pwR 1 s
  else if (dgR s).2.2 then (if (dgR s).2.1.head? = some 116 then pwR (dgR s).1 (dgR s).2.1 else some ((dgR s).1, 0, (dgR s).2.1)) else none
def isSg (s : List UInt8) : Bool := (s.head? == some 43) || (s.head? == some 45)
def bodT (s : List UInt8) : List UInt8 := if isSg s then s.drop 1 else s
def sgT (s : List UInt8) : Int := if s.head? = some 45 then -1 else 1
def tmR (s : List UInt8) : Option (Int × Nat × List UInt8) := (bR (bodT s)).map fun x => (sgT s * (x.1 : Int), x.2.1, x.2.2)
theorem dgR_lt {s : List UInt8} (h : (dgR s).2.2 = true) : (dgR s).2.1.length < s.length := by
  have hb : dgB s = true := by
    cases hb : dgB s
    · rw [dgR_no hb] at h; cases h
    · rfl
  have e := (dgR_dec hb).1
  have h1 := congrArg List.length e
  have h2 := dec_pos (dgR s).1
  simp at h1; omega
theorem pwR_lt {c : Nat} {s : List UInt8} {x : Nat × Nat × List UInt8} (h0 : s ≠ []) (h : pwR c s = some x) : x.2.2.length < s.length := by
  have hl : 0 < s.length := List.length_pos_iff.2 h0
  unfold pwR at h
  split at h
  · split at h
    · rename_i hd
      have := dgR_lt hd
      cases h; simp at this ⊢; omega
    · cases h
  · cases h; simp; omega
theorem bR_lt {s : List UInt8} {x : Nat × Nat × List UInt8} (h : bR s = some x) : x.2.2.length < s.length := by
  unfold bR at h
  split at h
  · cases h
  · rename_i h0
    split at h
    · exact pwR_lt h0 h
    · split at h
      · rename_i hd
        have h1 := dgR_lt hd
        split at h
        · rename_i h2
          have := pwR_lt (by intro e; rw [e] at h2; cases h2) h
          omega
        · cases h; exact h1
      · cases h
theorem bodT_le (s : List UInt8) : (bodT s).length ≤ s.length := by unfold bodT; split <;> simp
theorem tmR_lt {s : List UInt8} {c : Int} {k : Nat} {r : List UInt8} (h : tmR s = some (c, k, r)) : r.length < s.length := by
  unfold tmR at h
  rcases hb : bR (bodT s) with _ | x
  · rw [hb] at h; cases h
  · rw [hb] at h
    simp only [Option.map_some, Option.some.injEq, Prod.mk.injEq] at h
    have := bR_lt hb
    have := bodT_le s
    rw [← h.2.2]; omega
theorem dgR_bd (s : List UInt8) : (dgR s).1 < 1000000000 := by have := nmI_lt s; unfold nmI at this; omega
theorem pwR_bd {c : Nat} {s : List UInt8} {x : Nat × Nat × List UInt8} (hc : c < 1000000000) (h : pwR c s = some x) : x.1 < 1000000000 ∧ x.2.1 < 1000000000 := by
  unfold pwR at h
  split at h
  · split at h
    · cases h; exact ⟨hc, dgR_bd _⟩
    · cases h
  · cases h; exact ⟨hc, by show (1 : Nat) < 1000000000; decide⟩
theorem bR_bd {s : List UInt8} {x : Nat × Nat × List UInt8} (h : bR s = some x) : x.1 < 1000000000 ∧ x.2.1 < 1000000000 := by
  unfold bR at h
  split at h
  · cases h
  · split at h
    · exact pwR_bd (by decide) h
    · split at h
      · split at h
        · exact pwR_bd (dgR_bd _) h
        · cases h; exact ⟨dgR_bd _, by show (0 : Nat) < 1000000000; decide⟩
      · cases h
theorem tmR_bd {s : List UInt8} {c : Int} {k : Nat} {r : List UInt8} (h : tmR s = some (c, k, r)) : -1000000000 < c ∧ c < 1000000000 ∧ k < 1000000000 := by
  unfold tmR at h
  rcases hb : bR (bodT s) with _ | x
  · rw [hb] at h; cases h
  · rw [hb] at h
    simp only [Option.map_some, Option.some.injEq, Prod.mk.injEq] at h
    obtain ⟨h1, h2, h3⟩ := h
    obtain ⟨b1, b2⟩ := bR_bd hb
    subst h1 h2
    unfold sgT
    split <;> omega

/-! ### a term is read back -/
def bT (k : Nat) (a : Nat) : List UInt8 := (if k = 0 ∨ a ≠ 1 then dec a else []) ++ pwT k
theorem tmT_pos (k : Nat) {c : Int} (h : 0 < c) : tmT k c = bT k c.toNat := by
  unfold tmT cfT bT
  congr 1
  by_cases hk : k = 0
  · simp only [hk, true_or, if_true]; rw [sgnI_pos (by omega)]; rfl
  · by_cases h1 : c = 1
    · subst h1; simp [hk]
    · rw [if_pos (.inr ⟨h1, by omega⟩), if_pos (.inr (by omega)), sgnI_pos (by omega)]; rfl
theorem tmT_neg (k : Nat) {c : Int} (h : c < 0) : tmT k c = 45 :: bT k (-c).toNat := by
  unfold tmT cfT bT
  rw [← List.cons_append]
  congr 1
  by_cases hk : k = 0
  · simp only [hk, true_or, if_true]; rw [sgnI_neg h]; rfl
  · by_cases h1 : c = -1
    · subst h1; simp [hk]
    · rw [if_pos (.inr ⟨by omega, h1⟩), if_pos (.inr (by omega)), sgnI_neg h]; rfl
/-- What may follow a term. -/
def okR (r : List UInt8) : Prop := ∀ c, r.head? = some c → c = 43 ∨ c = 45
theorem okR_dig {r : List UInt8} (h : okR r) : ∀ c, r.head? = some c → isD c = false := fun c hc => by
  rcases h c hc with e | e <;> rw [e] <;> decide
theorem okR_ne {r : List UInt8} (h : okR r) (x : UInt8) (h1 : x ≠ 43) (h2 : x ≠ 45) : r.head? ≠ some x := fun e => by
  rcases h x e with e | e
  · exact h1 e
  · exact h2 e
theorem dec_head_d (n : Nat) (r : List UInt8) : ∃ c, (dec n ++ r).head? = some c ∧ isD c = true := by
  have h := dec_all n
  cases hd : dec n with
  | nil => exact absurd hd (dec_ne n)
  | cons x l => rw [hd] at h; exact ⟨x, rfl, h x (by simp)⟩
theorem dec_head_ne (n : Nat) (r : List UInt8) (x : UInt8) (hx : isD x = false) : (dec n ++ r).head? ≠ some x := by
  obtain ⟨c, h1, h2⟩ := dec_head_d n r
  rw [h1]; intro e; rw [Option.some.inj e, hx] at h2; cases h2
theorem pwR_ok (c k : Nat) (hk : 1 ≤ k) (hk2 : k < 1000000000) (r : List UInt8) (hr : okR r) : pwR c (pwT k ++ r) = some (c, k, r) := by
  have hk0 : ¬ k = 0 := by omega
  by_cases h1 : k = 1
  · have e : pwT k ++ r = 116 :: r := by unfold pwT; rw [if_neg hk0, if_pos h1]; rfl
    rw [e]
    unfold pwR
    rw [if_neg (show ¬ ((116 :: r).drop 1).head? = some 94 from okR_ne hr 94 (by decide) (by decide)), h1]; rfl
  · have e : pwT k ++ r = 116 :: 94 :: (dec k ++ r) := by unfold pwT; rw [if_neg hk0, if_neg h1]; rfl
    rw [e]
    unfold pwR
    have e2 : (116 :: 94 :: (dec k ++ r)).drop 2 = dec k ++ r := rfl
    rw [if_pos (show ((116 :: 94 :: (dec k ++ r)).drop 1).head? = some 94 from rfl), e2, dgR_app k r (okR_dig hr), if_pos hk2]
    rfl
theorem pwT_head (k : Nat) (hk : 1 ≤ k) (r : List UInt8) : (pwT k ++ r).head? = some 116 ∧ pwT k ++ r ≠ [] := by
  unfold pwT
  rw [if_neg (by omega)]
  split <;> simp
theorem bR_ok (k a : Nat) (hk : k < 1000000000) (ha : 0 < a) (r : List UInt8) (hr : okR r) : bR (bT k a ++ r) = if a < 1000000000 then some (a, k, r) else none := by
  unfold bR bT
  by_cases hk0 : k = 0
  · subst hk0
    have e : (if (0 : Nat) = 0 ∨ a ≠ 1 then dec a else []) ++ pwT 0 ++ r = dec a ++ r := by rw [if_pos (.inl rfl)]; simp [pwT]
    rw [e, if_neg (by have := dec_ne a; simp [this]), if_neg (dec_head_ne a r 116 (by decide)), dgR_app a r (okR_dig hr)]
    by_cases hb : a < 1000000000
    · simp only [hb, if_true]
      rw [if_neg (okR_ne hr 116 (by decide) (by decide))]
    · simp [hb]
  · have hp := pwT_head k (by omega) r
    by_cases h1 : a = 1
    · subst h1
      have e : (if k = 0 ∨ (1 : Nat) ≠ 1 then dec 1 else []) ++ pwT k ++ r = pwT k ++ r := by rw [if_neg (by omega)]; simp
      rw [e, if_neg hp.2, if_pos hp.1, pwR_ok 1 k (by omega) hk r hr]; rfl
    · have e : (if k = 0 ∨ a ≠ 1 then dec a else []) ++ pwT k ++ r = dec a ++ (pwT k ++ r) := by rw [if_pos (.inr h1)]; simp
      rw [e, if_neg (by have := dec_ne a; simp [this]), if_neg (dec_head_ne a _ 116 (by decide)), dgR_app a _ (fun c hc => by rw [hp.1] at hc; rw [← Option.some.inj hc]; decide)]
      by_cases hb : a < 1000000000
      · simp only [hb, if_true]
        rw [if_pos hp.1, pwR_ok a k (by omega) hk r hr]
      · simp [hb]
theorem bT_head (k a : Nat) (r : List UInt8) (x : UInt8) (hx : isD x = false) (hx2 : x ≠ 116) : (bT k a ++ r).head? ≠ some x ∨ bT k a = [] := by
  unfold bT
  by_cases h : k = 0 ∨ a ≠ 1
  · left; rw [if_pos h, List.append_assoc]; exact dec_head_ne a _ x hx
  · rw [if_neg h]
    left
    rw [List.nil_append, (pwT_head k (by omega) r).1]
    intro e; exact hx2 (Option.some.inj e).symm
theorem bT_ne (k a : Nat) : bT k a ≠ [] := by
  unfold bT
  by_cases h : k = 0 ∨ a ≠ 1
  · rw [if_pos h]; simp [dec_ne]
  · rw [if_neg h]; have := (pwT_head k (by omega) []).2; simpa using this
def smC (c : Int) : Bool := decide (-1000000000 < c) && decide (c < 1000000000)
theorem smC_true {c : Int} : smC c = true ↔ -1000000000 < c ∧ c < 1000000000 := by simp [smC]
/-- A term with or without a plus ahead. -/
theorem tmR_ok (p : Bool) (k : Nat) {c : Int} (hk : k < 1000000000) (hc : c ≠ 0) (r : List UInt8) (hr : okR r) :
    tmR ((if 0 < c ∧ p = true then [43] else []) ++ tmT k c ++ r) = if smC c then some (c, k, r) else none := by
  have main : ∀ (a : Nat) (g : Int) (s : List UInt8), 0 < a → bodT s = bT k a ++ r → sgT s = g → g * (a : Int) = c → (a < 1000000000 ↔ smC c = true) → tmR s = if smC c then some (c, k, r) else none := by
    intro a g s ha h1 h2 h3 h4
    unfold tmR
    rw [h1, h2, bR_ok k a hk ha r hr]
    by_cases hb : a < 1000000000
    · rw [if_pos hb, if_pos (h4.1 hb)]
      simp [h3]
    · rw [if_neg hb, if_neg (fun e => hb (h4.2 e))]; rfl
  by_cases hp : 0 < c
  · rw [tmT_pos k hp]
    have h4 : c.toNat < 1000000000 ↔ smC c = true := by rw [smC_true]; omega
    have hh : ∀ x : UInt8, isD x = false → x ≠ 116 → (bT k c.toNat ++ r).head? ≠ some x := fun x q1 q2 => by
      rcases bT_head k c.toNat r x q1 q2 with h | h
      · exact h
      · exact absurd h (bT_ne k c.toNat)
    cases p with
    | true =>
      have e : (if 0 < c ∧ true = true then [43] else []) ++ bT k c.toNat ++ r = 43 :: (bT k c.toNat ++ r) := by simp [hp]
      rw [e]
      exact main c.toNat 1 _ (by omega) rfl rfl (by omega) h4
    | false =>
      have e : (if 0 < c ∧ false = true then [43] else []) ++ bT k c.toNat ++ r = bT k c.toNat ++ r := by simp
      rw [e]
      have i1 := hh 43 (by decide) (by decide)
      have i2 := hh 45 (by decide) (by decide)
      refine main c.toNat 1 _ (by omega) ?_ ?_ (by omega) h4
      · unfold bodT isSg; rw [if_neg (by simp only [Bool.or_eq_true, beq_iff_eq, not_or]; exact ⟨i1, i2⟩)]
      · unfold sgT; rw [if_neg i2]
  · rw [tmT_neg k (by omega)]
    have e : (if 0 < c ∧ p = true then [43] else []) ++ (45 :: bT k (-c).toNat) ++ r = 45 :: (bT k (-c).toNat ++ r) := by simp [hp]
    rw [e]
    exact main (-c).toNat (-1) _ (by omega) rfl rfl (by omega) (by rw [smC_true]; omega)

/-! ### the text from the left -/
def rT (xs : List Int) : Nat → List UInt8
  | 0 => []
  | m + 1 => (if gx xs m = 0 then [] else (if 0 < gx xs m ∧ true = true then [43] else []) ++ tmT m (gx xs m)) ++ rT xs m
theorem tmT_head_neg (k : Nat) {c : Int} (h : c < 0) (r : List UInt8) : (tmT k c ++ r).head? = some 45 := by rw [tmT_neg k h]; rfl
theorem rT_succ (xs : List Int) (m : Nat) : rT xs (m + 1) = (if gx xs m = 0 then [] else (if 0 < gx xs m ∧ true = true then [43] else []) ++ tmT m (gx xs m)) ++ rT xs m := rfl
theorem rT_ok (xs : List Int) : ∀ m, okR (rT xs m)
  | 0 => fun c h => by cases h
  | m + 1 => fun c h => by
    rw [rT_succ] at h
    by_cases h0 : gx xs m = 0
    · rw [if_pos h0, List.nil_append] at h; exact rT_ok xs m c h
    · rw [if_neg h0] at h
      by_cases hp : 0 < gx xs m
      · rw [if_pos ⟨hp, rfl⟩] at h
        exact .inl (Option.some.inj h).symm
      · rw [if_neg (by omega), List.nil_append, tmT_head_neg m (by omega)] at h
        exact .inr (Option.some.inj h).symm
theorem pTd_split (xs : List Int) : ∀ m, m ≤ xs.length → pTd xs m ≠ [] → pTd xs 0 = pTd xs m ++ rT xs m
  | 0, _, _ => by simp [rT]
  | m + 1, hm, hne => by
    have hs := pTd_step xs m (by omega)
    have hne2 : pTd xs m ≠ [] := by
      rw [hs]; unfold stp; split
      · exact hne
      · simp [hne]
    rw [pTd_split xs m (by omega) hne2, hs, rT_succ]
    unfold stp plT
    by_cases h0 : gx xs m = 0
    · rw [if_pos h0, if_pos h0]; simp
    · rw [if_neg h0, if_neg h0]
      by_cases hp : 0 < gx xs m
      · rw [if_pos ⟨hne, hp⟩, if_pos ⟨hp, rfl⟩]; simp
      · rw [if_neg (by omega), if_neg (by omega)]; simp
theorem ptx_split (xs : List Int) (n : Nat) (hn : xs.length = n + 1) (h0 : gx xs n ≠ 0) : ptx xs = tmT n (gx xs n) ++ rT xs n := by
  unfold ptx
  rw [if_neg (by omega)]
  have e : pTd xs n = tmT n (gx xs n) := by
    rw [pTd_step xs n (by omega), show n + 1 = xs.length by omega, pTd_end, stp_more h0]
    unfold plT; simp
  rw [pTd_split xs n (by omega) (by rw [e]; exact tmT_ne n h0), e]

/-! ### the loops -/
def ppN : Nat → List UInt8 → List Int → Option (List Int)
  | 0, s, out => if s = [] then some out else none
  | n + 1, s, out => if s = [] then some out else match tmR s with
    | none => none
    | some (c, k, r) => if 2000 < k then none else ppN n r (out.set k c)
def ppL (s : List UInt8) (out : List Int) : Option (List Int) := ppN s.length s out
theorem ppN_more : ∀ (n : Nat) (s : List UInt8) (out : List Int), s.length ≤ n → ppN n s out = ppN s.length s out := by
  intro n
  induction n using Nat.strongRecOn with
  | _ n ih =>
    intro s out h
    rcases Nat.eq_zero_or_pos s.length with h0 | h0
    · have e := List.eq_nil_of_length_eq_zero h0
      subst e
      cases n <;> rfl
    · obtain ⟨m, rfl⟩ : ∃ m, n = m + 1 := ⟨n - 1, by omega⟩
      obtain ⟨j, hj⟩ : ∃ j, s.length = j + 1 := ⟨s.length - 1, by omega⟩
      rw [hj]
      unfold ppN
      split
      · rfl
      · rcases ht : tmR s with _ | ⟨c, k, r⟩
        · rfl
        · have := tmR_lt ht
          simp only
          split
          · rfl
          · rw [ih m (by omega) r _ (by omega)]
            rcases Nat.lt_or_ge j m with hlt | hge
            · rw [ih j (by omega) r _ (by omega)]
            · rw [show j = m by omega, ih m (by omega) r _ (by omega)]
theorem ppL_nil (out : List Int) : ppL [] out = some out := rfl
theorem ppL_none {s : List UInt8} (h0 : s ≠ []) (h : tmR s = none) (out : List Int) : ppL s out = none := by
  unfold ppL
  obtain ⟨j, hj⟩ : ∃ j, s.length = j + 1 := ⟨s.length - 1, by have := List.length_pos_iff.2 h0; omega⟩
  rw [hj]; unfold ppN; rw [if_neg h0, h]
theorem ppL_big {s : List UInt8} {c : Int} {k : Nat} {r : List UInt8} (h0 : s ≠ []) (h : tmR s = some (c, k, r)) (hk : 2000 < k) (out : List Int) : ppL s out = none := by
  unfold ppL
  obtain ⟨j, hj⟩ : ∃ j, s.length = j + 1 := ⟨s.length - 1, by have := List.length_pos_iff.2 h0; omega⟩
  rw [hj]; unfold ppN; rw [if_neg h0, h]; simp [hk]
theorem ppL_step {s : List UInt8} {c : Int} {k : Nat} {r : List UInt8} (h0 : s ≠ []) (h : tmR s = some (c, k, r)) (hk : ¬ 2000 < k) (out : List Int) : ppL s out = ppL r (out.set k c) := by
  unfold ppL
  obtain ⟨j, hj⟩ : ∃ j, s.length = j + 1 := ⟨s.length - 1, by have := List.length_pos_iff.2 h0; omega⟩
  have := tmR_lt h
  rw [hj]
  conv => lhs; unfold ppN
  rw [if_neg h0, h]; simp only [hk, if_false]
  exact ppN_more j r _ (by omega)
def ext (p : List Int) (k : Nat) : List Int := p ++ List.replicate (k + 1 - p.length) 0
theorem ext_len (p : List Int) (k : Nat) : (ext p k).length = max p.length (k + 1) := by unfold ext; simp; omega
theorem gx_ext2 (p : List Int) (k i : Nat) : gx (ext p k) i = gx p i := by
  unfold ext gx
  rcases Nat.lt_or_ge i p.length with h | h
  · simp [List.getD, List.getElem?_append_left h]
  · simp only [List.getD, List.getElem?_append_right h, List.getElem?_replicate, List.getElem?_eq_none h]
    split <;> simp
def psN : Nat → List UInt8 → List Int → Option (List Int)
  | 0, s, p => if s = [] then some p else none
  | n + 1, s, p => if s = [] then some p else match tmR s with
    | none => none
    | some (c, k, r) => if 2000 < k then none else psN n r ((ext p k).set k (gx (ext p k) k + c))
def psL (s : List UInt8) (p : List Int) : Option (List Int) := psN s.length s p
theorem psN_more : ∀ (n : Nat) (s : List UInt8) (p : List Int), s.length ≤ n → psN n s p = psN s.length s p := by
  intro n
  induction n using Nat.strongRecOn with
  | _ n ih =>
    intro s p h
    rcases Nat.eq_zero_or_pos s.length with h0 | h0
    · have e := List.eq_nil_of_length_eq_zero h0
      subst e
      cases n <;> rfl
    · obtain ⟨m, rfl⟩ : ∃ m, n = m + 1 := ⟨n - 1, by omega⟩
      obtain ⟨j, hj⟩ : ∃ j, s.length = j + 1 := ⟨s.length - 1, by omega⟩
      rw [hj]
      unfold psN
      split
      · rfl
      · rcases ht : tmR s with _ | ⟨c, k, r⟩
        · rfl
        · have := tmR_lt ht
          simp only
          split
          · rfl
          · rw [ih m (by omega) r _ (by omega)]
            rcases Nat.lt_or_ge j m with hlt | hge
            · rw [ih j (by omega) r _ (by omega)]
            · rw [show j = m by omega, ih m (by omega) r _ (by omega)]
theorem psL_nil (p : List Int) : psL [] p = some p := rfl
theorem psL_none {s : List UInt8} (h0 : s ≠ []) (h : tmR s = none) (p : List Int) : psL s p = none := by
  unfold psL
  obtain ⟨j, hj⟩ : ∃ j, s.length = j + 1 := ⟨s.length - 1, by have := List.length_pos_iff.2 h0; omega⟩
  rw [hj]; unfold psN; rw [if_neg h0, h]
theorem psL_big {s : List UInt8} {c : Int} {k : Nat} {r : List UInt8} (h0 : s ≠ []) (h : tmR s = some (c, k, r)) (hk : 2000 < k) (p : List Int) : psL s p = none := by
  unfold psL
  obtain ⟨j, hj⟩ : ∃ j, s.length = j + 1 := ⟨s.length - 1, by have := List.length_pos_iff.2 h0; omega⟩
  rw [hj]; unfold psN; rw [if_neg h0, h]; simp [hk]
theorem psL_step {s : List UInt8} {c : Int} {k : Nat} {r : List UInt8} (h0 : s ≠ []) (h : tmR s = some (c, k, r)) (hk : ¬ 2000 < k) (p : List Int) : psL s p = psL r ((ext p k).set k (gx (ext p k) k + c)) := by
  unfold psL
  obtain ⟨j, hj⟩ : ∃ j, s.length = j + 1 := ⟨s.length - 1, by have := List.length_pos_iff.2 h0; omega⟩
  have := tmR_lt h
  rw [hj]
  conv => lhs; unfold psN
  rw [if_neg h0, h]; simp only [hk, if_false]
  exact psN_more j r _ (by omega)
/-! ### the two parsers agree -/
def setA (xs : List Int) : Nat → List Int → List Int
  | 0, out => out
  | m + 1, out => setA xs m (if gx xs m = 0 then out else out.set m (gx xs m))
def smA (xs : List Int) (m : Nat) : Prop := ∀ i, i < m → smC (gx xs i) = true
theorem gx_set (xs : List Int) (k : Nat) (c : Int) (i : Nat) (h : k < xs.length) : gx (xs.set k c) i = if i = k then c else gx xs i := by
  unfold gx
  by_cases e : i = k
  · subst e; simp [List.getD, h]
  · simp [List.getD, List.getElem?_set_ne (Ne.symm e), e]
theorem smC_zero : smC 0 = true := by decide
theorem rT_step_ne (xs : List Int) (m : Nat) (h : gx xs m ≠ 0) : rT xs (m + 1) ≠ [] := by
  rw [rT_succ, if_neg h]; simp [tmT_ne m h]
theorem ppL_rT (xs : List Int) : ∀ m, m ≤ 2001 → ∀ out, (smA xs m → ppL (rT xs m) out = some (setA xs m out)) ∧ (¬ smA xs m → ppL (rT xs m) out = none)
  | 0, _, out => ⟨fun _ => rfl, fun h => absurd (fun i hi => by omega) h⟩
  | m + 1, hm, out => by
    have ih := ppL_rT xs m (by omega)
    by_cases h0 : gx xs m = 0
    · have e : rT xs (m + 1) = rT xs m := by rw [rT_succ, if_pos h0]; rfl
      have e2 : setA xs (m + 1) out = setA xs m out := by show setA xs m _ = _; rw [if_pos h0]
      have e3 : smA xs (m + 1) ↔ smA xs m := ⟨fun h i hi => h i (by omega), fun h i hi => by
        rcases Nat.lt_or_eq_of_le (Nat.le_of_lt_succ hi) with h' | rfl
        · exact h i h'
        · rw [h0]; exact smC_zero⟩
      rw [e, e2, e3]; exact ih out
    · have hne := rT_step_ne xs m h0
      have ht : tmR (rT xs (m + 1)) = if smC (gx xs m) then some (gx xs m, m, rT xs m) else none := by
        rw [rT_succ, if_neg h0]; exact tmR_ok true m (by omega) h0 _ (rT_ok xs m)
      have e2 : setA xs (m + 1) out = setA xs m (out.set m (gx xs m)) := by show setA xs m _ = _; rw [if_neg h0]
      constructor
      · intro h
        rw [if_pos (h m (by omega))] at ht
        rw [ppL_step hne ht (by omega), e2]
        exact (ih _).1 (fun i hi => h i (by omega))
      · intro h
        by_cases hs : smC (gx xs m) = true
        · rw [if_pos hs] at ht
          rw [ppL_step hne ht (by omega)]
          refine (ih _).2 (fun h2 => h (fun i hi => ?_))
          rcases Nat.lt_or_eq_of_le (Nat.le_of_lt_succ hi) with h' | rfl
          · exact h2 i h'
          · exact hs
        · rw [if_neg hs] at ht
          exact ppL_none hne ht out
def addA (xs : List Int) : Nat → List Int → List Int
  | 0, p => p
  | m + 1, p => addA xs m (if gx xs m = 0 then p else (ext p m).set m (gx (ext p m) m + gx xs m))
theorem psL_rT (xs : List Int) : ∀ m, m ≤ 2001 → ∀ p, (smA xs m → psL (rT xs m) p = some (addA xs m p)) ∧ (¬ smA xs m → psL (rT xs m) p = none)
  | 0, _, p => ⟨fun _ => rfl, fun h => absurd (fun i hi => by omega) h⟩
  | m + 1, hm, p => by
    have ih := psL_rT xs m (by omega)
    by_cases h0 : gx xs m = 0
    · have e : rT xs (m + 1) = rT xs m := by rw [rT_succ, if_pos h0]; rfl
      have e2 : addA xs (m + 1) p = addA xs m p := by show addA xs m _ = _; rw [if_pos h0]
      have e3 : smA xs (m + 1) ↔ smA xs m := ⟨fun h i hi => h i (by omega), fun h i hi => by
        rcases Nat.lt_or_eq_of_le (Nat.le_of_lt_succ hi) with h' | rfl
        · exact h i h'
        · rw [h0]; exact smC_zero⟩
      rw [e, e2, e3]; exact ih p
    · have hne := rT_step_ne xs m h0
      have ht : tmR (rT xs (m + 1)) = if smC (gx xs m) then some (gx xs m, m, rT xs m) else none := by
        rw [rT_succ, if_neg h0]; exact tmR_ok true m (by omega) h0 _ (rT_ok xs m)
      have e2 : addA xs (m + 1) p = addA xs m ((ext p m).set m (gx (ext p m) m + gx xs m)) := by show addA xs m _ = _; rw [if_neg h0]
      constructor
      · intro h
        rw [if_pos (h m (by omega))] at ht
        rw [psL_step hne ht (by omega), e2]
        exact (ih _).1 (fun i hi => h i (by omega))
      · intro h
        by_cases hs : smC (gx xs m) = true
        · rw [if_pos hs] at ht
          rw [psL_step hne ht (by omega)]
          refine (ih _).2 (fun h2 => h (fun i hi => ?_))
          rcases Nat.lt_or_eq_of_le (Nat.le_of_lt_succ hi) with h' | rfl
          · exact h2 i h'
          · exact hs
        · rw [if_neg hs] at ht
          exact psL_none hne ht p
theorem setA_gx (xs : List Int) : ∀ m (out : List Int), m ≤ out.length → (setA xs m out).length = out.length ∧ ∀ i, gx (setA xs m out) i = if i < m ∧ gx xs i ≠ 0 then gx xs i else gx out i
  | 0, out, _ => ⟨rfl, fun i => by simp [setA]⟩
  | m + 1, out, h => by
    show (setA xs m (if gx xs m = 0 then out else out.set m (gx xs m))).length = _ ∧ ∀ i, gx (setA xs m (if gx xs m = 0 then out else out.set m (gx xs m))) i = _
    by_cases h0 : gx xs m = 0
    · rw [if_pos h0]
      obtain ⟨h1, h2⟩ := setA_gx xs m out (by omega)
      refine ⟨h1, fun i => ?_⟩
      rw [h2 i]
      by_cases hi : i < m ∧ gx xs i ≠ 0
      · rw [if_pos hi, if_pos ⟨by omega, hi.2⟩]
      · rw [if_neg hi, if_neg]
        rintro ⟨q1, q2⟩
        rcases Nat.lt_or_eq_of_le (Nat.le_of_lt_succ q1) with h' | rfl
        · exact hi ⟨h', q2⟩
        · exact q2 h0
    · rw [if_neg h0]
      obtain ⟨h1, h2⟩ := setA_gx xs m (out.set m (gx xs m)) (by simp; omega)
      refine ⟨by rw [h1]; simp, fun i => ?_⟩
      rw [h2 i, gx_set _ _ _ _ (by omega)]
      by_cases hi : i < m ∧ gx xs i ≠ 0
      · rw [if_pos hi, if_pos ⟨by omega, hi.2⟩]
      · rw [if_neg hi]
        by_cases e : i = m
        · subst e; rw [if_pos rfl, if_pos ⟨by omega, h0⟩]
        · rw [if_neg e, if_neg]
          rintro ⟨q1, q2⟩; exact hi ⟨by omega, q2⟩
theorem addA_gx (xs : List Int) : ∀ m (p : List Int), m ≤ p.length → (addA xs m p).length = p.length ∧ ∀ i, gx (addA xs m p) i = if i < m then gx p i + gx xs i else gx p i
  | 0, p, _ => ⟨rfl, fun i => by simp [addA]⟩
  | m + 1, p, h => by
    have hx : ext p m = p := by unfold ext; rw [show m + 1 - p.length = 0 by omega]; simp
    show (addA xs m (if gx xs m = 0 then p else (ext p m).set m (gx (ext p m) m + gx xs m))).length = _ ∧ ∀ i, gx (addA xs m (if gx xs m = 0 then p else (ext p m).set m (gx (ext p m) m + gx xs m))) i = _
    rw [hx]
    by_cases h0 : gx xs m = 0
    · rw [if_pos h0]
      obtain ⟨h1, h2⟩ := addA_gx xs m p (by omega)
      refine ⟨h1, fun i => ?_⟩
      rw [h2 i]
      by_cases hi : i < m
      · rw [if_pos hi, if_pos (by omega)]
      · rw [if_neg hi]
        by_cases e : i = m
        · subst e; rw [if_pos (by omega), h0]; omega
        · rw [if_neg (by omega)]
    · rw [if_neg h0]
      obtain ⟨h1, h2⟩ := addA_gx xs m (p.set m (gx p m + gx xs m)) (by simp; omega)
      refine ⟨by rw [h1]; simp, fun i => ?_⟩
      rw [h2 i, gx_set _ _ _ _ (by omega)]
      by_cases hi : i < m
      · rw [if_pos hi, if_neg (by omega), if_pos (by omega)]
      · rw [if_neg hi]
        by_cases e : i = m
        · subst e; rw [if_pos rfl, if_pos (by omega)]
        · rw [if_neg e, if_neg (by omega)]
theorem gx_rep (n i : Nat) : gx (List.replicate n 0) i = 0 := by
  unfold gx
  simp only [List.getD, List.getElem?_replicate]
  split <;> simp
/-- What trims to a list with a last number. -/
theorem trimL_of {p xs : List Int} (hl : xs.length ≤ p.length) (h0 : xs.length = 0 ∨ gx xs (xs.length - 1) ≠ 0) (h : ∀ i, gx p i = gx xs i) : trimL p = xs := by
  obtain ⟨k, hk, e, hlast, hz⟩ := trimL_prefix p
  have hk2 : k = xs.length := by
    rcases Nat.lt_trichotomy k xs.length with h1 | h1 | h1
    · rcases h0 with h0 | h0
      · omega
      · have := hz (xs.length - 1) (by omega)
        rw [h] at this; exact absurd this h0
    · exact h1
    · rcases hlast with h2 | h2
      · omega
      · rw [h, gx_out xs (k - 1) (by omega)] at h2; exact absurd rfl h2
  rw [e]
  apply gx_ext
  · simp; omega
  · intro i hi
    simp at hi
    rw [gx_take p k i (by omega), h]
def zer : List Int := List.replicate 2001 0
theorem zer_len : zer.length = 2001 := List.length_replicate
/-- The text of a list with a last number parses to this list if its numbers have at most nine digits, and not at all else. -/
theorem pp_ptx {xs : List Int} (n : Nat) (hn : xs.length = n + 1) (h0 : gx xs n ≠ 0) (hl : xs.length ≤ 2001) :
    (smA xs (n + 1) → (∃ out, ppL (ptx xs) zer = some out ∧ trimL out = xs) ∧ ∃ p, psL (ptx xs) [] = some p ∧ trimL p = xs) ∧ (¬ smA xs (n + 1) → ppL (ptx xs) zer = none ∧ psL (ptx xs) [] = none) := by
  have hx := ptx_split xs n hn h0
  have ht : tmR (ptx xs) = if smC (gx xs n) then some (gx xs n, n, rT xs n) else none := by
    rw [hx]
    have := tmR_ok false n (by omega) h0 (rT xs n) (rT_ok xs n)
    simpa using this
  have hne : ptx xs ≠ [] := by rw [hx]; simp [tmT_ne n h0]
  have hlast : xs.length = 0 ∨ gx xs (xs.length - 1) ≠ 0 := .inr (by rw [show xs.length - 1 = n by omega]; exact h0)
  constructor
  · intro h
    rw [if_pos (h n (by omega))] at ht
    have hsm : smA xs n := fun i hi => h i (by omega)
    refine ⟨⟨_, (ppL_step hne ht (by omega) zer).trans ((ppL_rT xs n (by omega) _).1 hsm), ?_⟩, ⟨_, (psL_step hne ht (by omega) []).trans ((psL_rT xs n (by omega) _).1 hsm), ?_⟩⟩
    · obtain ⟨h1, h2⟩ := setA_gx xs n (zer.set n (gx xs n)) (by simp [zer_len]; omega)
      refine trimL_of (by rw [h1]; simp [zer_len]; omega) hlast fun i => ?_
      rw [h2 i, gx_set _ _ _ _ (by rw [zer_len]; omega)]
      by_cases hi : i < n ∧ gx xs i ≠ 0
      · rw [if_pos hi]
      · rw [if_neg hi]
        by_cases e : i = n
        · subst e; rw [if_pos rfl]
        · rw [if_neg e, show gx zer i = 0 from gx_rep 2001 i]
          by_cases hin : i < n
          · exact (Classical.byContradiction fun hh => hi ⟨hin, fun e2 => hh e2.symm⟩)
          · rw [gx_out xs i (by omega)]
    · have he : ext [] n = List.replicate (n + 1) 0 := by simp [ext]
      rw [he, gx_rep]
      obtain ⟨h1, h2⟩ := addA_gx xs n ((List.replicate (n + 1) (0 : Int)).set n (0 + gx xs n)) (by simp)
      refine trimL_of (by rw [h1]; simp; omega) hlast fun i => ?_
      rw [h2 i, gx_set _ _ _ _ (by simp)]
      by_cases hi : i < n
      · rw [if_pos hi, if_neg (by omega), gx_rep]; omega
      · rw [if_neg hi]
        by_cases e : i = n
        · subst e; rw [if_pos rfl]; omega
        · rw [if_neg e, gx_rep, gx_out xs i (by omega)]
  · intro h
    by_cases hs : smC (gx xs n) = true
    · rw [if_pos hs] at ht
      have hsm : ¬ smA xs n := fun h2 => h (fun i hi => by
        rcases Nat.lt_or_eq_of_le (Nat.le_of_lt_succ hi) with h' | rfl
        · exact h2 i h'
        · exact hs)
      exact ⟨(ppL_step hne ht (by omega) zer).trans ((ppL_rT xs n (by omega) _).2 hsm), (psL_step hne ht (by omega) []).trans ((psL_rT xs n (by omega) _).2 hsm)⟩
    · rw [if_neg hs] at ht
      exact ⟨ppL_none hne ht zer, psL_none hne ht []⟩
/-- The program's way. -/
def ppF (t : List UInt8) : List Int × Int :=
  if t = [48] then ([], 0) else match ppL t zer with
  | none => ([], 6)
  | some out => if (trimL out).length = 0 then ([], 6) else if ptx (trimL out) = t then (trimL out, 0) else ([], 6)
/-- The reference's way. -/
def ppS (t : List UInt8) : List Int × Int := match psL t [] with
  | none => ([], 6)
  | some p => if isPoly (trimL p) && (ptx (trimL p) == t) then (trimL p, 0) else ([], 6)
theorem ppN_len : ∀ n (s : List UInt8) (out r : List Int), ppN n s out = some r → r.length = out.length ∧ ((∀ c ∈ out, -1000000000 < c ∧ c < 1000000000) → ∀ c ∈ r, -1000000000 < c ∧ c < 1000000000)
  | 0, s, out, r, h => by
    unfold ppN at h; split at h
    · cases h; exact ⟨rfl, fun h => h⟩
    · cases h
  | n + 1, s, out, r, h => by
    unfold ppN at h; split at h
    · cases h; exact ⟨rfl, fun h => h⟩
    · rcases ht : tmR s with _ | ⟨c, k, r'⟩
      · rw [ht] at h; cases h
      · rw [ht] at h; simp only at h
        split at h
        · cases h
        · obtain ⟨h1, h2⟩ := ppN_len n r' _ r h
          refine ⟨by simpa using h1, fun hc => h2 fun x hx => ?_⟩
          rcases List.mem_or_eq_of_mem_set hx with hx | rfl
          · exact hc x hx
          · have := tmR_bd ht; omega
theorem ppL_out {s : List UInt8} {out : List Int} (h : ppL s zer = some out) : out.length = 2001 ∧ ∀ c ∈ out, -1000000000 < c ∧ c < 1000000000 := by
  obtain ⟨h1, h2⟩ := ppN_len _ _ _ _ h
  exact ⟨by rw [h1, zer_len], h2 fun c hc => by rw [List.eq_of_mem_replicate hc]; decide⟩
theorem trimL_mem {p : List Int} {c : Int} (h : c ∈ trimL p) : c ∈ p := by
  obtain ⟨k, _, e, _⟩ := trimL_prefix p
  rw [e] at h; exact List.mem_of_mem_take h
theorem trimL_last (p : List Int) : (trimL p).length = 0 ∨ gx (trimL p) ((trimL p).length - 1) ≠ 0 := by
  obtain ⟨k, hk, e, hlast, _⟩ := trimL_prefix p
  rw [e]
  have hl : (p.take k).length = k := by simp; omega
  rw [hl]
  rcases hlast with h | h
  · exact .inl h
  · rcases Nat.eq_zero_or_pos k with h0 | h0
    · exact .inl h0
    · exact .inr (by rw [gx_take p k _ (by omega)]; exact h)
theorem isPoly_of {q : List Int} (hl : q.length ≤ 2001) (h0 : q.length = 0 ∨ gx q (q.length - 1) ≠ 0) (hc : ∀ c ∈ q, -1000000000 < c ∧ c < 1000000000) : isPoly q = true := by
  refine isPoly_yes hl h0 fun k hk => ?_
  have := hc _ (gx_mem q k hk)
  unfold isCoef
  exact inR_true.2 (by omega)
theorem trimL_idem (q : List Int) (h0 : q.length = 0 ∨ gx q (q.length - 1) ≠ 0) : trimL q = q := trimL_of (Nat.le_refl _) h0 fun _ => rfl
theorem tmR_48 : tmR [48] = some (0, 0, []) := by
  have : dgR [48] = (0, [], true) := by
    have := dgR_app 0 [] (by simp)
    rwa [List.append_nil, if_pos (by decide), show dec 0 = [48] from dec_small (by decide)] at this
  unfold tmR bR
  have e1 : bodT [48] = [48] := rfl
  have e2 : sgT [48] = 1 := rfl
  rw [e1, e2, if_neg (by simp), if_neg (by simp), this]; rfl
theorem psL_48 : psL [48] [] = some [0] := by
  rw [psL_step (by simp) tmR_48 (by decide), psL_nil]; rfl
theorem last_of {q : List Int} {n : Nat} (h : q.length = 0 ∨ gx q (q.length - 1) ≠ 0) (hn : q.length = n + 1) : gx q n ≠ 0 := by
  rcases h with h | h
  · omega
  · rwa [show q.length - 1 = n by omega] at h
theorem ppS_eq (t : List UInt8) : ppS t = ppF t := by
  unfold ppF
  by_cases h48 : t = [48]
  · rw [if_pos h48, h48]
    unfold ppS
    rw [psL_48]
    have e : trimL [0] = [] := by decide
    simp only [e]
    have e2 : isPoly [] = true := by decide
    have e3 : ptx [] = [48] := rfl
    rw [e2, e3]; rfl
  · rw [if_neg h48]
    -- what the reference accepts
    have hS : ∀ q, ppS t = (q, 0) → q.length ≠ 0 ∧ ptx q = t ∧ isPoly q = true ∧ psL t [] ≠ none := fun q h => by
      unfold ppS at h
      split at h
      · cases h
      · rename_i p hp
        split at h
        · rename_i hh
          simp only [Bool.and_eq_true, beq_iff_eq] at hh
          simp only [Prod.mk.injEq, and_true] at h
          rw [h] at hh
          refine ⟨fun hz => ?_, hh.2, hh.1, by rw [hp]; simp⟩
          have := hh.2
          rw [List.eq_nil_of_length_eq_zero hz] at this
          exact h48 this.symm
        · cases h
    have hSf : ∀ c, (ppS t).2 = c → c ≠ 0 → ppS t = ([], 6) := fun c h hc => by
      unfold ppS at h ⊢
      split
      · rfl
      · split
        · rename_i hp hh
          rw [hp] at h; simp only [hh, if_true] at h
          exact absurd h.symm hc
        · rfl
    cases hp : ppL t zer with
    | none =>
      simp only
      by_cases hz : (ppS t).2 = 0
      · obtain ⟨q1, q2, q3, q4⟩ := hS (ppS t).1 (by rw [← hz])
        obtain ⟨n, hn⟩ : ∃ n, (ppS t).1.length = n + 1 := ⟨(ppS t).1.length - 1, by omega⟩
        obtain ⟨hl, hlast, _⟩ := isPoly_true.1 q3
        have hx := pp_ptx (xs := (ppS t).1) n hn (last_of hlast hn) hl
        rw [q2] at hx
        by_cases hsm : smA (ppS t).1 (n + 1)
        · obtain ⟨⟨out, e, _⟩, _⟩ := hx.1 hsm
          rw [hp] at e; cases e
        · exact absurd (hx.2 hsm).2 q4
      · exact hSf _ rfl hz
    | some out =>
      simp only
      obtain ⟨ho1, ho2⟩ := ppL_out hp
      have hq := trimL_last out
      have hql := trimL_len out
      by_cases h0 : (trimL out).length = 0
      · rw [if_pos h0]
        by_cases hz : (ppS t).2 = 0
        · obtain ⟨q1, q2, q3, q4⟩ := hS (ppS t).1 (by rw [← hz])
          obtain ⟨n, hn⟩ : ∃ n, (ppS t).1.length = n + 1 := ⟨(ppS t).1.length - 1, by omega⟩
          obtain ⟨hl, hlast, _⟩ := isPoly_true.1 q3
          have hx := pp_ptx (xs := (ppS t).1) n hn (last_of hlast hn) hl
          rw [q2] at hx
          by_cases hsm : smA (ppS t).1 (n + 1)
          · obtain ⟨⟨out', e, e2⟩, _⟩ := hx.1 hsm
            rw [hp] at e; cases e
            rw [e2] at h0; exact absurd h0 q1
          · exact absurd (hx.2 hsm).2 q4
        · exact hSf _ rfl hz
      · rw [if_neg h0]
        by_cases ht : ptx (trimL out) = t
        · rw [if_pos ht]
          obtain ⟨n, hn⟩ : ∃ n, (trimL out).length = n + 1 := ⟨(trimL out).length - 1, by omega⟩
          have hnz : gx (trimL out) n ≠ 0 := by
            rcases hq with h | h
            · omega
            · rwa [show (trimL out).length - 1 = n by omega] at h
          have hcs : ∀ c ∈ trimL out, -1000000000 < c ∧ c < 1000000000 := fun c hc => ho2 c (trimL_mem hc)
          have hx := pp_ptx (xs := trimL out) n hn hnz (by omega)
          have hsm : smA (trimL out) (n + 1) := fun i hi => smC_true.2 (hcs _ (gx_mem _ i (by omega)))
          obtain ⟨_, p, e, e2⟩ := hx.1 hsm
          rw [ht] at e
          unfold ppS
          rw [e]; simp only [e2]
          rw [isPoly_of (by omega) hq hcs, ht]; simp
        · rw [if_neg ht]
          by_cases hz : (ppS t).2 = 0
          · obtain ⟨q1, q2, q3, q4⟩ := hS (ppS t).1 (by rw [← hz])
            obtain ⟨n, hn⟩ : ∃ n, (ppS t).1.length = n + 1 := ⟨(ppS t).1.length - 1, by omega⟩
            obtain ⟨hl, hlast, _⟩ := isPoly_true.1 q3
            have hx := pp_ptx (xs := (ppS t).1) n hn (last_of hlast hn) hl
            rw [q2] at hx
            by_cases hsm : smA (ppS t).1 (n + 1)
            · obtain ⟨⟨out', e, e2⟩, _⟩ := hx.1 hsm
              rw [hp] at e; cases e
              rw [e2] at ht; exact absurd q2 ht
            · exact absurd (hx.2 hsm).2 q4
          · exact hSf _ rfl hz
theorem ppF_len (t : List UInt8) : (ppF t).1.length ≤ 2001 := by
  unfold ppF
  split
  · simp
  · split
    · simp
    · rename_i out h
      have := (ppL_out h).1
      have := trimL_len out
      split
      · simp
      · split <;> simp <;> omega

end Go.Proofs.YtdfhkkngbpidaaaDoor.Pl
