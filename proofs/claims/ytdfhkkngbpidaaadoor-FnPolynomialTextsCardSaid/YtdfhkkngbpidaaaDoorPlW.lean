/-
  PLAIN LAWS, TEXTS: decimal numerals, what reads them, texts cut at a byte; no program in sight.
-/
import Derived.Lib.ItoaNum
import Derived.Test.YtdfhkkngbpidaaaDoorPlA
namespace Go.Proofs.YtdfhkkngbpidaaaDoor.Pl
open Go
set_option linter.unusedVariables false

/-- A decimal numeral. -/
def dec (n : Nat) : List UInt8 := Lib.decDigits n
def isD (c : UInt8) : Bool := decide (48 ≤ c.toNat) && decide (c.toNat ≤ 57)
theorem isD_true {c : UInt8} : isD c = true ↔ 48 ≤ c.toNat ∧ c.toNat ≤ 57 := by simp [isD]
def dig (c : UInt8) : Nat := c.toNat - 48
/-- The value of a list of digits. -/
def vlL (l : List UInt8) : Nat := l.foldl (fun n c => 10 * n + dig c) 0
theorem vlL_nil : vlL [] = 0 := rfl
theorem vlL_snoc (l : List UInt8) (c : UInt8) : vlL (l ++ [c]) = 10 * vlL l + dig c := by simp [vlL]
theorem dec_small {n : Nat} (h : n < 10) : dec n = [UInt8.ofNat (48 + n)] := by unfold dec; rw [Lib.decDigits, dif_pos h]
theorem dec_big {n : Nat} (h : ¬ n < 10) : dec n = dec (n / 10) ++ [UInt8.ofNat (48 + n % 10)] := by unfold dec; rw [Lib.decDigits, dif_neg h]
theorem ofD (k : Nat) (h : k < 10) : (UInt8.ofNat (48 + k)).toNat = 48 + k := by
  rw [UInt8.toNat_ofNat']; exact Nat.mod_eq_of_lt (by omega)
theorem toD (c : UInt8) (h : isD c = true) : UInt8.ofNat (48 + dig c) = c := by
  have := isD_true.1 h
  unfold dig
  rw [show 48 + (c.toNat - 48) = c.toNat by omega]
  exact UInt8.ofNat_toNat
theorem isD_of (k : Nat) (h : k < 10) : isD (UInt8.ofNat (48 + k)) = true := isD_true.2 (by rw [ofD k h]; omega)
theorem dig_of (k : Nat) (h : k < 10) : dig (UInt8.ofNat (48 + k)) = k := by unfold dig; rw [ofD k h]; omega
theorem dig_lt (c : UInt8) (h : isD c = true) : dig c < 10 := by have := isD_true.1 h; unfold dig; omega

theorem dec_all (n : Nat) : ∀ c ∈ dec n, isD c = true := by
  induction n using Nat.strongRecOn with
  | _ n ih =>
    by_cases h : n < 10
    · rw [dec_small h]; intro c hc; rw [List.mem_singleton] at hc; subst hc; exact isD_of n h
    · rw [dec_big h]; intro c hc
      rcases List.mem_append.1 hc with hc | hc
      · exact ih (n / 10) (by omega) c hc
      · rw [List.mem_singleton] at hc; subst hc; exact isD_of _ (Nat.mod_lt n (by decide))
theorem dec_ne (n : Nat) : dec n ≠ [] := by
  by_cases h : n < 10
  · rw [dec_small h]; simp
  · rw [dec_big h]; simp
theorem dec_pos (n : Nat) : 1 ≤ (dec n).length := by
  have := dec_ne n
  cases h : dec n with
  | nil => exact absurd h this
  | cons _ _ => simp
theorem vlL_dec (n : Nat) : vlL (dec n) = n := by
  induction n using Nat.strongRecOn with
  | _ n ih =>
    by_cases h : n < 10
    · rw [dec_small h]; show 10 * 0 + dig _ = n; rw [dig_of n h]; omega
    · rw [dec_big h, vlL_snoc, ih (n / 10) (by omega), dig_of _ (Nat.mod_lt _ (by decide))]; omega
theorem dec_len (n : Nat) : (dec n).length = Lib.nDigits n := Lib.decDigits_length n
theorem nD_le : ∀ (k n : Nat), 1 ≤ k → n < 10 ^ k → Lib.nDigits n ≤ k
  | 0, n, h, _ => by omega
  | k + 1, n, _, h => by
    by_cases h1 : n < 10
    · rw [Lib.nDigits_small h1]; omega
    · rw [Lib.nDigits_big h1]
      have hk : 1 ≤ k := by
        rcases Nat.eq_zero_or_pos k with rfl | hk
        · simp at h; omega
        · exact hk
      have := nD_le k (n / 10) hk (by rw [Nat.pow_succ] at h; omega)
      omega
theorem dec_len_le (n : Nat) (h : n < 1000000000) : (dec n).length ≤ 9 := by rw [dec_len]; exact nD_le 9 n (by decide) h
theorem dec_len_gt (n : Nat) (h : ¬ n < 1000000000) : 9 < (dec n).length := by
  rw [dec_len]
  rcases Nat.lt_or_ge 9 (Lib.nDigits n) with h9 | h9
  · exact h9
  · have h1 := Lib.lt_pow_nDigits n
    have h2 : 10 ^ Lib.nDigits n ≤ 10 ^ 9 := Nat.pow_le_pow_right (by decide) h9
    have h3 : (10 : Nat) ^ 9 = 1000000000 := by decide
    omega
/-- A longer numeral does not begin with a 0. -/
theorem dec_head (n : Nat) (h : n ≠ 0) : (dec n).head? ≠ some 48 := by
  induction n using Nat.strongRecOn with
  | _ n ih =>
    by_cases h1 : n < 10
    · rw [dec_small h1]; intro e
      have e2 := congrArg UInt8.toNat (Option.some.inj e)
      rw [ofD n h1] at e2
      have : (48 : UInt8).toNat = 48 := rfl
      omega
    · rw [dec_big h1]
      have := ih (n / 10) (by omega) (by omega)
      have hne := dec_ne (n / 10)
      cases hd : dec (n / 10) with
      | nil => exact absurd hd hne
      | cons x r => rw [hd] at this; simpa using this
theorem dec_lead (n : Nat) (h : 1 < (dec n).length) : (dec n).head? ≠ some 48 := dec_head n (by
  rintro rfl
  rw [dec_small (by decide)] at h; simp at h)
/-- Digits without a 0 ahead are a numeral. -/
theorem dec_vlL (s : List UInt8) (h0 : s ≠ []) (hd : ∀ c ∈ s, isD c = true) (hl : ¬ (1 < s.length ∧ s.head? = some 48)) : dec (vlL s) = s := by
  induction hn : s.length generalizing s with
  | zero => exact absurd (List.eq_nil_of_length_eq_zero hn) h0
  | succ n ih =>
    rcases List.eq_nil_or_concat s with rfl | ⟨t, c, rfl⟩
    · exact absurd rfl h0
    · rw [List.concat_eq_append] at *
      have hc : isD c = true := hd c (by simp)
      have hcl := dig_lt c hc
      rw [vlL_snoc]
      by_cases ht : t = []
      · subst ht
        rw [vlL_nil, Nat.mul_zero, Nat.zero_add, dec_small hcl, toD c hc]; rfl
      · have hhead : (t ++ [c]).head? = t.head? := by cases t <;> simp at ht ⊢
        have htl : 1 ≤ t.length := by cases t <;> simp at ht ⊢
        have hl2 : t.head? ≠ some 48 := fun e => hl ⟨by simp; omega, by rw [hhead]; exact e⟩
        have e := ih t ht (fun x hx => hd x (by simp [hx])) (fun hh => hl2 hh.2) (by simp at hn; omega)
        have hv : vlL t ≠ 0 := by
          intro hz
          rw [hz, dec_small (by decide)] at e
          rw [← e] at hl2; exact hl2 rfl
        rw [dec_big (by omega), show (10 * vlL t + dig c) / 10 = vlL t by omega, show (10 * vlL t + dig c) % 10 = dig c by omega, e, toD c hc]

/-- The number that a text is, of at most nine digits. -/
def vlOk (s : List UInt8) : Bool := decide (1 ≤ s.length) && decide (s.length ≤ 9) && !(decide (1 < s.length) && s.head? == some 48) && s.all isD
def vl (s : List UInt8) : Option Nat := if vlOk s then some (vlL s) else none
theorem vlOk_iff (s : List UInt8) : vlOk s = true ↔ (1 ≤ s.length ∧ s.length ≤ 9) ∧ ¬ (1 < s.length ∧ s.head? = some 48) ∧ ∀ c ∈ s, isD c = true := by
  unfold vlOk
  simp only [Bool.and_eq_true, decide_eq_true_eq, Bool.not_eq_true', Bool.and_eq_false_iff, decide_eq_false_iff_not, beq_eq_false_iff_ne, List.all_eq_true, and_assoc]
  constructor
  · rintro ⟨h1, h2, h3, h4⟩; exact ⟨h1, h2, fun hh => h3.elim (fun h => h hh.1) (fun h => h hh.2), h4⟩
  · rintro ⟨h1, h2, h3, h4⟩; exact ⟨h1, h2, Classical.byCases (fun hl : 1 < s.length => .inr fun e => h3 ⟨hl, e⟩) .inl, h4⟩
theorem vl_dec (n : Nat) (h : n < 1000000000) : vl (dec n) = some n := by
  unfold vl
  rw [if_pos ((vlOk_iff _).2 ⟨⟨dec_pos n, dec_len_le n h⟩, fun hh => dec_lead n hh.1 hh.2, dec_all n⟩), vlL_dec]
theorem vl_dec_big (n : Nat) (h : ¬ n < 1000000000) : vl (dec n) = none := by
  unfold vl
  rw [if_neg]
  intro hh
  have := ((vlOk_iff _).1 hh).1.2
  have := dec_len_gt n h
  omega
theorem vl_some {s : List UInt8} {n : Nat} (h : vl s = some n) : s = dec n ∧ n < 1000000000 := by
  unfold vl at h
  split at h
  · rename_i hk
    obtain ⟨⟨h1, h2⟩, h3, h4⟩ := (vlOk_iff s).1 hk
    simp at h; subst h
    have e := dec_vlL s (by intro e; simp [e] at h1) h4 h3
    refine ⟨e.symm, ?_⟩
    rcases Nat.lt_or_ge (vlL s) 1000000000 with hb | hb
    · exact hb
    · have := dec_len_gt (vlL s) (by omega)
      rw [e] at this; omega
  · cases h
theorem vl_nil : vl [] = none := rfl
def vlI (s : List UInt8) : Int := match vl s with | some n => (n : Int) | none => -1
theorem vlI_some {s : List UInt8} {n : Nat} (h : vl s = some n) : vlI s = n := by unfold vlI; rw [h]
theorem vlI_none {s : List UInt8} (h : vl s = none) : vlI s = -1 := by unfold vlI; rw [h]
theorem vlI_bd (s : List UInt8) : -1 ≤ vlI s ∧ vlI s < 1000000000 := by
  unfold vlI
  cases h : vl s with
  | none => simp
  | some n => have := (vl_some h).2; simp only; omega

/-! ### cut at a byte -/
def idx (c : UInt8) (s : List UInt8) : Nat := (s.takeWhile (fun x => x != c)).length
theorem idx_le (c : UInt8) (s : List UInt8) : idx c s ≤ s.length := by
  unfold idx; exact (List.takeWhile_prefix _).length_le
theorem idx_no {c : UInt8} {s : List UInt8} (h : c ∉ s) : idx c s = s.length := by
  unfold idx
  induction s with
  | nil => rfl
  | cons x r ih =>
    simp only [List.mem_cons, not_or] at h
    rw [List.takeWhile_cons, if_pos (by simp only [bne_iff_ne]; exact fun e => h.1 e.symm)]
    simp [ih h.2]
theorem idx_at {c : UInt8} {a b : List UInt8} (h : c ∉ a) : idx c (a ++ c :: b) = a.length := by
  unfold idx
  rw [List.takeWhile_append_of_pos (by intro x hx; simp only [bne_iff_ne]; rintro rfl; exact h hx)]
  simp
def bef (c : UInt8) (s : List UInt8) : List UInt8 := s.take (idx c s)
def beh (c : UInt8) (s : List UInt8) : List UInt8 := s.drop (idx c s + 1)
def fnd (c : UInt8) (s : List UInt8) : Bool := decide (idx c s < s.length)
theorem bef_no {c : UInt8} {s : List UInt8} (h : c ∉ s) : bef c s = s ∧ beh c s = [] ∧ fnd c s = false := by
  unfold bef beh fnd; rw [idx_no h]; simp
theorem bef_at {c : UInt8} {a b : List UInt8} (h : c ∉ a) : bef c (a ++ c :: b) = a ∧ beh c (a ++ c :: b) = b ∧ fnd c (a ++ c :: b) = true := by
  unfold bef beh fnd; rw [idx_at h]; simp
/-- What is cut. -/
theorem cut_cases (c : UInt8) (s : List UInt8) : (c ∉ s) ∨ ∃ a b, c ∉ a ∧ s = a ++ c :: b := by
  induction s with
  | nil => exact .inl (by simp)
  | cons x r ih =>
    by_cases hx : x = c
    · exact .inr ⟨[], r, by simp, by simp [hx]⟩
    · rcases ih with h | ⟨a, b, ha, rfl⟩
      · exact .inl (by simp only [List.mem_cons, not_or]; exact ⟨fun e => hx e.symm, h⟩)
      · exact .inr ⟨x :: a, b, by simp only [List.mem_cons, not_or]; exact ⟨fun e => hx e.symm, ha⟩, rfl⟩
def spl (c : UInt8) : List UInt8 → List (List UInt8)
  | [] => [[]]
  | x :: r => if x = c then [] :: spl c r else match spl c r with
    | w :: ws => (x :: w) :: ws
    | [] => [[x]]
theorem spl_cons (c x : UInt8) (r : List UInt8) : spl c (x :: r) = if x = c then [] :: spl c r else match spl c r with
    | w :: ws => (x :: w) :: ws
    | [] => [[x]] := rfl
theorem spl_ne (c : UInt8) (s : List UInt8) : spl c s ≠ [] := by
  cases s with
  | nil => simp [spl]
  | cons x r =>
    rw [spl_cons]; split
    · simp
    · split <;> simp
theorem spl_no {c : UInt8} {s : List UInt8} (h : c ∉ s) : spl c s = [s] := by
  induction s with
  | nil => rfl
  | cons x r ih =>
    simp only [List.mem_cons, not_or] at h
    rw [spl_cons, if_neg (fun e => h.1 e.symm), ih h.2]
theorem spl_at {c : UInt8} {a b : List UInt8} (h : c ∉ a) : spl c (a ++ c :: b) = a :: spl c b := by
  induction a with
  | nil => simp [spl]
  | cons x r ih =>
    simp only [List.mem_cons, not_or] at h
    show spl c (x :: (r ++ c :: b)) = _
    rw [spl_cons, if_neg (fun e => h.1 e.symm), ih h.2]
/-- Words with a byte between them. -/
def jn (c : UInt8) : List (List UInt8) → List UInt8
  | [] => []
  | [w] => w
  | w :: v :: ws => w ++ c :: jn c (v :: ws)
theorem spl_jn (c : UInt8) : ∀ (ws : List (List UInt8)), ws ≠ [] → (∀ w ∈ ws, c ∉ w) → spl c (jn c ws) = ws
  | [], h, _ => absurd rfl h
  | [w], _, h => spl_no (h w (by simp))
  | w :: v :: ws, _, h => by
    show spl c (w ++ c :: jn c (v :: ws)) = _
    rw [spl_at (h w (by simp)), spl_jn c (v :: ws) (by simp) (fun x hx => h x (by simp at hx ⊢; exact .inr hx))]
theorem jn_spl (c : UInt8) (s : List UInt8) : jn c (spl c s) = s ∧ ∀ w ∈ spl c s, c ∉ w := by
  induction hn : s.length using Nat.strongRecOn generalizing s with
  | _ n ih =>
    rcases cut_cases c s with h | ⟨a, b, ha, rfl⟩
    · rw [spl_no h]; exact ⟨rfl, by simpa using h⟩
    · rw [spl_at ha]
      obtain ⟨h1, h2⟩ := ih b.length (by rw [← hn]; simp; omega) b rfl
      refine ⟨?_, fun w hw => (List.mem_cons.1 hw).elim (fun e => by rw [e]; exact ha) (fun hw => h2 w hw)⟩
      have hne := spl_ne c b
      cases hs : spl c b with
      | nil => exact absurd hs hne
      | cons v ws => rw [hs] at h1; show a ++ c :: jn c (v :: ws) = _; rw [h1]
theorem spl_len (c : UInt8) (s : List UInt8) : (spl c s).length ≤ s.length + 1 := by
  induction s with
  | nil => simp [spl]
  | cons x r ih =>
    rw [spl_cons]; split
    · simp; omega
    · split
      · rename_i h; rw [h] at ih; simp at ih ⊢; omega
      · simp
theorem dec_no (n : Nat) (c : UInt8) (h : isD c = false) : c ∉ dec n := fun hc => by rw [dec_all n c hc] at h; cases h
/-! ### the digits that a text begins with -/
def dk (s : List UInt8) : Nat := (s.takeWhile isD).length
def bx (s : List UInt8) (k : Nat) : UInt8 := s.getD k 0
theorem bx_eq (s : List UInt8) (k : Nat) (h : k < s.length) : bx s k = s[k] := by simp [bx, List.getD, h]
theorem bx_take (s : List UInt8) (k : Nat) (h : k < s.length) : s.take (k + 1) = s.take k ++ [bx s k] := by
  rw [List.take_succ_eq_append_getElem h, bx_eq s k h]
theorem dk_cons (c : UInt8) (r : List UInt8) : dk (c :: r) = if isD c then dk r + 1 else 0 := by
  unfold dk; rw [List.takeWhile_cons]; split <;> simp
theorem dk_eq {s : List UInt8} {i : Nat} (hi : i ≤ s.length) (h : ∀ j, j < i → isD (bx s j) = true) (hx : i = s.length ∨ isD (bx s i) = false) : dk s = i := by
  induction s generalizing i with
  | nil => simp at hi; subst hi; rfl
  | cons c r ih =>
    rw [dk_cons]
    cases i with
    | zero =>
      rcases hx with hx | hx
      · simp at hx
      · rw [show bx (c :: r) 0 = c from rfl] at hx; rw [hx]; rfl
    | succ i =>
      rw [if_pos (show isD c = true from h 0 (by omega)), ih (by simpa using hi) (fun j hj => h (j + 1) (by omega)) (hx.imp (fun e => by simpa using e) id)]
theorem dk_gt {s : List UInt8} {i : Nat} (hi : i < s.length) (h : ∀ j, j ≤ i → isD (bx s j) = true) : i < dk s := by
  induction s generalizing i with
  | nil => simp at hi
  | cons c r ih =>
    rw [dk_cons, if_pos (show isD c = true from h 0 (by omega))]
    cases i with
    | zero => omega
    | succ i => have := ih (i := i) (by simpa using hi) (fun j hj => h (j + 1) (by omega)); omega
theorem dk_le (s : List UInt8) : dk s ≤ s.length := by unfold dk; exact (List.takeWhile_prefix _).length_le
theorem dk_all (s : List UInt8) : ∀ c ∈ s.take (dk s), isD c = true := by
  have e : s.take (dk s) = s.takeWhile isD := by
    unfold dk
    exact (List.prefix_iff_eq_take.1 (List.takeWhile_prefix _)).symm
  rw [e]
  clear e
  induction s with
  | nil => simp
  | cons x r ih =>
    rw [List.takeWhile_cons]
    split
    · rename_i hx
      intro c hc
      rcases List.mem_cons.1 hc with rfl | hc
      · exact hx
      · exact ih c hc
    · simp
theorem dk_app (a b : List UInt8) (h : ∀ c ∈ a, isD c = true) (hb : ∀ c, b.head? = some c → isD c = false) : dk (a ++ b) = a.length := by
  apply dk_eq (by simp)
  · intro j hj
    have e : bx (a ++ b) j = a[j] := by rw [bx_eq _ _ (by simp; omega), List.getElem_append_left hj]
    rw [e]; exact h _ (List.getElem_mem hj)
  · cases b with
    | nil => left; simp
    | cons c r =>
      right
      have e : bx (a ++ c :: r) a.length = c := by rw [bx_eq _ _ (by simp)]; simp
      rw [e]; exact hb c rfl
def dgB (s : List UInt8) : Bool := decide (1 ≤ dk s) && (decide (dk s ≤ 9) && !(decide (1 < dk s) && (bx s 0 == 48)))
def dgR (s : List UInt8) : Nat × List UInt8 × Bool := if dgB s then (vlL (s.take (dk s)), s.drop (dk s), true) else (0, [], false)
def nmI (s : List UInt8) : Int := ((dgR s).1 : Int)
theorem dgR_no {s : List UInt8} (h : dgB s = false) : dgR s = (0, [], false) := by unfold dgR; rw [h]; rfl
theorem dgR_yes {s : List UInt8} (h : dgB s = true) : dgR s = (vlL (s.take (dk s)), s.drop (dk s), true) := by unfold dgR; rw [h]; rfl
theorem dgB_nine {s : List UInt8} (h : 9 < dk s) : dgB s = false := by
  unfold dgB; rw [decide_eq_false (show ¬ dk s ≤ 9 by omega)]; simp
theorem dgB_nil {s : List UInt8} (h : dk s = 0) : dgB s = false := by unfold dgB; rw [h]; rfl
theorem dgB_lead {s : List UInt8} (h1 : 1 < dk s) (h : bx s 0 = 48) : dgB s = false := by unfold dgB; rw [decide_eq_true h1, h]; simp
theorem dgB_yes {s : List UInt8} (h1 : 1 ≤ dk s) (h9 : dk s ≤ 9) (h : ¬ (1 < dk s ∧ bx s 0 = 48)) : dgB s = true := by
  unfold dgB
  simp only [Bool.and_eq_true, decide_eq_true_eq, Bool.not_eq_true', Bool.and_eq_false_iff, decide_eq_false_iff_not, beq_eq_false_iff_ne]
  refine ⟨h1, h9, ?_⟩
  by_cases hl : 1 < dk s
  · exact .inr fun e => h ⟨hl, e⟩
  · exact .inl hl
theorem dgB_iff {s : List UInt8} : dgB s = true ↔ (1 ≤ dk s ∧ dk s ≤ 9) ∧ ¬ (1 < dk s ∧ bx s 0 = 48) := by
  constructor
  · intro h
    refine ⟨⟨?_, ?_⟩, ?_⟩
    · rcases Nat.eq_zero_or_pos (dk s) with e | e
      · rw [dgB_nil e] at h; cases h
      · exact e
    · rcases Nat.lt_or_ge 9 (dk s) with e | e
      · rw [dgB_nine e] at h; cases h
      · exact e
    · rintro ⟨h1, h2⟩; rw [dgB_lead h1 h2] at h; cases h
  · rintro ⟨⟨h1, h2⟩, h3⟩; exact dgB_yes h1 h2 h3
theorem bx_head (s : List UInt8) (h : 0 < s.length) : s.head? = some (bx s 0) := by
  cases s with
  | nil => simp at h
  | cons c r => rfl
/-- What digitsOf takes is a numeral of at most nine digits. -/
theorem dgR_dec {s : List UInt8} (h : dgB s = true) : s = dec (dgR s).1 ++ (dgR s).2.1 ∧ (dgR s).1 < 1000000000 := by
  obtain ⟨⟨h1, h2⟩, h3⟩ := dgB_iff.1 h
  rw [dgR_yes h]
  have hl := dk_le s
  have hv : vl (s.take (dk s)) = some (vlL (s.take (dk s))) := by
    unfold vl
    rw [if_pos]
    refine (vlOk_iff _).2 ⟨⟨by simp; omega, by simp; omega⟩, ?_, dk_all s⟩
    rintro ⟨q1, q2⟩
    simp at q1
    refine h3 ⟨by omega, ?_⟩
    have : (s.take (dk s)).head? = s.head? := by
      cases s with
      | nil => rfl
      | cons c r =>
        obtain ⟨j, hj⟩ : ∃ j, dk (c :: r) = j + 1 := ⟨dk (c :: r) - 1, by omega⟩
        rw [hj]; rfl
    rw [this, bx_head s (by omega)] at q2
    exact Option.some.inj q2
  obtain ⟨e, hb⟩ := vl_some hv
  refine ⟨?_, hb⟩
  show s = dec (vlL (s.take (dk s))) ++ s.drop (dk s)
  rw [← e, List.take_append_drop]
/-- A numeral and what follows is read back. -/
theorem dgR_app (n : Nat) (r : List UInt8) (hr : ∀ c, r.head? = some c → isD c = false) : dgR (dec n ++ r) = if n < 1000000000 then (n, r, true) else (0, [], false) := by
  have hk : dk (dec n ++ r) = (dec n).length := dk_app _ _ (dec_all n) hr
  have hp := dec_pos n
  have hb0 : bx (dec n ++ r) 0 = bx (dec n) 0 := by
    rw [bx_eq _ _ (by simp; omega), bx_eq _ _ (by omega), List.getElem_append_left (by omega)]
  split
  · rename_i h
    rw [dgR_yes (dgB_yes (by omega) (by rw [hk]; exact dec_len_le n h) ?_), hk]
    · simp [vlL_dec]
    · rw [hk, hb0]
      rintro ⟨h1, h2⟩
      apply dec_lead n h1
      rw [bx_head _ (by omega), h2]
  · rename_i h
    exact dgR_no (dgB_nine (by rw [hk]; exact dec_len_gt n h))
/-- numberOf. -/
theorem nm_ok (s : List UInt8) : ((dgR s).2.2 && (dgR s).2.1.isEmpty) = vlOk s := by
  rw [Bool.eq_iff_iff]
  constructor
  · intro h
    simp only [Bool.and_eq_true, List.isEmpty_iff] at h
    have hd : dgB s = true := by
      cases hb : dgB s
      · rw [dgR_no hb] at h; cases h.1
      · rfl
    obtain ⟨e, hb⟩ := dgR_dec hd
    rw [h.2, List.append_nil] at e
    have := vl_dec _ hb
    rw [← e] at this
    unfold vl at this
    split at this
    · assumption
    · cases this
  · intro h
    have hv : vl s = some (vlL s) := by unfold vl; rw [if_pos h]
    obtain ⟨e, hb⟩ := vl_some hv
    have := dgR_app (vlL s) [] (by simp)
    rw [List.append_nil, ← e, if_pos hb] at this
    rw [this]; rfl
theorem nm_val {s : List UInt8} (h : vlOk s = true) : vl s = some (dgR s).1 := by
  have hv : vl s = some (vlL s) := by unfold vl; rw [if_pos h]
  obtain ⟨e, hb⟩ := vl_some hv
  have := dgR_app (vlL s) [] (by simp)
  rw [List.append_nil, ← e, if_pos hb] at this
  rw [this]; exact hv
theorem vl_no {s : List UInt8} (h : vlOk s = false) : vl s = none := by unfold vl; rw [h]; rfl
theorem vlI_yes {s : List UInt8} (h : vlOk s = true) : vlI s = vlL s := by
  rw [vlI_some (n := vlL s) (by unfold vl; rw [if_pos h])]
theorem vlI_no {s : List UInt8} (h : vlOk s = false) : vlI s = -1 := vlI_none (vl_no h)
theorem nmI_lt (s : List UInt8) : 0 ≤ nmI s ∧ nmI s < 1000000000 := by
  unfold nmI
  cases hb : dgB s
  · rw [dgR_no hb]; simp
  · have := (dgR_dec hb).2; omega
theorem vlL_lt (s : List UInt8) (h : ∀ c ∈ s, isD c = true) : vlL s < 10 ^ s.length := by
  induction hn : s.length generalizing s with
  | zero => rw [List.eq_nil_of_length_eq_zero hn]; decide
  | succ n ih =>
    rcases List.eq_nil_or_concat s with rfl | ⟨t, c, rfl⟩
    · simp at hn
    · rw [List.concat_eq_append] at *
      rw [vlL_snoc]
      have := ih t (fun x hx => h x (by simp [hx])) (by simpa using hn)
      have := dig_lt c (h c (by simp))
      rw [Nat.pow_succ]; omega

/-! ### places of a byte -/
theorem tw_eq (p : UInt8 → Bool) {s : List UInt8} {i : Nat} (hi : i ≤ s.length) (h : ∀ j, j < i → p (bx s j) = true) (hx : i = s.length ∨ p (bx s i) = false) : (s.takeWhile p).length = i := by
  induction s generalizing i with
  | nil => simp at hi; subst hi; rfl
  | cons c r ih =>
    rw [List.takeWhile_cons]
    cases i with
    | zero =>
      rcases hx with hx | hx
      · simp at hx
      · rw [show bx (c :: r) 0 = c from rfl] at hx; rw [hx]; rfl
    | succ i =>
      rw [if_pos (show p c = true from h 0 (by omega))]
      simp [ih (by simpa using hi) (fun j hj => h (j + 1) (by omega)) (hx.imp (fun e => by simpa using e) id)]
theorem idx_eq {c : UInt8} {s : List UInt8} {i : Nat} (hi : i ≤ s.length) (h : ∀ j, j < i → bx s j ≠ c) (hx : i = s.length ∨ bx s i = c) : idx c s = i :=
  tw_eq _ hi (fun j hj => by simpa using h j hj) (hx.imp id (fun e => by simp [e]))
theorem spl_fnd {c : UInt8} {s : List UInt8} (h : fnd c s = true) : spl c s = bef c s :: spl c (beh c s) ∧ (bef c s).length + (beh c s).length + 1 = s.length := by
  rcases cut_cases c s with hc | ⟨a, b, ha, rfl⟩
  · rw [(bef_no hc).2.2] at h; cases h
  · obtain ⟨h1, h2, h3⟩ := bef_at (b := b) ha
    rw [h1, h2, spl_at ha]; exact ⟨rfl, by simp; omega⟩
theorem spl_end {c : UInt8} {s : List UInt8} (h : fnd c s = false) : spl c s = [bef c s] ∧ bef c s = s := by
  rcases cut_cases c s with hc | ⟨a, b, ha, rfl⟩
  · rw [(bef_no hc).1, spl_no hc]; exact ⟨rfl, rfl⟩
  · rw [(bef_at ha).2.2] at h; cases h
theorem beh_len (c : UInt8) (s : List UInt8) : (beh c s).length ≤ s.length := by unfold beh; simp
theorem bef_len (c : UInt8) (s : List UInt8) : (bef c s).length ≤ s.length := by unfold bef; simp; omega
theorem bx_drop (s : List UInt8) (a j : Nat) : bx (s.drop a) j = bx s (a + j) := by simp [bx, List.getD]
theorem spl_cut {c : UInt8} {s : List UInt8} {a k : Nat} (hak : a ≤ k) (hk : k < s.length) (h : ∀ j, a ≤ j → j < k → bx s j ≠ c) (he : bx s k = c) : spl c (s.drop a) = (s.drop a).take (k - a) :: spl c (s.drop (k + 1)) := by
  have hi : idx c (s.drop a) = k - a := idx_eq (by simp; omega) (fun j hj => by rw [bx_drop]; exact h _ (by omega) (by omega)) (.inr (by rw [bx_drop, show a + (k - a) = k by omega]; exact he))
  have := (spl_fnd (c := c) (s := s.drop a) (by unfold fnd; rw [hi]; simp; omega)).1
  rw [this]
  unfold bef beh
  rw [hi, List.drop_drop, show a + (k - a + 1) = k + 1 by omega]
theorem spl_last {c : UInt8} {s : List UInt8} {a : Nat} (ha : a ≤ s.length) (h : ∀ j, a ≤ j → j < s.length → bx s j ≠ c) : spl c (s.drop a) = [s.drop a] := by
  have hi : idx c (s.drop a) = (s.drop a).length := idx_eq (by simp) (fun j hj => by rw [bx_drop]; simp at hj; exact h _ (by omega) (by omega)) (.inl rfl)
  have := spl_end (c := c) (s := s.drop a) (by unfold fnd; rw [hi]; simp)
  rw [this.1, this.2]
theorem spl_mem_len (c : UInt8) (s : List UInt8) : ∀ w ∈ spl c s, w.length ≤ s.length := by
  induction s with
  | nil => simp [spl]
  | cons x r ih =>
    rw [spl_cons]
    split
    · intro w hw
      rcases List.mem_cons.1 hw with rfl | hw
      · simp
      · have := ih w hw; simp; omega
    · split
      · rename_i v ws h
        rw [h] at ih
        intro w hw
        rcases List.mem_cons.1 hw with rfl | hw
        · have := ih v (by simp); simp; omega
        · have := ih w (by simp [hw]); simp; omega
      · intro w hw; simp at hw; subst hw; simp

/-! ### lists of numbers -/
def decI (z : Int) : List UInt8 := dec z.toNat
theorem decI_nat (n : Nat) : decI (n : Int) = dec n := by simp [decI]
theorem decI_pos (z : Int) : 1 ≤ (decI z).length := dec_pos _
theorem vl_decI (z : Int) (h0 : 0 ≤ z) (h : z < 1000000000) : vl (decI z) = some z.toNat := vl_dec _ (by omega)
theorem vlI_decI (z : Int) (h0 : 0 ≤ z) (h : z < 1000000000) : vlI (decI z) = z := by rw [vlI_some (vl_decI z h0 h)]; omega
theorem decI_no (z : Int) (c : UInt8) (h : isD c = false) : c ∉ decI z := dec_no _ c h

def vls : List (List UInt8) → Option (List Int)
  | [] => some []
  | w :: ws => match vl w, vls ws with
    | some n, some l => some ((n : Int) :: l)
    | _, _ => none
theorem vls_cons {w : List UInt8} {ws : List (List UInt8)} {l : List Int} (h : vls (w :: ws) = some l) : ∃ n r, vl w = some n ∧ vls ws = some r ∧ l = (n : Int) :: r := by
  unfold vls at h
  split at h
  · rename_i n r h1 h2; exact ⟨n, r, h1, h2, (Option.some.inj h).symm⟩
  · cases h
theorem vls_some : ∀ {ws : List (List UInt8)} {l : List Int}, vls ws = some l → ws = l.map decI ∧ l.length = ws.length
  | [], l, h => by cases h; simp
  | w :: ws, l, h => by
    obtain ⟨n, r, h1, h2, rfl⟩ := vls_cons h
    have := vls_some h2
    simp [decI_nat, ← (vl_some h1).1, this.2]
    exact this.1
theorem vls_map : ∀ {l : List Int}, (∀ z ∈ l, 0 ≤ z ∧ z < 1000000000) → vls (l.map decI) = some l
  | [], _ => rfl
  | z :: l, h => by
    have hz := h z (by simp)
    have e := vls_map (l := l) (fun x hx => h x (by simp [hx]))
    show (match vl (decI z), vls (l.map decI) with | some n, some l => some ((n : Int) :: l) | _, _ => none) = _
    rw [vl_decI z hz.1 hz.2, e]
    simp; omega
theorem vls_snoc {ws : List (List UInt8)} {w : List UInt8} {l : List Int} {n : Nat} (h : vls ws = some l) (hw : vl w = some n) : vls (ws ++ [w]) = some (l ++ [(n : Int)]) := by
  induction ws generalizing l with
  | nil => cases h; show (match vl w, (some [] : Option (List Int)) with | some n, some l => some ((n : Int) :: l) | _, _ => none) = _; rw [hw]; rfl
  | cons v ws ih =>
    obtain ⟨m, r, h1, h2, rfl⟩ := vls_cons h
    show (match vl v, vls (ws ++ [w]) with | some n, some l => some ((n : Int) :: l) | _, _ => none) = _
    rw [h1, ih h2]; rfl
theorem vls_none {ws : List (List UInt8)} {w : List UInt8} (hm : w ∈ ws) (hw : vl w = none) : vls ws = none := by
  cases e : vls ws with
  | none => rfl
  | some l =>
    exfalso
    induction ws generalizing l with
    | nil => simp at hm
    | cons v ws ih =>
      obtain ⟨m, r, h1, h2, rfl⟩ := vls_cons e
      rcases List.mem_cons.1 hm with rfl | hm
      · rw [hw] at h1; cases h1
      · exact ih hm _ h2
theorem vls_getD_len (ws : List (List UInt8)) : ((vls ws).getD []).length ≤ ws.length := by
  cases h : vls ws with
  | none => simp
  | some l => rw [Option.getD_some, (vls_some h).2]; exact Nat.le_refl _

end Go.Proofs.YtdfhkkngbpidaaaDoor.Pl
