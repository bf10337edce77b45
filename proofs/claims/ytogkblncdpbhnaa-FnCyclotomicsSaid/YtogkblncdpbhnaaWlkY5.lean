/-
  WALKS, CHAPTER 2: the program's totients and the signs.
-/
import Derived.Test.YtogkblncdpbhnaaWlkY3
namespace Go.Proofs.Ytogkblncdpbhnaa
open Go.RowKit
set_option linter.unusedVariables false
namespace WY
open K Pl WA
theorem facG_mem : ∀ (f p n : Nat), 2 ≤ p → 1 ≤ n → ∀ x, x ∈ facG f p n → 2 ≤ x.1 ∧ x.1 ≤ n ∧ 1 ≤ x.2
  | 0, _, _, _, _, x, hx => by cases hx
  | f + 1, p, n, hp, hn, x, hx => by
    by_cases h1 : 1 < n
    · by_cases h2 : n < p * p
      · rw [facG_last h1 h2] at hx
        obtain rfl := List.mem_singleton.1 hx
        exact ⟨h1, Nat.le_refl _, Nat.le_refl _⟩
      · have hX1 := expG_pos 12 p n hn hp
        have hX2 := expG_le 12 p n
        by_cases h3 : (expG 12 p n).2 = 0
        · rw [facG_skip h1 h2 h3] at hx
          have := facG_mem f (p + 1) _ (by omega) hX1 x hx
          omega
        · rw [facG_take h1 h2 h3] at hx
          rcases List.mem_cons.1 hx with rfl | hx
          · refine ⟨hp, ?_, by show 1 ≤ (expG 12 p n).2; omega⟩
            show p ≤ n
            rcases Nat.eq_zero_or_pos p with h | h
            · omega
            · have : p * 1 ≤ p * p := Nat.mul_le_mul (Nat.le_refl _) h
              omega
          · have := facG_mem f (p + 1) _ (by omega) hX1 x hx
            omega
    · obtain rfl : n = 1 := by omega
      rw [facG_one] at hx; cases hx
theorem facG_length : ∀ (f p n : Nat), (facG f p n).length ≤ f
  | 0, _, _ => Nat.le_refl _
  | f + 1, p, n => by
    by_cases h1 : 1 < n
    · by_cases h2 : n < p * p
      · rw [facG_last h1 h2]; simp
      · by_cases h3 : (expG 12 p n).2 = 0
        · rw [facG_skip h1 h2 h3]; have := facG_length f (p + 1) (expG 12 p n).1; omega
        · rw [facG_take h1 h2 h3]; have := facG_length f (p + 1) (expG 12 p n).1; simp; omega
    · by_cases h : n = 1
      · rw [h, facG_one]; simp
      · have : n = 0 := by omega
        subst this
        exact Nat.zero_le _
theorem rowsF_at {w : World} {B n c k : Nat} {A : Option Addr} {us : List Value} {l : List (Nat × Nat)} (h : IsU w B (.slice A n c) us (rowsF l)) (hk : k < l.length) :
    ∃ ad ak ck, A = some ad ∧ ad.block < B ∧ w.cell? (ad.add k) = some (.slice (some ak) 2 ck) ∧ 2 ≤ ck ∧ ck ≤ 9223372036854775807 ∧ ak.block < B ∧ w.cell? ak = some (.int .i64 (l[k].1 : Int)) ∧ w.cell? ⟨ak.block, ak.off + 1, none⟩ = some (.int .i64 (l[k].2 : Int)) := by
  obtain ⟨A', c', e, h1, h2, h3⟩ := h.sh
  cases e
  have hk' : k < (rowsF l).length := by rw [rowsF_len]; exact hk
  obtain ⟨ad, rfl, hab, hc⟩ := h3 (by omega)
  obtain ⟨Ak, nk, ck, euk, hnck, hcmk, hrdk⟩ := h.each k hk'
  have hg : gxx (rowsF l) k = [(l[k].1 : Int), (l[k].2 : Int)] := by
    rw [gxx_eq _ _ hk']; simp [rowsF]
  have hln := hrdk.len
  rw [hg] at hln
  obtain rfl : nk = 2 := by simp at hln; omega
  obtain ⟨ak, rfl, habk, hck⟩ := hrdk.pos (by omega)
  have hc1 := hc k hk'
  rw [euk] at hc1
  have h0 := hck 0 (by omega)
  have h4 := hck 1 (by omega)
  rw [hg] at h0 h4
  unfold maxLen at hcmk
  exact ⟨ad, ak, ck, rfl, hab, hc1, hnck, hcmk, habk, by simpa [Addr.add, gx] using h0, by simpa [Addr.add, gx] using h4⟩
theorem cell_heap {w w' : World} (h : w'.heap = w.heap) (a : Addr) : w'.cell? a = w.cell? a := by unfold World.cell?; rw [h]
theorem totL_step {T o k : Nat} {l : List (Nat × Nat)} (h : totL o (l.drop k) = T) (hk : k < l.length) : totL (o / l[k].1 * (l[k].1 - 1)) (l.drop (k + 1)) = T := by
  rw [List.drop_eq_getElem_cons hk] at h; exact h
set_option maxHeartbeats 1600000 in
theorem totient_any (n0 : Nat) (w : World) (h1 : 1 ≤ n0) (h2 : n0 ≤ 2000) : Calls Try.prog 27 #[.int .i64 n0] w fun e w' => e = .returned (.int .i64 (totN n0 : Int)) ∧ Below w.heap.size w w' := by
  have Hmem := Lib.hid (facG_mem 50 2 n0 (Nat.le_refl _) h1)
  have hlen := facG_length 50 2 n0
  have HT := Lib.hid (show totL n0 ((facG 50 2 n0).drop 0) = totN n0 from rfl)
  generalize totN n0 = T at HT ⊢
  go_enter Try.func27, Try.ntmps27
  go_wp2_with fail
  refine (factorsOf_any _ _ h1 h2).mono ?_
  rintro e w1 ⟨v, rfl, own, hb1⟩
  generalize facG 50 2 n0 = l at *
  obtain ⟨us, hU⟩ := own
  have His := Lib.hid hU.isB
  obtain ⟨A, c, rfl, hnc, hcm⟩ := own_shape hU.row
  have hbe1 := Lib.hid hb1
  rw [rowsF_len] at *
  generalize hm : l.length = m at *
  have Hm := Lib.hid hm
  clear hm hU hb1
  go_wp2_with fail
  go_loopw [3, 10] (fun a b wr => ∃ (o k : Nat), a = .int .i64 o ∧ b = .int .i64 k ∧ o ≤ n0 ∧ k ≤ m ∧ Hid (totL o (l.drop k) = T) ∧ Hid (wr.heap = w1.heap) ∧ Below w.heap.size w wr) (fun _ b _ => m - (intOf b).toNat)
  case atStart => exact ⟨n0, 0, rfl, rfl, Nat.le_refl _, Nat.zero_le _, HT, Lib.hid rfl, hbe1.out⟩
  case round =>
    obtain ⟨o, k, rfl, rfl, ho, hk, ht, hh, hbe⟩ := hrel
    by_cases hlt : k < m
    · have hkl : k < l.length := by rw [Hm.out]; exact hlt
      obtain ⟨ad, ak, ck, rfl, hab, hc1, hnck, hcmk, habk, hk0, hk1⟩ := rowsF_at His.out hkl
      have Hk0 := Lib.hid (show wr.cell? ak = some (.int .i64 (l[k].1 : Int)) from (cell_heap hh.out _).trans hk0)
      have hc2 : wr.cell? (ad.add k) = some (.slice (some ak) 2 ck) := (cell_heap hh.out _).trans hc1
      obtain ⟨hp2, hpn, _⟩ := Hmem.out _ (List.getElem_mem hkl)
      have Ht := Lib.hid (totL_step ht.out hkl)
      clear ht hk0 hk1 hc1
      obtain ⟨p, hp⟩ : ∃ p, p = l[k].1 := ⟨_, rfl⟩
      rw [← hp] at Hk0 hp2 hpn Ht
      clear hp
      have hk0 := Hk0.out
      have hp0 : (p : Int) ≠ 0 := by omega
      have hq : (o : Int).tdiv (p : Int) = ((o / p : Nat) : Int) := (Int.ofNat_tdiv o p).symm
      have hle : o / p * (p - 1) ≤ o := Nat.le_trans (Nat.mul_le_mul_left _ (Nat.sub_le p 1)) (Nat.div_mul_le_self o p)
      have hmul : ((o / p : Nat) : Int) * ((p : Int) - 1) = ((o / p * (p - 1) : Nat) : Int) := by
        rw [Int.natCast_mul, Int.natCast_sub (by omega)]; rfl
      have hqo : o / p ≤ o := Nat.div_le_self o p
      have hi1 : 0 ≤ (k : Int) ∧ (k : Int) < (m : Int) := by omega
      generalize o / p * (p - 1) = o' at *
      generalize o / p = q at *
      go_wp2_with fail
      go_quiet (fail)
      go_wp2_with fail
      go_roundw
      case rel => exact ⟨o', k + 1, rfl, by go_num, by omega, by omega, Ht, Lib.hid hh.out, below_drewN hbe _⟩
      case measure => first | (simp [intOf]; done) | (simp [intOf]; omega)
    · have hT : o = T := by
        have := ht.out
        rwa [List.drop_eq_nil_of_le (by rw [Hm.out]; omega)] at this
      clear ht
      subst hT
      go_wp2_with fail
      go_ret
      exact ⟨rfl, hbe⟩
/-- The sign that 0, 1, 2 stand for. -/
def sgC (c : Nat) : Int := if c = 0 then 0 else if c = 1 then 1 else -1
theorem mobL_big {x : Nat × Nat} {r : List (Nat × Nat)} (h : 1 < x.2) : mobL (x :: r) = 0 := by
  show (bif Nat.ble x.2 1 then _ else 0) = 0
  rw [ble_f (by omega)]; rfl
theorem mobL_one {x : Nat × Nat} {r : List (Nat × Nat)} (h : ¬ 1 < x.2) : mobL (x :: r) = if mobL r = 0 then 0 else 3 - mobL r := by
  show (bif Nat.ble x.2 1 then (bif mobL r == 0 then 0 else 3 - mobL r) else 0) = _
  rw [ble_t (by omega)]
  by_cases h0 : mobL r = 0
  · rw [h0]; rfl
  · rw [bne0 h0, if_neg h0]; rfl
theorem mobL_le : ∀ l, mobL l ≤ 2
  | [] => by show 1 ≤ 2; omega
  | x :: r => by
    by_cases h : 1 < x.2
    · rw [mobL_big h]; omega
    · rw [mobL_one h]; have := mobL_le r; split <;> omega
theorem sg_step {S : Int} {s : Int} {k : Nat} {l : List (Nat × Nat)} (h : s * sgC (mobL (l.drop k)) = S) (hk : k < l.length) (h2 : ¬ 1 < l[k].2) : (-s) * sgC (mobL (l.drop (k + 1))) = S := by
  rw [List.drop_eq_getElem_cons hk, mobL_one h2] at h
  have hl := mobL_le (l.drop (k + 1))
  rw [← h]
  generalize mobL (l.drop (k + 1)) = m at *
  obtain rfl | rfl | rfl : m = 0 ∨ m = 1 ∨ m = 2 := by omega
  · simp [sgC]
  · simp [sgC]
  · simp [sgC]
theorem sg_zero {S : Int} {s : Int} {k : Nat} {l : List (Nat × Nat)} (h : s * sgC (mobL (l.drop k)) = S) (hk : k < l.length) (h2 : 1 < l[k].2) : S = 0 := by
  rw [List.drop_eq_getElem_cons hk, mobL_big h2] at h
  rw [← h]; simp [sgC]
set_option maxHeartbeats 1600000 in
theorem mobius_any (n0 : Nat) (w : World) (h1 : 1 ≤ n0) (h2 : n0 ≤ 2000) : Calls Try.prog 54 #[.int .i64 n0] w fun e w' => e = .returned (.int .i64 (sgC (mobC n0))) ∧ Below w.heap.size w w' := by
  have Hmem := Lib.hid (facG_mem 50 2 n0 (Nat.le_refl _) h1)
  have hlen := facG_length 50 2 n0
  have HT := Lib.hid (show 1 * sgC (mobL ((facG 50 2 n0).drop 0)) = sgC (mobC n0) by rw [Int.one_mul]; rfl)
  generalize sgC (mobC n0) = T at HT ⊢
  go_enter Try.func54, Try.ntmps54
  go_wp2_with fail
  refine (factorsOf_any _ _ h1 h2).mono ?_
  rintro e w1 ⟨v, rfl, own, hb1⟩
  generalize facG 50 2 n0 = l at *
  obtain ⟨us, hU⟩ := own
  have His := Lib.hid hU.isB
  obtain ⟨A, c, rfl, hnc, hcm⟩ := own_shape hU.row
  have hbe1 := Lib.hid hb1
  rw [rowsF_len] at *
  generalize hm : l.length = m at *
  have Hm := Lib.hid hm
  clear hm hU hb1
  go_wp2_with fail
  go_loopw [3, 9] (fun a b wr => ∃ (s : Int) (k : Nat), a = .int .i64 s ∧ b = .int .i64 k ∧ (s = 1 ∨ s = -1) ∧ k ≤ m ∧ Hid (s * sgC (mobL (l.drop k)) = T) ∧ Hid (wr.heap = w1.heap) ∧ Below w.heap.size w wr) (fun _ b _ => m - (intOf b).toNat)
  case atStart => exact ⟨1, 0, rfl, rfl, .inl rfl, Nat.zero_le _, HT, Lib.hid rfl, hbe1.out⟩
  case round =>
    obtain ⟨s, k, rfl, rfl, hs, hk, ht, hh, hbe⟩ := hrel
    by_cases hlt : k < m
    · have hkl : k < l.length := by rw [Hm.out]; exact hlt
      obtain ⟨ad, ak, ck, rfl, hab, hc1, hnck, hcmk, habk, hk0, hk1⟩ := rowsF_at His.out hkl
      have Hk1 := Lib.hid (show wr.cell? ⟨ak.block, ak.off + 1, none⟩ = some (.int .i64 (l[k].2 : Int)) from (cell_heap hh.out _).trans hk1)
      have hc2 : wr.cell? (ad.add k) = some (.slice (some ak) 2 ck) := (cell_heap hh.out _).trans hc1
      have hi1 : 0 ≤ (k : Int) ∧ (k : Int) < (m : Int) := by omega
      clear hk0 hk1 hc1
      by_cases he : 1 < l[k].2
      · have Ht := Lib.hid (sg_zero ht.out hkl he)
        clear ht
        obtain ⟨p, hp⟩ : ∃ p, p = l[k].2 := ⟨_, rfl⟩
        rw [← hp] at Hk1 he
        clear hp
        have hk1 := Hk1.out
        have t1 : (1 : Int) < (p : Int) := by omega
        go_wp2_with fail
        go_ret
        exact ⟨ret_i Ht.out.symm, hbe⟩
      · have Ht := Lib.hid (sg_step ht.out hkl he)
        clear ht
        obtain ⟨p, hp⟩ : ∃ p, p = l[k].2 := ⟨_, rfl⟩
        rw [← hp] at Hk1 he
        clear hp
        have hk1 := Hk1.out
        have t1 : ¬ (1 : Int) < (p : Int) := by omega
        go_wp2_with fail
        go_roundw
        case rel => exact ⟨-s, k + 1, rfl, by go_num, by omega, by omega, Ht, hh, hbe⟩
        case measure => first | (simp [intOf]; done) | (simp [intOf]; omega)
    · have hT : s = T := by
        have := ht.out
        rw [List.drop_eq_nil_of_le (by rw [Hm.out]; omega)] at this
        rw [← this]; show s = s * 1; omega
      clear ht
      subst hT
      go_wp2_with fail
      go_ret
      exact ⟨rfl, hbe⟩
end WY
end Go.Proofs.Ytogkblncdpbhnaa
