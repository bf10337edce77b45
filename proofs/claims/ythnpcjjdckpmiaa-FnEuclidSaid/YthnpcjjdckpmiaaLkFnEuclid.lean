/-
  The law FnEuclid returns true for every code.
  THE WALK THROUGH 'laws.FnEuclid', out of the contracts of what it calls.
-/
import Derived.Test.YthnpcjjdckpmiaaWlkF4
import Derived.Test.YthnpcjjdckpmiaaWlkL8
import Derived.Test.YthnpcjjdckpmiaaWlkR3
import Derived.Test.YthnpcjjdckpmiaaWlkA3
import Derived.Test.YthnpcjjdckpmiaaKitT
import Derived.Deep.CutRange
namespace Go.Proofs.Ythnpcjjdckpmiaa.fnEuclid
open Go.RowKit
set_option linter.unusedVariables false
open Pl K WA WL WF
theorem gx_cf (a b i : Nat) (h : i < (steps a b).length) : gx (cf a b) i = gx (gxx (steps a b) i) 0 := by
  have hl : i < (cf a b).length := by unfold cf; simpa using h
  rw [gx_eq _ _ hl, gxx_eq _ _ h]
  simp [cf, gx]
theorem qrr_take (S : List (List Int)) (k : Nat) (h : k < S.length) (q r : Int) (e : gxx S k = [q, r]) : qrr (S.take (k + 1)) = qrr (S.take k) + q * r * r := by
  rw [List.take_succ_eq_append_getElem h]
  rw [gxx_eq _ _ h] at e
  rw [e]
  simp [qrr]
theorem qrr_nonneg (S : List (List Int)) (h : ∀ s ∈ S, ∃ q r : Int, s = [q, r] ∧ 0 ≤ q ∧ 1 ≤ r) : 0 ≤ qrr S := by
  induction S with
  | nil => simp [qrr]
  | cons s t ih =>
    obtain ⟨q, r, e, h1, h2⟩ := h s (by simp)
    have := ih fun s hs => h s (by simp [hs])
    subst e
    have h3 : 0 ≤ q * r * r := Int.mul_nonneg (Int.mul_nonneg h1 (by omega)) (by omega)
    simp only [qrr, List.map_cons, List.sum_cons] at this ⊢
    simp [List.getD]
    simp [List.getD] at this
    omega
theorem qrr_split (S : List (List Int)) (k : Nat) : qrr S = qrr (S.take k) + qrr (S.drop k) := by
  conv => lhs; rw [← List.take_append_drop k S]
  simp only [qrr, List.map_append, List.sum_append]
theorem gcd_one {a b : Nat} (h : gcdI (a : Int) (b : Int) = 1) : Nat.gcd a b = 1 := by
  unfold gcdI at h
  have h3 : Int.gcd (a : Int) (b : Int) = 1 := by omega
  simpa [Int.gcd] using h3
theorem nv_negF {c d : Int} (h : (negF c d).2 = 0) (hl : (negF c d).1.length ≤ 64) : nv (negF c d).1 = (c, d, 0) := by
  unfold negF at h hl ⊢
  split
  · rename_i h1
    rw [if_pos h1] at h hl
    simp only [Bool.and_eq_true, decide_eq_true_eq] at h1
    obtain ⟨⟨hc, hd⟩, hlt⟩ := h1
    have hc' := isNat_bd hc
    have hd' := isNat_bd hd
    by_cases hg : gcdI c d = 1
    · rw [if_pos hg] at h hl ⊢
      cases hn : nf 1000 c.toNat d.toNat with
      | none => rw [hn] at h; cases h
      | some l =>
        rw [hn] at hl
        obtain ⟨cn, rfl⟩ := Int.eq_ofNat_of_zero_le (show 0 ≤ c by omega)
        obtain ⟨dn, rfl⟩ := Int.eq_ofNat_of_zero_le (show 0 ≤ d by omega)
        simp only [Int.toNat_natCast] at hn
        exact nv_nf 1000 cn dn l hn (by omega) (by omega) (by omega) (gcd_one hg) hl
    · rw [if_neg hg] at h; cases h
  · rename_i h1
    rw [if_neg h1] at h; cases h
/-- A fraction in a variable's two cells. -/
def Fp (w : World) (b : Nat) (x y : Int) : Prop := w.cell? ⟨b, 0, none⟩ = some (.int .i64 x) ∧ w.cell? ⟨b, 1, none⟩ = some (.int .i64 y)
theorem Fp.later {w w' : World} {b : Nat} {x y : Int} (h : Fp w b x y) (hb : Below w.heap.size w w') : Fp w' b x y :=
  ⟨(hb.cell (p := ⟨b, 0, none⟩) (World.block_lt_of_cell? w _ h.1)).trans h.1, (hb.cell (p := ⟨b, 1, none⟩) (World.block_lt_of_cell? w _ h.2)).trans h.2⟩
theorem Fp.alloc {w : World} {b : Nat} {x y : Int} (h : Fp w b x y) (o : Obj) : Fp (w.alloc o) b x y := ⟨cell_alloc h.1 o, cell_alloc h.2 o⟩
theorem Fp.new (w : World) (x y : Int) : Fp (w.alloc (.cells #[.int .i64 x, .int .i64 y] 35)) w.heap.size x y := ⟨by simp [go_sem], by simp [go_sem]⟩
theorem big_any (B : Nat) (v : Value) (n : Nat) (w : World) (h : IsY w B v n) : Calls Try.prog 4 #[v] w fun e w' => e = .returned (.bool (decide (4096 < n))) ∧ w = w' := by
  obtain ⟨A, c, rfl, hnc, hcm, hrd⟩ := h
  unfold maxLen at hcm
  clear hrd
  by_cases h : 4096 < n
  · have h' : (4096 : Int) < (n : Int) := by omega
    go_enter Try.func4, Try.ntmps4
    go_wp2
    go_ret
    exact ⟨ret_b (by simp [h]), rfl⟩
  · have h' : ¬ (4096 : Int) < (n : Int) := by omega
    go_enter Try.func4, Try.ntmps4
    go_wp2
    go_ret
    exact ⟨ret_b (by first | (simp; done) | simp [h]), rfl⟩
set_option maxRecDepth 16384 in
set_option maxHeartbeats 12800000 in
theorem walk (w : World) (v0 : Value) (n : Nat) (is0 : IsY w w.heap.size v0 n) :
    Calls Try.prog 3 #[v0] w fun e w' => e = .returned (.bool true) ∧ Below w.heap.size w w' := by
  have Hy := Lib.hid is0
  have hshape := is0
  obtain ⟨A0, c0, hv0, _, _, _⟩ := hshape
  subst hv0
  by_cases hbig : 4096 < n
  · have hbd : decide (4096 < n) = true := by simp [hbig]
    go_enter Try.func3, Try.ntmps3
    go_wp2_with fail
    refine (big_any _ _ n _ Hy.out).mono ?_
    rintro e w' ⟨rfl, rfl⟩
    rw [hbd]
    go_wp2
    go_ret
    exact ⟨rfl, Below.refl _ _⟩
  · have hbd : decide (4096 < n) = false := by simp [hbig]
    clear hbig is0
    go_enter Try.func3, Try.ntmps3
    go_wp2_with fail
    refine (big_any _ _ n _ Hy.out).mono ?_
    rintro e w' ⟨rfl, rfl⟩
    rw [hbd]
    go_wp2_with fail
    refine (DrawEuclidSteps_any _ _ n _ Hy.out (Nat.le_refl _)).mono ?_
    rintro e w1 ⟨a, b, rfl, hb1⟩
    obtain ⟨z, hz⟩ : ∃ z, Hid ((eucF a b).2 = z) := ⟨_, Lib.hid rfl⟩
    have hz9 := Lib.hid (show (cfF a b).2 = z by rw [← hz.out]; unfold eucF cfF; split <;> rfl)
    obtain ⟨N, HN5⟩ : ∃ N, Hid ((eucF a b).1.length = N) := ⟨_, Lib.hid rfl⟩
    have HN9 := Lib.hid (show (cfF a b).1.length = N by rw [← HN5.out]; unfold eucF cfF; split <;> simp [cf])
    have hN9 : N ≤ 1000000000 := by have := eucF_len a b; rw [HN5.out] at this; exact this
    go_wp2_with fail
    refine (EuclidSteps_any a b _).mono ?_
    rintro e w2 ⟨v5, rfl, o5, hb2⟩
    rw [hz.out]
    go_wp2_with fail
    refine (sEuclidSteps_any a b _).mono ?_
    rintro e w3 ⟨v7, rfl, o7, hb3⟩
    rw [hz.out]
    have o5b := o5.later hb3
    go_wp2_with fail
    refine (ContinuedFraction_any a b _).mono ?_
    rintro e w4 ⟨v9, rfl, o9, hb4⟩
    rw [hz9.out]
    have h5 := Lib.hid ((o5b.later hb4).is)
    have h7 := Lib.hid ((o7.later hb4).is)
    have h9 := Lib.hid o9.is
    have hbw4 := ((hb1.trans (hb2.mono hb1.size)).trans (hb3.mono (by have := hb1.size; have := hb2.size; omega))).trans (hb4.mono (by have := hb1.size; have := hb2.size; have := hb3.size; omega))
    have hs4 := hbw4.size
    obtain ⟨us5, hU5⟩ := h5.out
    obtain ⟨A5, c5, e5, hnc5, hcm5, hrd5⟩ := hU5.sh
    have He5 := Lib.hid hU5.each
    rw [HN5.out] at e5 hnc5 hrd5
    subst e5
    obtain ⟨us7, hU7⟩ := h7.out
    obtain ⟨A7, c7, e7, hnc7, hcm7, _⟩ := hU7.sh
    rw [HN5.out] at e7 hnc7
    subst e7
    obtain ⟨A9, n9, c9, e9, hnc9, hcm9, hrd9⟩ := h9.out
    obtain rfl : n9 = N := by have := hrd9.len; rw [HN9.out] at this; exact this.symm
    subst e9
    have Hrd9 := Lib.hid hrd9
    unfold maxLen at hcm5 hcm7 hcm9
    clear o5 o5b o7 o9 hb1 hb2 hb3 hb4 hU5 hU7 hrd9
    have hzz : (z != z) = false := by simp
    have hNN : ((n9 : Int) != (n9 : Int)) = false := by simp
    go_wp2_with fail
    refine (likeRows5_any _ _ _ _ (eucF a b).1 (eucF a b).1 _ h5.out h7.out (Nat.le_refl _) (Nat.le_refl _)).mono ?_
    rintro e w5 ⟨rfl, hb5⟩
    rw [show ((eucF a b).1 == (eucF a b).1) = true by simp]
    go_upto_if 82 with fail
    go_cut [11, 12, 13, 14, 15, 16] from 35 to 281 (fun _ _ _ _ _ _ wx => ∃ hc : Below w.heap.size w wx, True)
    case first =>
     as_aux_lemma =>
      have hbw5 := hbw4.trans (hb5.mono hs4)
      by_cases hz0 : z = 0
      · have hzb : (z == 0) = true := by simp [hz0]
        obtain ⟨an, bn, ha, hb, HS, HC⟩ : ∃ an bn : Nat, Hid (a = (an : Int) ∧ 1 ≤ an ∧ an ≤ 1000000000) ∧ Hid (b = (bn : Int) ∧ 1 ≤ bn ∧ bn ≤ 1000000000) ∧ Hid ((eucF a b).1 = steps an bn) ∧ Hid ((cfF a b).1 = cf an bn) := by
          have h1 := hz.out
          rw [hz0] at h1
          unfold eucF at h1 ⊢
          unfold cfF
          split at h1
          · rename_i h2
            simp only [Bool.and_eq_true] at h2
            have ha := isNat_bd h2.1
            have hb := isNat_bd h2.2
            refine ⟨a.toNat, b.toNat, Lib.hid (by omega), Lib.hid (by omega), Lib.hid ?_, Lib.hid ?_⟩
            · rw [h2.1, h2.2]; rfl
            · rw [h2.1, h2.2]; rfl
          · cases h1
        have ha1 : a = (an : Int) := ha.out.1
        have hb1 : b = (bn : Int) := hb.out.1
        subst ha1
        subst hb1
        have ha2 := ha.out.2
        have hb2 := hb.out.2
        rw [HS.out] at He5 HN5
        rw [HC.out] at Hrd9 h9
        have Hq := Lib.hid (steps_qrr bn an bn (Nat.le_refl _))
        have hab : 0 ≤ (an : Int) * (bn : Int) ∧ (an : Int) * (bn : Int) ≤ 1000000000000000000 := ⟨Int.mul_nonneg (by omega) (by omega), by have := Int.mul_le_mul (show (an : Int) ≤ 1000000000 by omega) (show (bn : Int) ≤ 1000000000 by omega) (by omega) (by omega); omega⟩
        have Hsh := Lib.hid (fun s (hs : s ∈ steps an bn) => by
          obtain ⟨q, r, e, h1, h2, _, _⟩ := steps_shape bn an bn (Nat.le_refl _) s hs
          exact (⟨q, r, e, h1, h2⟩ : ∃ q r : Int, s = [q, r] ∧ 0 ≤ q ∧ 1 ≤ r))
        have Hab := Lib.hid hab
        clear hz0 h5 h7
        go_wp2_with fail
        go_loopw [11, 12] (fun t i wr => ∃ k : Nat, k ≤ n9 ∧ i = .int .i64 (k : Int) ∧ t = .int .i64 (qrr ((steps an bn).take k)) ∧ Below w4.heap.size w4 wr) (fun _ i _ => n9 - (intOf i).toNat)
        case atStart => exact ⟨0, Nat.zero_le _, rfl, by simp [qrr], hb5⟩
        case round =>
         as_aux_lemma =>
          obtain ⟨k, hk, rfl, rfl, hbe⟩ := hrel
          by_cases hlt : k < n9
          · obtain ⟨a5, rfl, ha5, hc5⟩ := hrd5 (by omega)
            have hkS : k < (steps an bn).length := by rw [HN5.out]; exact hlt
            have hr5 : wr.cell? (a5.add k) = some (ux us5 k) := (hbe.cell (by rw [block_of_add]; exact ha5)).trans (hc5 k hlt)
            obtain ⟨Ak, nk, ck, euk, hnck, hcmk, hrdk⟩ := He5.out k hkS
            rw [euk] at hr5
            obtain ⟨q, r, eqr, hq0, hr1⟩ := Hsh.out (gxx (steps an bn) k) (gxx_mem _ _ hkS)
            have hnk : nk = 2 := by have := hrdk.len; rw [eqr] at this; simpa using this.symm
            subst hnk
            obtain ⟨ak, rfl, hak, hck⟩ := hrdk.pos (by omega)
            have hk0 : wr.cell? ak = some (.int .i64 q) := (hbe.cell hak).trans (by have := hck 0 (by omega); rw [eqr] at this; simpa [Addr.add, gx] using this)
            have hk1 : wr.cell? ⟨ak.block, ak.off + 1, none⟩ = some (.int .i64 r) := (hbe.cell (p := ⟨ak.block, ak.off + 1, none⟩) hak).trans (by have := hck 1 (by omega); rw [eqr] at this; simpa [Addr.add, gx] using this)
            obtain ⟨a9, rfl, ha9, hc9⟩ := Hrd9.out.pos (by omega)
            have hk9 : wr.cell? (a9.add k) = some (.int .i64 q) := (hbe.cell (by rw [block_of_add]; exact ha9)).trans (by rw [hc9 k hlt, gx_cf an bn k hkS, eqr]; rfl)
            have hik : 0 ≤ (k : Int) ∧ (k : Int) < (n9 : Int) := by omega
            have hqq : (q != q) = false := by simp
            have h22 : ((2 : Int) != 2) = false := rfl
            have Hs := Lib.hid (qrr_take (steps an bn) k hkS q r eqr)
            have hT0 := qrr_nonneg ((steps an bn).take k) (fun s hs => Hsh.out s (List.mem_of_mem_take hs))
            have hT1 : qrr ((steps an bn).take k) + q * r * r ≤ 1000000000000000000 := by
              have h1 := qrr_split (steps an bn) (k + 1)
              have h2 := qrr_nonneg ((steps an bn).drop (k + 1)) (fun s hs => Hsh.out s (List.mem_of_mem_drop hs))
              have h3 := Hq.out
              have h4 := Hab.out
              rw [Hs.out] at h1
              omega
            have hqr : 0 ≤ q * r := Int.mul_nonneg hq0 (by omega)
            have hqrr : q * r ≤ q * r * r := by have := Int.mul_le_mul_of_nonneg_left hr1 hqr; omega
            have hw1 : IntKind.i64.wrap (q * r) = q * r := IntWalk.i64_in _ (by omega)
            have hw2 : IntKind.i64.wrap (q * r * r) = q * r * r := IntWalk.i64_in _ (by omega)
            have hw3 : IntKind.i64.wrap (qrr ((steps an bn).take k) + q * r * r) = qrr ((steps an bn).take k) + q * r * r := IntWalk.i64_in _ (by omega)
            unfold maxLen at hcmk
            clear hc5 euk hck hrdk hc9 eqr
            go_wp2_with fail
            go_quiet (fail)
            obtain ⟨w7, hw7⟩ : ∃ w7, w7 = wr.drewN nq := ⟨_, rfl⟩
            rw [← hw7]
            have hr5 : w7.cell? (a5.add k) = some (.slice (some ak) 2 ck) := by rw [hw7]; exact hr5
            have hk0 : w7.cell? ak = some (.int .i64 q) := by rw [hw7]; exact hk0
            have hk1 : w7.cell? ⟨ak.block, ak.off + 1, none⟩ = some (.int .i64 r) := by rw [hw7]; exact hk1
            have hbed : Below w4.heap.size w4 w7 := by rw [hw7]; exact below_drewN hbe nq
            clear hw7 hbe
            go_wp2_with fail
            go_quiet (fail)
            have hbef := below_drewN hbed nq
            rw [← Hs.out]
            clear hw1 hw2 hw3 hqrr hqr hT1
            go_wp2
            go_roundw
            case rel => exact ⟨k + 1, by omega, by go_num, rfl, hbef⟩
            case measure => first | (simp [intOf]; done) | (simp [intOf]; omega)
          · obtain rfl : k = n9 := by omega
            have hall : (steps an bn).take k = steps an bn := List.take_of_length_le (by rw [HN5.out]; exact Nat.le_refl _)
            rw [hall, Hq.out]
            have hab := Hab.out
            have hcdv := Lib.hid (show cdv (an : Int) (bn : Int) = (gcdI (an : Int) (bn : Int), 0) by
              unfold cdv
              rw [isInt_true.2 (by omega), isInt_true.2 (by omega)]; rfl)
            have hfv := Lib.hid (fv_cf an bn (by omega) (by omega) (by omega))
            obtain ⟨hV1, hV2, hV3, hV4⟩ := V_cf bn an bn (Nat.le_refl _) (.inl (by omega))
            have hbwr := hbw4.trans (hbe.mono hs4)
            have hsr := hbe.size
            have h9r := Lib.hid (h9.out.below hbe)
            clear hall hrd5
            go_wp2_with fail
            refine (CommonDivisor_any (an : Int) (bn : Int) _).mono ?_
            rintro e w7 ⟨rfl, hb7⟩
            rw [hcdv.out]
            go_wp2_with fail
            refine (FractionValue_any w4.heap.size _ (cf an bn) _ (h9r.out.below (hb7.mono hsr)) (by have := hb7.size; omega)).mono ?_
            rintro e w8 ⟨rfl, hb8⟩
            rw [hfv.out]
            have hb98 := (hbwr.trans (hb7.mono hbwr.size)).trans (hb8.mono (by have := hbwr.size; have := hb7.size; omega))
            generalize (V (cf an bn)).1 = x1 at hV1 hV3 ⊢
            generalize (V (cf an bn)).2 = x2 at hV2 hV4 ⊢
            generalize gcdI (an : Int) (bn : Int) = g at hV1 hV2 ⊢
            have hbn : ∀ o, Below w.heap.size w (w8.alloc o) := fun o => hb98.alloc hb98.size o
            have ht1 : ((an : Int) * (bn : Int) != (an : Int) * (bn : Int)) = false := by simp
            have ht2 : (x1 * g != (an : Int)) = false := by simp [hV1]
            have ht3 : (x2 * g != (bn : Int)) = false := by simp [hV2]
            have hwa : IntKind.i64.wrap (x1 * g) = x1 * g := IntWalk.i64_in _ (by omega)
            have hwb : IntKind.i64.wrap (x2 * g) = x2 * g := IntWalk.i64_in _ (by omega)
            clear hb7 hb8 hb98 hbe hbwr
            go_wp2_with fail
            go_meet
            exact ⟨hbn _, trivial⟩
      · have hzb : (z == 0) = false := by rw [beq_eq_false_iff_ne]; exact hz0
        go_wp2
        go_meet
        exact ⟨hbw5, trivial⟩
    case rest =>
     as_aux_lemma =>
      obtain ⟨hbc, _⟩ := hcut
      clear hbw4 hs4 hrd5 He5 Hrd9 h5 h7 h9 HN5 HN9 hz hz9
      obtain ⟨w0, hw0⟩ : ∃ w0, w0 = wc := ⟨_, rfl⟩
      rw [← hw0] at hbc ⊢
      clear hw0
      have hs0 := hbc.size
      go_wp2_with fail
      refine (DrawNegativeFraction_any w.heap.size _ n _ (Hy.out.below hbc) hs0).mono ?_
      rintro e w1' ⟨c, d, rfl, hb1⟩
      obtain ⟨z, hz⟩ : ∃ z, Hid ((negF c d).2 = z) := ⟨_, Lib.hid rfl⟩
      obtain ⟨N, HN⟩ : ∃ N, Hid ((negF c d).1.length = N) := ⟨_, Lib.hid rfl⟩
      have hN9 : N ≤ 1000 := by rw [← HN.out]; exact negF_len c d
      go_wp2_with fail
      refine (NegativeFraction_any c d _).mono ?_
      rintro e w2' ⟨v19, rfl, o19, hb2⟩
      rw [hz.out]
      go_wp2_with fail
      refine (sNegativeFraction_any c d _).mono ?_
      rintro e w3' ⟨v21, rfl, o21, hb3⟩
      rw [hz.out]
      have o19b := o19.later hb3
      have hbw1 := hbc.trans (hb1.mono hs0)
      have hbw2 := hbw1.trans (hb2.mono hbw1.size)
      have hbw3 := hbw2.trans (hb3.mono hbw2.size)
      obtain ⟨A19, c19, rfl, hc191, hc192⟩ := o19b.shape
      obtain ⟨A21, c21, rfl, hc211, hc212⟩ := o21.shape
      have h19 := Lib.hid o19b.is
      have h21 := Lib.hid o21.is
      rw [HN.out] at h19 h21 hc191 hc211 ⊢
      clear o19 o19b o21 hb1 hb2 hb3 hbw1 hbw2
      have hzz : (z != z) = false := by simp
      go_wp2_with fail
      refine (likeInts_any _ _ _ _ (negF c d).1 (negF c d).1 _ h19.out h21.out (Nat.le_refl _) (Nat.le_refl _)).mono ?_
      rintro e w4' ⟨rfl, hb4⟩
      rw [show ((negF c d).1 == (negF c d).1) = true by simp]
      have hbw4 := hbw3.trans (hb4.mono hbw3.size)
      have hs3 := hbw3.size
      have h19b := Lib.hid (h19.out.below hb4)
      have hs4 := hb4.size
      clear hb4 hbw3
      go_upto_region 26 with fail
      go_cut [202] from 35 to 281 (fun t wx => t = .bool (decide (z = 0 ∧ N ≤ 64)) ∧ wx = w4')
      case first =>
        by_cases hz0 : z = 0
        · have hzb : (z == 0) = true := by simp [hz0]
          by_cases h64 : N ≤ 64
          · have h64' : (N : Int) ≤ 64 := by omega
            have hdd : decide (z = 0 ∧ N ≤ 64) = true := by simp [hz0, h64]
            clear hz0
            go_wp2
            go_meet
            exact ⟨by rw [hdd], rfl⟩
          · have h64' : ¬ (N : Int) ≤ 64 := by omega
            have hdd : decide (z = 0 ∧ N ≤ 64) = false := by simp [h64]
            clear hz0
            go_wp2
            go_meet
            exact ⟨by rw [hdd], rfl⟩
        · have hzb : (z == 0) = false := by rw [beq_eq_false_iff_ne]; exact hz0
          have hdd : decide (z = 0 ∧ N ≤ 64) = false := by simp [hz0]
          clear hz0
          go_wp2
          go_meet
          exact ⟨by rw [hdd], rfl⟩
      case rest =>
      obtain ⟨rfl, hwc⟩ := hcut
      rw [hwc]
      clear hwc
      obtain ⟨bt, hbt⟩ : ∃ bt, Hid (decide (z = 0 ∧ N ≤ 64) = bt) := ⟨_, Lib.hid rfl⟩
      rw [hbt.out]
      go_upto_if 202 with fail
      go_cut [23, 24] from 35 to 281 (fun _ _ wx => ∃ hc : Below w.heap.size w wx, True)
      case first =>
        cases bt
        · go_wp2
          go_meet
          exact ⟨hbw4, trivial⟩
        · have hb0 := of_decide_eq_true hbt.out
          have hnv := Lib.hid (nv_negF (c := c) (d := d) (by rw [hz.out]; exact hb0.1) (by rw [HN.out]; exact hb0.2))
          clear hb0
          go_wp2_with fail
          refine (NegativeValue_any _ _ (negF c d).1 _ h19b.out hs4).mono ?_
          rintro e w5' ⟨rfl, hb5⟩
          rw [hnv.out]
          have hb6 := hbw4.trans (hb5.mono hbw4.size)
          have hbn : ∀ o, Below w.heap.size w (w5'.alloc o) := fun o => hb6.alloc hb6.size o
          have hcc : (c != c) = false := by simp
          have hdd : (d != d) = false := by simp
          clear hb5 hb6 hbw4
          go_wp2_with fail
          go_meet
          exact ⟨hbn _, trivial⟩
      case rest =>
       as_aux_lemma =>
        obtain ⟨hbd2, _⟩ := hcut
        clear hbw4 hs4 h19 h19b h21 hbc hs0
        obtain ⟨w0', hw0⟩ : ∃ w0', w0' = wc := ⟨_, rfl⟩
        rw [← hw0] at hbd2 ⊢
        clear hw0
        have hs0 := hbd2.size
        go_wp2_with fail
        refine (DrawNegativeValue_any w.heap.size _ n _ (Hy.out.below hbd2) hs0).mono ?_
        rintro e u1 ⟨v25, xs, rfl, o25, hl25, hb1⟩
        obtain ⟨A25, c25, rfl, _, _⟩ := o25.shape
        have i25 := Lib.hid o25.is
        have k1 := hbd2.trans (hb1.mono hs0)
        clear o25 hb1 hbd2
        have s1 := k1.size
        go_wp2_with fail
        refine (NegativeValue_any _ _ xs _ i25.out (Nat.le_refl _)).mono ?_
        rintro e u2 ⟨rfl, hb2⟩
        obtain ⟨r0, hr0⟩ : ∃ r0, Hid ((nv xs).1 = r0) := ⟨_, Lib.hid rfl⟩
        obtain ⟨r1, hr1⟩ : ∃ r1, Hid ((nv xs).2.1 = r1) := ⟨_, Lib.hid rfl⟩
        obtain ⟨r2, hr2⟩ : ∃ r2, Hid ((nv xs).2.2 = r2) := ⟨_, Lib.hid rfl⟩
        rw [hr0.out, hr1.out, hr2.out]
        have hA1 := Lib.hid (fun o => hb2.alloc (o := o) (by have := hb2.size; omega))
        have k2 := Lib.hid (fun o => (k1.trans (hb2.mono s1)).alloc (o := o) (by have := hb2.size; omega))
        go_wp2_with fail
        refine (sNegativeValue_any _ _ xs _ (i25.out.below (hA1.out _)) (by have := (hA1.out (.cells #[.int .i64 r0, .int .i64 r1] 35)).size; simpa using this)).mono ?_
        rintro e u3 ⟨rfl, hb3⟩
        rw [hr0.out, hr1.out, hr2.out]
        have k3 := Lib.hid ((k2.out (.cells #[.int .i64 r0, .int .i64 r1] 35)).trans (hb3.mono (k2.out _).size))
        have F2 := Lib.hid (show Fp u3 u2.heap.size r0 r1 from (Fp.new u2 r0 r1).later hb3)
        have s3 := k3.out.size
        clear hb2 hb3 hA1 k1 k2 i25
        have k3a := Lib.hid (fun o => k3.out.alloc (o := o) s3)
        have F2a := Lib.hid (fun o => F2.out.alloc o)
        go_wp2_with fail
        refine (DrawFractionValue_any w.heap.size _ n _ (Hy.out.below (k3a.out _)) (k3a.out (.cells #[.int .i64 r0, .int .i64 r1] 35)).size).mono ?_
        rintro e u4 ⟨v30, ys, rfl, o30, hl30, hb4⟩
        obtain ⟨A30, c30, rfl, _, _⟩ := o30.shape
        have i30 := Lib.hid o30.is
        have k4 := Lib.hid ((k3a.out (.cells #[.int .i64 r0, .int .i64 r1] 35)).trans (hb4.mono (k3a.out _).size))
        have F4 := Lib.hid ((F2a.out (.cells #[.int .i64 r0, .int .i64 r1] 35)).later hb4)
        have G4 := Lib.hid ((Fp.new u3 r0 r1).later hb4)
        clear o30 hb4 k3a F2a F2 k3
        go_wp2_with fail
        refine (FractionValue_any _ _ ys _ i30.out (Nat.le_refl _)).mono ?_
        rintro e u5 ⟨rfl, hb5⟩
        obtain ⟨q0, hq0⟩ : ∃ q0, Hid ((fv ys).1 = q0) := ⟨_, Lib.hid rfl⟩
        obtain ⟨q1, hq1⟩ : ∃ q1, Hid ((fv ys).2.1 = q1) := ⟨_, Lib.hid rfl⟩
        obtain ⟨q2, hq2⟩ : ∃ q2, Hid ((fv ys).2.2 = q2) := ⟨_, Lib.hid rfl⟩
        rw [hq0.out, hq1.out, hq2.out]
        have k5 := Lib.hid (k4.out.trans (hb5.mono k4.out.size))
        have k5a := Lib.hid (fun o => k5.out.alloc (o := o) k5.out.size)
        have F5a := Lib.hid (fun o => (F4.out.later hb5).alloc o)
        have G5a := Lib.hid (fun o => (G4.out.later hb5).alloc o)
        have i5a := Lib.hid (fun o => i30.out.below (hb5.alloc (o := o) hb5.size))
        have z5 := hb5.size
        clear hb5 F4 G4 k4 i30
        go_wp2_with fail
        refine (sFractionValue_any u4.heap.size _ ys _ (i5a.out _) (by simp; omega)).mono ?_
        rintro e u6 ⟨rfl, hb6⟩
        rw [hq0.out, hq1.out, hq2.out]
        have k6 := Lib.hid ((k5a.out (.cells #[.int .i64 q0, .int .i64 q1] 35)).trans (hb6.mono (k5a.out _).size))
        have F6 := ((F5a.out (.cells #[.int .i64 q0, .int .i64 q1] 35)).later hb6)
        have G6 := ((G5a.out (.cells #[.int .i64 q0, .int .i64 q1] 35)).later hb6)
        have H6 := ((Fp.new u5 q0 q1).later hb6)
        have f1 := fun o => cell_alloc F6.1 o
        have f2 := fun o => cell_alloc F6.2 o
        have g1 := fun o => cell_alloc G6.1 o
        have g2 := fun o => cell_alloc G6.2 o
        have h1 := fun o => cell_alloc H6.1 o
        have h2 := fun o => cell_alloc H6.2 o
        have k7 := Lib.hid (fun o => k6.out.alloc (o := o) k6.out.size)
        have e0 : (r0 == r0) = true := by simp
        have e1 : (r1 == r1) = true := by simp
        have e2 : (r2 == r2) = true := by simp
        have e3 : (q0 == q0) = true := by simp
        have e4 : (q1 == q1) = true := by simp
        have e5 : (q2 == q2) = true := by simp
        clear hb6 F6 G6 H6 k5 k5a F5a G5a i5a k6
        go_wp2
        go_ret
        exact ⟨rfl, k7.out _⟩
end Go.Proofs.Ythnpcjjdckpmiaa.fnEuclid
