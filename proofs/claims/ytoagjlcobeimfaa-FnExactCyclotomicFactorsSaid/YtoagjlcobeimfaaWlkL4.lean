/-
  WALKS, THE STATEMENTS' OWN HELPERS OVER [][]int64: eqInt64SS, markInt64SS, heldInt64SS, toInt64SS.
-/
import Derived.Test.YtoagjlcobeimfaaKitR
import Derived.Test.YtoagjlcobeimfaaWlkL1
namespace Go.Proofs.Ytoagjlcobeimfaa
open Go.RowKit
set_option linter.unusedVariables false
namespace WL
open K Pl
theorem Is.drewN {w : World} {B : Nat} {v : Value} {xs : List Int} (h : Is w B v xs) (n : Nat) : Is (w.drewN n) B v xs := by
  obtain ⟨A, k, c, e, h1, h2, h3⟩ := h
  exact ⟨A, k, c, e, h1, h2, h3.keep fun _ _ => rfl⟩
/-- A world after some draws. -/
def Drawn (w w' : World) : Prop := ∃ m, w' = w.drewN m
theorem Drawn.refl (w : World) : Drawn w w := ⟨0, rfl⟩
theorem Drawn.drewN {w w' : World} (h : Drawn w w') (n : Nat) : Drawn w (w'.drewN n) := by
  obtain ⟨m, rfl⟩ := h
  exact ⟨m + n, by simp⟩
theorem Drawn.cell {w w' : World} (h : Drawn w w') (a : Addr) : w'.cell? a = w.cell? a := by obtain ⟨m, rfl⟩ := h; rfl
theorem Drawn.below {w w' : World} (h : Drawn w w') (B : Nat) : Below B w w' := by obtain ⟨m, rfl⟩ := h; exact below_drewN (Below.refl _ _) _
theorem Is.drawn {w w' : World} {B : Nat} {v : Value} {xs : List Int} (h : Is w B v xs) (hd : Drawn w w') : Is w' B v xs := by obtain ⟨m, rfl⟩ := hd; exact Is.drewN h m
set_option maxHeartbeats 400000 in
/-- Are two lists the same? In a world that is only read. -/
theorem eqInt64S_q (B B' : Nat) (v v' : Value) (xs ys : List Int) (w : World) (h : Is w B v xs) (h' : Is w B' v' ys) :
    Calls Try.prog 7 #[v, v'] w fun e w' => e = .returned (.bool (xs == ys)) ∧ Drawn w w' := by
  obtain ⟨A, n, c, rfl, hnc, hcm, hrd⟩ := h
  obtain ⟨A', n', c', rfl, hnc', hcm', hrd'⟩ := h'
  have Hlen := Lib.hid hrd.len; have Hlen' := Lib.hid hrd'.len
  unfold maxLen at hcm hcm'
  by_cases hnn : n = n'
  · subst hnn
    have hne : ((n : Int) != (n : Int)) = false := by simp
    go_enter Try.func7, Try.ntmps7
    go_wp2
    go_loopw [5] (fun i wr => ∃ k : Nat, k ≤ n ∧ i = .int .i64 k ∧ Hid (xs.take k = ys.take k) ∧ Drawn w wr) (fun i _ => n - (intOf i).toNat)
    case atStart => exact ⟨0, Nat.zero_le _, rfl, Lib.hid (by simp), Drawn.refl _⟩
    case round =>
      obtain ⟨k, hk, rfl, hpre, hdr⟩ := hrel
      by_cases hlt : k < n
      · obtain ⟨ad, rfl, hab, hc⟩ := hrd.pos (by omega)
        obtain ⟨ad', rfl, hab', hc'⟩ := hrd'.pos (by omega)
        have hc1 : wr.cell? (ad.add k) = some (.int .i64 (gx xs k)) := (hdr.cell _).trans (hc k hlt)
        have hc2 : wr.cell? (ad'.add k) = some (.int .i64 (gx ys k)) := (hdr.cell _).trans (hc' k hlt)
        have hi1 : 0 ≤ (k : Int) ∧ (k : Int) < (n : Int) := by omega
        clear hc hc'
        by_cases he : gx xs k = gx ys k
        · have hb1 : (gx xs k != gx ys k) = false := by simp [he]
          have Hpre2 := Lib.hid (take_eq_step xs ys k n Hlen.out Hlen'.out hlt hpre.out he)
          clear he
          go_wp2_with fail
          go_quiet (fail)
          go_wp2
          go_roundw
          case rel => exact ⟨k + 1, by omega, by go_num, Hpre2, hdr.drewN _⟩
          case measure => first | (simp [intOf]; done) | (simp [intOf]; omega)
        · have hb1 : (gx xs k != gx ys k) = true := by simp [he]
          have Hres := Lib.hid (ne_of_gx xs ys k he)
          clear he
          go_wp2_with fail
          go_quiet (fail)
          go_wp2
          go_ret
          exact ⟨ret_b Hres.out.symm, hdr.drewN _⟩
      · have hkn : k = n := by omega
        subst hkn
        go_wp2
        go_ret
        refine ⟨?_, hdr⟩
        have e := hpre.out
        rw [List.take_of_length_le (Nat.le_of_eq Hlen.out), List.take_of_length_le (Nat.le_of_eq Hlen'.out)] at e
        subst e
        simp
  · have hne : ((n : Int) != (n' : Int)) = true := by rw [bne_iff_ne]; omega
    have Hres := Lib.hid (ne_of_len xs ys (by rw [Hlen.out, Hlen'.out]; exact hnn))
    go_enter Try.func7, Try.ntmps7
    go_wp2
    go_ret
    exact ⟨ret_b Hres.out.symm, Drawn.refl _⟩
theorem take_eq_step2 (xs ys : List (List Int)) (k n : Nat) (hx : xs.length = n) (hy : ys.length = n) (hk : k < n) (h : xs.take k = ys.take k) (e : (gxx xs k == gxx ys k) = true) : xs.take (k + 1) = ys.take (k + 1) := by
  rw [List.take_succ_eq_append_getElem (by omega), List.take_succ_eq_append_getElem (by omega), h, ← gxx_eq xs k (by omega), ← gxx_eq ys k (by omega), eq_of_beq e]
theorem ne_of_gxx (xs ys : List (List Int)) (k : Nat) (h : (gxx xs k == gxx ys k) = false) : (xs == ys) = false := by
  rw [beq_eq_false_iff_ne] at h ⊢; intro e; subst e; exact h rfl
theorem ne_of_len2 (xs ys : List (List Int)) (h : ¬ xs.length = ys.length) : (xs == ys) = false := by
  rw [beq_eq_false_iff_ne]; intro e; subst e; exact h rfl
set_option maxHeartbeats 800000 in
/-- Are two lists of lists the same? -/
theorem eqInt64SS_any (B B' : Nat) (v v' : Value) (xs ys : List (List Int)) (w : World) (h : IsR w B v xs) (h' : IsR w B' v' ys) (hB : B ≤ w.heap.size) (hB' : B' ≤ w.heap.size) :
    Calls Try.prog 13 #[v, v'] w fun e w' => e = .returned (.bool (xs == ys)) ∧ Below w.heap.size w w' := by
  obtain ⟨us, hU⟩ := h
  obtain ⟨us', hU'⟩ := h'
  obtain ⟨A, c, rfl, hnc, hcm, hrd⟩ := hU.sh
  obtain ⟨A', c', rfl, hnc', hcm', hrd'⟩ := hU'.sh
  have He := Lib.hid hU.each
  have He' := Lib.hid hU'.each
  obtain ⟨n, Hn⟩ : ∃ n, Hid (xs.length = n) := ⟨_, Lib.hid rfl⟩
  obtain ⟨n', Hn'⟩ : ∃ n, Hid (ys.length = n) := ⟨_, Lib.hid rfl⟩
  rw [Hn.out] at hnc hrd ⊢
  rw [Hn'.out] at hnc' hrd' ⊢
  unfold maxLen at hcm hcm'
  clear hU hU'
  by_cases hnn : n = n'
  · subst hnn
    have hne : ((n : Int) != (n : Int)) = false := by simp
    go_enter Try.func13, Try.ntmps13
    go_wp2
    go_loopw [5] (fun i wr => ∃ k : Nat, k ≤ n ∧ i = .int .i64 k ∧ Hid (xs.take k = ys.take k) ∧ Drawn w wr) (fun i _ => n - (intOf i).toNat)
    case atStart => exact ⟨0, Nat.zero_le _, rfl, Lib.hid (by simp), Drawn.refl _⟩
    case round =>
      obtain ⟨k, hk, rfl, hpre, hdr⟩ := hrel
      by_cases hlt : k < n
      · obtain ⟨ad, rfl, hab, hc⟩ := hrd (by omega)
        obtain ⟨ad', rfl, hab', hc'⟩ := hrd' (by omega)
        have hc1 : wr.cell? (ad.add k) = some (ux us k) := (hdr.cell _).trans (hc k hlt)
        have hc2 : wr.cell? (ad'.add k) = some (ux us' k) := (hdr.cell _).trans (hc' k hlt)
        have hi1 : 0 ≤ (k : Int) ∧ (k : Int) < (n : Int) := by omega
        have E1 := Lib.hid (He.out k (by rw [Hn.out]; exact hlt))
        have E2 := Lib.hid (He'.out k (by rw [Hn'.out]; exact hlt))
        clear hc hc'
        cases hR : (gxx xs k == gxx ys k)
        · have Hres := Lib.hid (ne_of_gxx xs ys k hR)
          go_wp2_with fail
          go_quiet ((go_at_call 7; exact Calls.quiet_of (eqInt64S_q B B' _ _ _ _ _ (Is.drewN (Is.drawn E1.out hdr) _) (Is.drewN (Is.drawn E2.out hdr) _))))
          rw [hR]
          go_wp2
          go_ret
          exact ⟨ret_b Hres.out.symm, below_drewN (hdr.below _) _⟩
        · have Hpre2 := Lib.hid (take_eq_step2 xs ys k n Hn.out Hn'.out hlt hpre.out hR)
          go_wp2_with fail
          go_quiet ((go_at_call 7; exact Calls.quiet_of (eqInt64S_q B B' _ _ _ _ _ (Is.drewN (Is.drawn E1.out hdr) _) (Is.drewN (Is.drawn E2.out hdr) _))))
          rw [hR]
          go_wp2
          go_roundw
          case rel => exact ⟨k + 1, by omega, by go_num, Hpre2, hdr.drewN _⟩
          case measure => first | (simp [intOf]; done) | (simp [intOf]; omega)
      · have hkn : k = n := by omega
        subst hkn
        go_wp2
        go_ret
        refine ⟨?_, hdr.below _⟩
        have e := hpre.out
        rw [List.take_of_length_le (Nat.le_of_eq Hn.out), List.take_of_length_le (Nat.le_of_eq Hn'.out)] at e
        subst e
        simp
  · have hne : ((n : Int) != (n' : Int)) = true := by rw [bne_iff_ne]; omega
    have Hres := Lib.hid (ne_of_len2 xs ys (by rw [Hn.out, Hn'.out]; exact hnn))
    go_enter Try.func13, Try.ntmps13
    go_wp2
    go_ret
    exact ⟨ret_b Hres.out.symm, Below.refl _ _⟩
/-- How many numbers the first i rows hold. -/
def tot (xss : List (List Int)) : Nat → Nat
  | 0 => 0
  | i + 1 => tot xss i + (gxx xss i).length
theorem tot_mono (xss : List (List Int)) (i : Nat) : ∀ d, tot xss i ≤ tot xss (i + d)
  | 0 => Nat.le_refl _
  | d + 1 => Nat.le_trans (tot_mono xss i d) (Nat.le_add_right _ _)
theorem tot_le (xss : List (List Int)) {i j : Nat} (h : i ≤ j) : tot xss i ≤ tot xss j := by
  obtain ⟨d, rfl⟩ : ∃ d, j = i + d := ⟨j - i, by omega⟩
  exact tot_mono xss i d
theorem tot_pairs {xss : List (List Int)} (h : ∀ s ∈ xss, s.length ≤ 2) (hl : xss.length ≤ 1000000000) : tot xss xss.length ≤ 1000000000000 := by
  have key : ∀ i, i ≤ xss.length → tot xss i ≤ 2 * i := by
    intro i
    induction i with
    | zero => intro _; simp [tot]
    | succ i ih => intro hi; have := ih (by omega); have := h _ (gxx_mem xss i (by omega)); unfold tot; omega
  have := key _ (Nat.le_refl _); omega
/-- The first i rows written. -/
def marked2 (xss : List (List Int)) (k : Int) (i : Nat) : List (List Int) := (List.range xss.length).map fun j => if j < i then marks (k + (tot xss j : Int)) (gxx xss j).length else gxx xss j
def marks2 (xss : List (List Int)) (k : Int) : List (List Int) := marked2 xss k xss.length
theorem marked2_len (xss : List (List Int)) (k : Int) (i : Nat) : (marked2 xss k i).length = xss.length := by simp [marked2]
theorem gxx_marked2 (xss : List (List Int)) (k : Int) (i j : Nat) (h : j < xss.length) : gxx (marked2 xss k i) j = if j < i then marks (k + (tot xss j : Int)) (gxx xss j).length else gxx xss j := by
  rw [gxx_eq _ _ (by rw [marked2_len]; exact h)]; simp [marked2]
theorem marked2_zero (xss : List (List Int)) (k : Int) : marked2 xss k 0 = xss := by
  refine gxx_ext (marked2_len _ _ _) fun i hi => ?_
  rw [marked2_len] at hi
  rw [gxx_marked2 _ _ _ _ hi, if_neg (by omega)]
theorem marked2_step (xss : List (List Int)) (k : Int) (i : Nat) (h : i < xss.length) : (marked2 xss k i).set i (marks (k + (tot xss i : Int)) (gxx xss i).length) = marked2 xss k (i + 1) := by
  refine gxx_ext (by simp [marked2_len]) fun j hj => ?_
  rw [List.length_set, marked2_len] at hj
  rw [gxx_set _ _ _ _ (by rw [marked2_len]; exact h), gxx_marked2 _ _ _ _ hj, gxx_marked2 _ _ _ _ hj]
  by_cases e : i = j
  · subst e; rw [if_pos rfl, if_pos (by omega)]
  · rw [if_neg e]
    by_cases h1 : j < i
    · rw [if_pos h1, if_pos (by omega)]
    · rw [if_neg h1, if_neg (by omega)]
set_option maxHeartbeats 800000 in
theorem markInt64SS_any (lo hi : Nat) (v : Value) (xss : List (List Int)) (k : Int) (w : World) (h : OwR w lo hi v xss) (hk : 0 ≤ k) (hk' : k + tot xss xss.length ≤ 4611686018427387904) :
    Calls Try.prog 14 #[v, .int .i64 k] w fun e w' => e = .returned (.int .i64 (k + tot xss xss.length)) ∧ OwR w' lo hi v (marks2 xss k) ∧ Chg lo hi w w' := by
  obtain ⟨us, hU⟩ := h
  obtain ⟨A, c, rfl, hnc, hcm⟩ := own_shape hU.row
  obtain ⟨n, Hn⟩ : ∃ n, Hid (xss.length = n) := ⟨_, Lib.hid rfl⟩
  have HU := Lib.hid hU
  rw [Hn.out] at hnc hk' HU ⊢
  have hm : n ≤ 9223372036854775807 := by omega
  clear hU
  go_enter Try.func14, Try.ntmps14
  go_wp2
  go_loopw [1, 5] (fun q i wr => ∃ j : Nat, j ≤ n ∧ i = .int .i64 j ∧ q = .int .i64 (k + (tot xss j : Int)) ∧ Hid (OwU wr lo hi (.slice A n c) us (marked2 xss k j)) ∧ Chg lo hi w wr) (fun _ i _ => n - (intOf i).toNat)
  case atStart => exact ⟨0, Nat.zero_le _, rfl, by simp [tot], Lib.hid (by rw [marked2_zero]; exact HU.out), Chg.refl⟩
  case round =>
    obtain ⟨j, hj, rfl, rfl, hown, hch⟩ := hrel
    by_cases hlt : j < n
    · have Hl := Lib.hid (marked2_len xss k j)
      have hlm : j < (marked2 xss k j).length := by rw [Hl.out, Hn.out]; exact hlt
      obtain ⟨A2, c2, e2, hc1, hc2, hpos⟩ := hown.out.is.sh
      rw [Hl.out, Hn.out] at e2 hpos
      obtain ⟨ad, ea, hab, hcell⟩ := hpos (by omega)
      cases e2
      subst ea
      have hc : wr.cell? (ad.add j) = some (ux us j) := hcell j hlt
      have hi1 : 0 ≤ (j : Int) ∧ (j : Int) < (n : Int) := by omega
      have hr := hown.out.each j hlm
      rw [gxx_marked2 _ _ _ _ (by rw [Hn.out]; exact hlt), if_neg (by omega)] at hr
      obtain ⟨l, m, hs1, hs2, hs3⟩ := hr.split
      have Hs1 := Lib.hid hs1; have Hs2 := Lib.hid hs2; have Hs3 := Lib.hid hs3
      have ht : tot xss (j + 1) = tot xss j + (gxx xss j).length := rfl
      have htn := tot_le xss (show j + 1 ≤ n from hlt)
      have hkb : k + (tot xss j : Int) + ((gxx xss j).length : Int) ≤ 4611686018427387904 := by omega
      have hk0 : 0 ≤ k + (tot xss j : Int) := by omega
      have Ht := Lib.hid ht
      clear hcell hpos hr hs1 hs2 hs3 ht htn hlm
      go_wp2_with fail
      refine (markInt64S_any l m _ (gxx xss j) _ _ Hs1.out hk0 hkb).mono ?_
      rintro e w2 ⟨rfl, ow2, hch2⟩
      have hg := Hs2.out _ hch2
      have Hown2 := Lib.hid (show OwU w2 lo hi (.slice (some ad) n c) us (marked2 xss k (j + 1)) by
        rw [← marked2_step xss k j (by rw [Hn.out]; exact hlt)]
        exact hown.out.turn (by rw [Hl.out, Hn.out]; exact hlt) hg (Hs3.out _ _ ow2))
      have Hch2 := Lib.hid (hch.trans (Chg.of_grown (lo := lo) (hi := hi) hg (fun k' e => by
        have := (hown.out.each j (by rw [Hl.out, Hn.out]; exact hlt)).low e; exact ⟨this.1, this.2.1⟩)))
      clear hg ow2 hch2 hown hch Hs1 Hs2 Hs3
      go_wp2
      go_roundw
      case rel => exact ⟨j + 1, by omega, by go_num, by rw [Ht.out]; congr 1; omega, Hown2, Hch2.out⟩
      case measure => first | (simp [intOf]; done) | (simp [intOf]; omega)
    · obtain rfl : j = n := by omega
      go_wp2
      go_ret
      exact ⟨rfl, ⟨us, by unfold marks2; rw [Hn.out]; exact hown.out⟩, hch⟩
set_option maxHeartbeats 800000 in
theorem heldInt64SS_any (B : Nat) (v : Value) (xss : List (List Int)) (k : Int) (w : World) (h : IsR w B v (marks2 xss k)) (hB : B ≤ w.heap.size) (hk : 0 ≤ k) (hk' : k + tot xss xss.length ≤ 4611686018427387904) :
    Calls Try.prog 15 #[v, .int .i64 k] w fun e w' => e = .returned (.int .i64 (k + tot xss xss.length)) ∧ Below w.heap.size w w' := by
  obtain ⟨us, hU⟩ := h
  obtain ⟨A, c, rfl, hnc, hcm, hpos⟩ := hU.sh
  have HE := Lib.hid hU.each
  have Hl := Lib.hid (marked2_len xss k xss.length)
  obtain ⟨n, Hn⟩ : ∃ n, Hid (xss.length = n) := ⟨_, Lib.hid rfl⟩
  unfold marks2 at hnc hpos HE ⊢
  rw [Hl.out, Hn.out] at hnc hpos ⊢
  rw [Hn.out] at hk'
  unfold maxLen at hcm
  have hm : n ≤ 9223372036854775807 := by omega
  clear hU
  go_enter Try.func15, Try.ntmps15
  go_wp2
  go_loopw [1, 5] (fun q i wr => ∃ j : Nat, j ≤ n ∧ i = .int .i64 j ∧ q = .int .i64 (k + (tot xss j : Int)) ∧ Below w.heap.size w wr) (fun _ i _ => n - (intOf i).toNat)
  case atStart => exact ⟨0, Nat.zero_le _, rfl, by simp [tot], Below.refl _ _⟩
  case round =>
    obtain ⟨j, hj, rfl, rfl, hbe⟩ := hrel
    by_cases hlt : j < n
    · obtain ⟨ad, rfl, hab, hcell⟩ := hpos (by omega)
      have hc : wr.cell? (ad.add j) = some (ux us j) := (hbe.cell (by rw [block_of_add]; omega)).trans (hcell j hlt)
      have hi1 : 0 ≤ (j : Int) ∧ (j : Int) < (n : Int) := by omega
      have hr := HE.out j (by rw [Hl.out, Hn.out]; exact hlt)
      rw [gxx_marked2 _ _ _ _ (by rw [Hn.out]; exact hlt), if_pos (by rw [Hn.out]; exact hlt)] at hr
      have Hr := Lib.hid hr
      have ht : tot xss (j + 1) = tot xss j + (gxx xss j).length := rfl
      have htn := tot_le xss (show j + 1 ≤ n from hlt)
      have hkb : k + (tot xss j : Int) + ((gxx xss j).length : Int) ≤ 4611686018427387904 := by omega
      have hk0 : 0 ≤ k + (tot xss j : Int) := by omega
      have Ht := Lib.hid ht
      have hs := hbe.size
      clear hcell hr ht htn
      go_wp2_with fail
      refine (heldInt64S_any B _ _ _ _ (Hr.out.below (hbe.mono hB)) (by omega) hk0 hkb).mono ?_
      rintro e w2 ⟨rfl, hb2⟩
      have hbe2 := hbe.trans (hb2.mono hs)
      clear hb2
      go_wp2
      go_roundw
      case rel => exact ⟨j + 1, by omega, by go_num, by rw [Ht.out]; congr 1; omega, hbe2⟩
      case measure => first | (simp [intOf]; done) | (simp [intOf]; omega)
    · obtain rfl : j = n := by omega
      go_wp2
      go_ret
      exact ⟨rfl, hbe⟩
end WL
end Go.Proofs.Ytoagjlcobeimfaa
