/-
  WALKS, CHAPTER 3: products of pairs, lists of lists the same.
-/
import Derived.Test.YtcnoaclijhcckaaPlJ
import Derived.Test.YtcnoaclijhcckaaWlkC11
import Derived.Test.YtcnoaclijhcckaaWlkL3
import Derived.Test.YtcnoaclijhcckaaWlkL4
namespace Go.Proofs.Ytcnoaclijhcckaa
open Go.RowKit
set_option linter.unusedVariables false
namespace WC
open K Pl WA WL
theorem ret_ib {k : IntKind} {a b : Int} {c d : Bool} (h : a = b) (h' : c = d) : Ending.returned (.tuple #[.int k a, .bool c]) = .returned (.tuple #[.int k b, .bool d]) := by rw [h, h']
set_option maxHeartbeats 1600000 in
theorem l03Pairs_any (B : Nat) (v : Value) (xss : List (List Int)) (w : World) (h : IsR w B v xss) (hB : B ≤ w.heap.size) :
    Calls Try.prog 69 #[v] w fun e w' => e = .returned (.int .i64 (prR xss)) ∧ w = w' := by
  obtain ⟨us, hU⟩ := h
  obtain ⟨A, c, rfl, hnc, hcm, hrd⟩ := hU.sh
  have He := Lib.hid hU.each
  obtain ⟨n, Hn⟩ : ∃ n, Hid (xss.length = n) := ⟨_, Lib.hid rfl⟩
  rw [Hn.out] at hnc hrd ⊢
  unfold maxLen at hcm
  clear hU
  by_cases h6 : 6 < n
  · have Hr := Lib.hid (okP_no6 (xss := xss) (by rw [Hn.out]; exact h6))
    have h6' : (6 : Int) < (n : Int) := by omega
    go_enter Try.func69, Try.ntmps69
    go_wp2
    go_ret
    exact ⟨ret_i (prR_no Hr.out).symm, rfl⟩
  · have h6' : ¬ (6 : Int) < (n : Int) := by omega
    go_enter Try.func69, Try.ntmps69
    go_wp2
    go_loop [3, 4] (fun m i => ∃ k : Nat, k ≤ n ∧ i = .int .i64 k ∧ m = .int .i64 (prd xss k) ∧ prd xss k ≤ 64 ∧ Hid (∀ j, j < k → okRow (gxx xss j) = true)) (fun m i => n - (intOf i).toNat)
    case atStart => exact ⟨0, Nat.zero_le _, rfl, rfl, by rw [prd_zero]; omega, Lib.hid (fun j h1 => by omega)⟩
    case round =>
      obtain ⟨k, hk, rfl, rfl, hpk, hpre⟩ := hrel
      by_cases hlt : k < n
      · obtain ⟨ad, rfl, hab, hc⟩ := hrd (by omega)
        have hc1 : w.cell? (ad.add k) = some (ux us k) := hc k hlt
        have Hek := Lib.hid (He.out k (by rw [Hn.out]; exact hlt))
        obtain ⟨Ak, nk, ck, euk, hnck, hcmk, hrdk⟩ := Hek.out
        rw [euk] at hc1
        have Hek2 := Lib.hid (show Is w B (.slice Ak nk ck) (gxx xss k) from by rw [← euk]; exact Hek.out)
        have Hlk := Lib.hid hrdk.len
        have hi1 : 0 ≤ (k : Int) ∧ (k : Int) < (n : Int) := by omega
        unfold maxLen at hcmk
        clear hc euk
        by_cases hl2 : nk = 2
        · have hne : ((nk : Int) != 2) = false := by rw [hl2]; rfl
          obtain ⟨ak, rfl, habk, hck⟩ := hrdk.pos (by omega)
          have hck0 : w.cell? ak = some (.int .i64 (gx (gxx xss k) 0)) := by have := hck 0 (by omega); simpa [Addr.add] using this
          have hck1 : w.cell? ⟨ak.block, ak.off + 1, none⟩ = some (.int .i64 (gx (gxx xss k) 1)) := by have := hck 1 (by omega); simpa [Addr.add] using this
          have hk0 : (0 : Int) < (nk : Int) := by omega
          have hk1 : (1 : Int) < (nk : Int) := by omega
          have hk2 : 0 < nk := by omega
          have hk3 : 1 < nk := by omega
          have Hnk := Lib.hid hl2
          clear hrdk hck hl2
          cases hH : inR (gx (gxx xss k) 0) 1 2000
          · have Hr := Lib.hid (okP_row (xss := xss) k (by rw [Hn.out]; exact hlt) (okRow_hd hH))
            go_wp2_with (go_at_call 50; refine (l01In_any _ _ _ _).mono ?_; rintro e w' ⟨rfl, rfl⟩)
            go_ret
            exact ⟨ret_i (prR_no Hr.out).symm, rfl⟩
          · cases hS : inR (gx (gxx xss k) 1) 1 2000
            · have Hr := Lib.hid (okP_row (xss := xss) k (by rw [Hn.out]; exact hlt) (okRow_sn hS))
              go_wp2_with (go_at_call 50; refine (l01In_any _ _ _ _).mono ?_; rintro e w' ⟨rfl, rfl⟩)
              go_ret
              exact ⟨ret_i (prR_no Hr.out).symm, rfl⟩
            · have hok : okRow (gxx xss k) = true := okRow_true.2 ⟨by rw [Hlk.out, Hnk.out], inR_true.1 hH, inR_true.1 hS⟩
              have Hpre2 := Lib.hid (show ∀ j, j < k + 1 → okRow (gxx xss j) = true from fun j h2 => by
                rcases Nat.lt_or_ge j k with h3 | h3
                · exact hpre.out j h3
                · obtain rfl : j = k := by omega
                  exact hok)
              have hp := prd_pos hpre.out
              have ht := prd_top hpre.out hpk hok
              have Hs := Lib.hid (prd_succ xss k)
              clear hok
              by_cases hbig : 64 < prd xss k * gx (gxx xss k) 1
              · have Hr := Lib.hid (okP_big (xss := xss) (k + 1) (by rw [Hn.out]; omega) (by rw [prd_succ]; exact hbig))
                go_wp2_with (go_at_call 50; refine (l01In_any _ _ _ _).mono ?_; rintro e w' ⟨rfl, rfl⟩)
                go_ret
                exact ⟨ret_i (prR_no Hr.out).symm, rfl⟩
              · go_wp2_with (go_at_call 50; refine (l01In_any _ _ _ _).mono ?_; rintro e w' ⟨rfl, rfl⟩)
                go_round
                case rel => exact ⟨k + 1, by omega, by go_num, by rw [Hs.out], by rw [Hs.out]; omega, Hpre2⟩
                case measure => first | (simp [intOf]; done) | (simp [intOf]; omega)
        · have hne : ((nk : Int) != 2) = true := by rw [bne_iff_ne]; omega
          have Hr := Lib.hid (okP_row (xss := xss) k (by rw [Hn.out]; exact hlt) (okRow_len (by rw [Hlk.out]; exact hl2)))
          clear hrdk
          go_wp2_with fail
          go_ret
          exact ⟨ret_i (prR_no Hr.out).symm, rfl⟩
      · have hkn : k = n := by omega
        subst hkn
        have Hr := Lib.hid (show okP xss = true from okP_true.2 ⟨by rw [Hn.out]; omega, fun i hi => hpre.out i (by rw [Hn.out] at hi; exact hi), by rw [Hn.out]; exact hpk⟩)
        go_wp2
        go_ret
        exact ⟨ret_i (by rw [prR_yes Hr.out, Hn.out]), rfl⟩
set_option maxHeartbeats 400000 in
/-- Are two lists the same? In a world that is only read. -/
theorem l01Same_q (B B' : Nat) (v v' : Value) (xs ys : List Int) (w : World) (h : Is w B v xs) (h' : Is w B' v' ys) :
    Calls Try.prog 72 #[v, v'] w fun e w' => e = .returned (.bool (xs == ys)) ∧ Drawn w w' := by
  obtain ⟨A, n, c, rfl, hnc, hcm, hrd⟩ := h
  obtain ⟨A', n', c', rfl, hnc', hcm', hrd'⟩ := h'
  have Hlen := Lib.hid hrd.len; have Hlen' := Lib.hid hrd'.len
  unfold maxLen at hcm hcm'
  by_cases hnn : n = n'
  · subst hnn
    have hne : ((n : Int) != (n : Int)) = false := by simp
    go_enter Try.func72, Try.ntmps72
    go_wp2
    go_loopw [5] (fun i wr => ∃ k : Nat, k ≤ n ∧ i = .int .i64 k ∧ Hid (xs.take k = ys.take k) ∧ Drawn w wr) (fun i _ => n - (intOf i).toNat)
    case atStart => exact ⟨0, Nat.zero_le _, rfl, Lib.hid (by simp), Drawn.refl _⟩
    case round =>
      obtain ⟨k, hk, rfl, hpre, hdr⟩ := hrel
      by_cases hlt : k < n
      · obtain ⟨ad, rfl, hab, hc⟩ := hrd.pos (by omega)
        obtain ⟨ad', rfl, hab', hc'⟩ := hrd'.pos (by omega)
        have hc1 : wr.cell? (ad.add k) = some (.int .i64 (gx xs k)) := (hdr.cell _).trans (hc k hlt)
        have hc2 : wr.cell? (ad'.add k) = some (.int .i64 (gx ys k)) := (hdr.cell _).trans (hc' k hlt)
        have hi1 : 0 ≤ (k : Int) ∧ (k : Int) < (n : Int) := by omega
        clear hc hc'
        by_cases he : gx xs k = gx ys k
        · have hb1 : (gx xs k != gx ys k) = false := by simp [he]
          have Hpre2 := Lib.hid (take_eq_step xs ys k n Hlen.out Hlen'.out hlt hpre.out he)
          clear he
          go_wp2_with fail
          go_quiet (fail)
          go_wp2
          go_roundw
          case rel => exact ⟨k + 1, by omega, by go_num, Hpre2, hdr.drewN _⟩
          case measure => first | (simp [intOf]; done) | (simp [intOf]; omega)
        · have hb1 : (gx xs k != gx ys k) = true := by simp [he]
          have Hres := Lib.hid (ne_of_gx xs ys k he)
          clear he
          go_wp2_with fail
          go_quiet (fail)
          go_wp2
          go_ret
          exact ⟨ret_b Hres.out.symm, hdr.drewN _⟩
      · have hkn : k = n := by omega
        subst hkn
        go_wp2
        go_ret
        refine ⟨?_, hdr⟩
        have e := hpre.out
        rw [List.take_of_length_le (Nat.le_of_eq Hlen.out), List.take_of_length_le (Nat.le_of_eq Hlen'.out)] at e
        subst e
        simp
  · have hne : ((n : Int) != (n' : Int)) = true := by rw [bne_iff_ne]; omega
    have Hres := Lib.hid (ne_of_len xs ys (by rw [Hlen.out, Hlen'.out]; exact hnn))
    go_enter Try.func72, Try.ntmps72
    go_wp2
    go_ret
    exact ⟨ret_b Hres.out.symm, Drawn.refl _⟩
set_option maxHeartbeats 800000 in
/-- Are two lists of lists the same? -/
theorem l01Same2_any (B B' : Nat) (v v' : Value) (xs ys : List (List Int)) (w : World) (h : IsR w B v xs) (h' : IsR w B' v' ys) (hB : B ≤ w.heap.size) (hB' : B' ≤ w.heap.size) :
    Calls Try.prog 70 #[v, v'] w fun e w' => e = .returned (.bool (xs == ys)) ∧ Below w.heap.size w w' := by
  obtain ⟨us, hU⟩ := h
  obtain ⟨us', hU'⟩ := h'
  obtain ⟨A, c, rfl, hnc, hcm, hrd⟩ := hU.sh
  obtain ⟨A', c', rfl, hnc', hcm', hrd'⟩ := hU'.sh
  have He := Lib.hid hU.each
  have He' := Lib.hid hU'.each
  obtain ⟨n, Hn⟩ : ∃ n, Hid (xs.length = n) := ⟨_, Lib.hid rfl⟩
  obtain ⟨n', Hn'⟩ : ∃ n, Hid (ys.length = n) := ⟨_, Lib.hid rfl⟩
  rw [Hn.out] at hnc hrd ⊢
  rw [Hn'.out] at hnc' hrd' ⊢
  unfold maxLen at hcm hcm'
  clear hU hU'
  by_cases hnn : n = n'
  · subst hnn
    have hne : ((n : Int) != (n : Int)) = false := by simp
    go_enter Try.func70, Try.ntmps70
    go_wp2
    go_loopw [5] (fun i wr => ∃ k : Nat, k ≤ n ∧ i = .int .i64 k ∧ Hid (xs.take k = ys.take k) ∧ Drawn w wr) (fun i _ => n - (intOf i).toNat)
    case atStart => exact ⟨0, Nat.zero_le _, rfl, Lib.hid (by simp), Drawn.refl _⟩
    case round =>
      obtain ⟨k, hk, rfl, hpre, hdr⟩ := hrel
      by_cases hlt : k < n
      · obtain ⟨ad, rfl, hab, hc⟩ := hrd (by omega)
        obtain ⟨ad', rfl, hab', hc'⟩ := hrd' (by omega)
        have hc1 : wr.cell? (ad.add k) = some (ux us k) := (hdr.cell _).trans (hc k hlt)
        have hc2 : wr.cell? (ad'.add k) = some (ux us' k) := (hdr.cell _).trans (hc' k hlt)
        have hi1 : 0 ≤ (k : Int) ∧ (k : Int) < (n : Int) := by omega
        have E1 := Lib.hid (He.out k (by rw [Hn.out]; exact hlt))
        have E2 := Lib.hid (He'.out k (by rw [Hn'.out]; exact hlt))
        clear hc hc'
        cases hR : (gxx xs k == gxx ys k)
        · have Hres := Lib.hid (ne_of_gxx xs ys k hR)
          go_wp2_with fail
          go_quiet ((go_at_call 72; exact Calls.quiet_of (l01Same_q B B' _ _ _ _ _ (Is.drewN (Is.drawn E1.out hdr) _) (Is.drewN (Is.drawn E2.out hdr) _))))
          rw [hR]
          go_wp2
          go_ret
          exact ⟨ret_b Hres.out.symm, below_drewN (hdr.below _) _⟩
        · have Hpre2 := Lib.hid (take_eq_step2 xs ys k n Hn.out Hn'.out hlt hpre.out hR)
          go_wp2_with fail
          go_quiet ((go_at_call 72; exact Calls.quiet_of (l01Same_q B B' _ _ _ _ _ (Is.drewN (Is.drawn E1.out hdr) _) (Is.drewN (Is.drawn E2.out hdr) _))))
          rw [hR]
          go_wp2
          go_roundw
          case rel => exact ⟨k + 1, by omega, by go_num, Hpre2, hdr.drewN _⟩
          case measure => first | (simp [intOf]; done) | (simp [intOf]; omega)
      · have hkn : k = n := by omega
        subst hkn
        go_wp2
        go_ret
        refine ⟨?_, hdr.below _⟩
        have e := hpre.out
        rw [List.take_of_length_le (Nat.le_of_eq Hn.out), List.take_of_length_le (Nat.le_of_eq Hn'.out)] at e
        subst e
        simp
  · have hne : ((n : Int) != (n' : Int)) = true := by rw [bne_iff_ne]; omega
    have Hres := Lib.hid (ne_of_len2 xs ys (by rw [Hn.out, Hn'.out]; exact hnn))
    go_enter Try.func70, Try.ntmps70
    go_wp2
    go_ret
    exact ⟨ret_b Hres.out.symm, Below.refl _ _⟩
end WC
end Go.Proofs.Ytcnoaclijhcckaa
