/-
  WALKS, CHAPTER 3: products of pairs, lists of lists the same.
  WALKS, CHAPTER 3: branches of pairs, by the reference.
-/
import Derived.Test.YtcnoaclijhcckaaPlJ
import Derived.Test.YtcnoaclijhcckaaWlkCA
import Derived.Test.YtcnoaclijhcckaaWlkL3
import Derived.Test.YtcnoaclijhcckaaWlkL4
import Derived.Test.YtcnoaclijhcckaaWlkC5
namespace Go.Proofs.Ytcnoaclijhcckaa
open Go.RowKit
set_option linter.unusedVariables false
namespace WC
open K Pl WA WL
theorem ret_ib {k : IntKind} {a b : Int} {c d : Bool} (h : a = b) (h' : c = d) : Ending.returned (.tuple #[.int k a, .bool c]) = .returned (.tuple #[.int k b, .bool d]) := by rw [h, h']
set_option maxHeartbeats 1600000 in
theorem l03Pairs_any (B : Nat) (v : Value) (xss : List (List Int)) (w : World) (h : IsR w B v xss) (hB : B ≤ w.heap.size) :
    Calls Try.prog 69 #[v] w fun e w' => e = .returned (.int .i64 (prR xss)) ∧ w = w' := by
  obtain ⟨us, hU⟩ := h
  obtain ⟨A, c, rfl, hnc, hcm, hrd⟩ := hU.sh
  have He := Lib.hid hU.each
  obtain ⟨n, Hn⟩ : ∃ n, Hid (xss.length = n) := ⟨_, Lib.hid rfl⟩
  rw [Hn.out] at hnc hrd ⊢
  unfold maxLen at hcm
  clear hU
  by_cases h6 : 6 < n
  · have Hr := Lib.hid (okP_no6 (xss := xss) (by rw [Hn.out]; exact h6))
    have h6' : (6 : Int) < (n : Int) := by omega
    go_enter Try.func69, Try.ntmps69
    go_wp2
    go_ret
    exact ⟨ret_i (prR_no Hr.out).symm, rfl⟩
  · have h6' : ¬ (6 : Int) < (n : Int) := by omega
    go_enter Try.func69, Try.ntmps69
    go_wp2
    go_loop [3, 4] (fun m i => ∃ k : Nat, k ≤ n ∧ i = .int .i64 k ∧ m = .int .i64 (prd xss k) ∧ prd xss k ≤ 64 ∧ Hid (∀ j, j < k → okRow (gxx xss j) = true)) (fun m i => n - (intOf i).toNat)
    case atStart => exact ⟨0, Nat.zero_le _, rfl, rfl, by rw [prd_zero]; omega, Lib.hid (fun j h1 => by omega)⟩
    case round =>
      obtain ⟨k, hk, rfl, rfl, hpk, hpre⟩ := hrel
      by_cases hlt : k < n
      · obtain ⟨ad, rfl, hab, hc⟩ := hrd (by omega)
        have hc1 : w.cell? (ad.add k) = some (ux us k) := hc k hlt
        have Hek := Lib.hid (He.out k (by rw [Hn.out]; exact hlt))
        obtain ⟨Ak, nk, ck, euk, hnck, hcmk, hrdk⟩ := Hek.out
        rw [euk] at hc1
        have Hek2 := Lib.hid (show Is w B (.slice Ak nk ck) (gxx xss k) from by rw [← euk]; exact Hek.out)
        have Hlk := Lib.hid hrdk.len
        have hi1 : 0 ≤ (k : Int) ∧ (k : Int) < (n : Int) := by omega
        unfold maxLen at hcmk
        clear hc euk
        by_cases hl2 : nk = 2
        · have hne : ((nk : Int) != 2) = false := by rw [hl2]; rfl
          obtain ⟨ak, rfl, habk, hck⟩ := hrdk.pos (by omega)
          have hck0 : w.cell? ak = some (.int .i64 (gx (gxx xss k) 0)) := by have := hck 0 (by omega); simpa [Addr.add] using this
          have hck1 : w.cell? ⟨ak.block, ak.off + 1, none⟩ = some (.int .i64 (gx (gxx xss k) 1)) := by have := hck 1 (by omega); simpa [Addr.add] using this
          have hk0 : (0 : Int) < (nk : Int) := by omega
          have hk1 : (1 : Int) < (nk : Int) := by omega
          have hk2 : 0 < nk := by omega
          have hk3 : 1 < nk := by omega
          have Hnk := Lib.hid hl2
          clear hrdk hck hl2
          cases hH : inR (gx (gxx xss k) 0) 1 2000
          · have Hr := Lib.hid (okP_row (xss := xss) k (by rw [Hn.out]; exact hlt) (okRow_hd hH))
            go_wp2_with (go_at_call 50; refine (l01In_any _ _ _ _).mono ?_; rintro e w' ⟨rfl, rfl⟩)
            go_ret
            exact ⟨ret_i (prR_no Hr.out).symm, rfl⟩
          · cases hS : inR (gx (gxx xss k) 1) 1 2000
            · have Hr := Lib.hid (okP_row (xss := xss) k (by rw [Hn.out]; exact hlt) (okRow_sn hS))
              go_wp2_with (go_at_call 50; refine (l01In_any _ _ _ _).mono ?_; rintro e w' ⟨rfl, rfl⟩)
              go_ret
              exact ⟨ret_i (prR_no Hr.out).symm, rfl⟩
            · have hok : okRow (gxx xss k) = true := okRow_true.2 ⟨by rw [Hlk.out, Hnk.out], inR_true.1 hH, inR_true.1 hS⟩
              have Hpre2 := Lib.hid (show ∀ j, j < k + 1 → okRow (gxx xss j) = true from fun j h2 => by
                rcases Nat.lt_or_ge j k with h3 | h3
                · exact hpre.out j h3
                · obtain rfl : j = k := by omega
                  exact hok)
              have hp := prd_pos hpre.out
              have ht := prd_top hpre.out hpk hok
              have Hs := Lib.hid (prd_succ xss k)
              clear hok
              by_cases hbig : 64 < prd xss k * gx (gxx xss k) 1
              · have Hr := Lib.hid (okP_big (xss := xss) (k + 1) (by rw [Hn.out]; omega) (by rw [prd_succ]; exact hbig))
                go_wp2_with (go_at_call 50; refine (l01In_any _ _ _ _).mono ?_; rintro e w' ⟨rfl, rfl⟩)
                go_ret
                exact ⟨ret_i (prR_no Hr.out).symm, rfl⟩
              · go_wp2_with (go_at_call 50; refine (l01In_any _ _ _ _).mono ?_; rintro e w' ⟨rfl, rfl⟩)
                go_round
                case rel => exact ⟨k + 1, by omega, by go_num, by rw [Hs.out], by rw [Hs.out]; omega, Hpre2⟩
                case measure => first | (simp [intOf]; done) | (simp [intOf]; omega)
        · have hne : ((nk : Int) != 2) = true := by rw [bne_iff_ne]; omega
          have Hr := Lib.hid (okP_row (xss := xss) k (by rw [Hn.out]; exact hlt) (okRow_len (by rw [Hlk.out]; exact hl2)))
          clear hrdk
          go_wp2_with fail
          go_ret
          exact ⟨ret_i (prR_no Hr.out).symm, rfl⟩
      · have hkn : k = n := by omega
        subst hkn
        have Hr := Lib.hid (show okP xss = true from okP_true.2 ⟨by rw [Hn.out]; omega, fun i hi => hpre.out i (by rw [Hn.out] at hi; exact hi), by rw [Hn.out]; exact hpk⟩)
        go_wp2
        go_ret
        exact ⟨ret_i (by rw [prR_yes Hr.out, Hn.out]), rfl⟩
set_option maxHeartbeats 400000 in
/-- Are two lists the same? In a world that is only read. -/
theorem l01Same_q (B B' : Nat) (v v' : Value) (xs ys : List Int) (w : World) (h : Is w B v xs) (h' : Is w B' v' ys) :
    Calls Try.prog 72 #[v, v'] w fun e w' => e = .returned (.bool (xs == ys)) ∧ Drawn w w' := by
  obtain ⟨A, n, c, rfl, hnc, hcm, hrd⟩ := h
  obtain ⟨A', n', c', rfl, hnc', hcm', hrd'⟩ := h'
  have Hlen := Lib.hid hrd.len; have Hlen' := Lib.hid hrd'.len
  unfold maxLen at hcm hcm'
  by_cases hnn : n = n'
  · subst hnn
    have hne : ((n : Int) != (n : Int)) = false := by simp
    go_enter Try.func72, Try.ntmps72
    go_wp2
    go_loopw [5] (fun i wr => ∃ k : Nat, k ≤ n ∧ i = .int .i64 k ∧ Hid (xs.take k = ys.take k) ∧ Drawn w wr) (fun i _ => n - (intOf i).toNat)
    case atStart => exact ⟨0, Nat.zero_le _, rfl, Lib.hid (by simp), Drawn.refl _⟩
    case round =>
      obtain ⟨k, hk, rfl, hpre, hdr⟩ := hrel
      by_cases hlt : k < n
      · obtain ⟨ad, rfl, hab, hc⟩ := hrd.pos (by omega)
        obtain ⟨ad', rfl, hab', hc'⟩ := hrd'.pos (by omega)
        have hc1 : wr.cell? (ad.add k) = some (.int .i64 (gx xs k)) := (hdr.cell _).trans (hc k hlt)
        have hc2 : wr.cell? (ad'.add k) = some (.int .i64 (gx ys k)) := (hdr.cell _).trans (hc' k hlt)
        have hi1 : 0 ≤ (k : Int) ∧ (k : Int) < (n : Int) := by omega
        clear hc hc'
        by_cases he : gx xs k = gx ys k
        · have hb1 : (gx xs k != gx ys k) = false := by simp [he]
          have Hpre2 := Lib.hid (take_eq_step xs ys k n Hlen.out Hlen'.out hlt hpre.out he)
          clear he
          go_wp2_with fail
          go_quiet (fail)
          go_wp2
          go_roundw
          case rel => exact ⟨k + 1, by omega, by go_num, Hpre2, hdr.drewN _⟩
          case measure => first | (simp [intOf]; done) | (simp [intOf]; omega)
        · have hb1 : (gx xs k != gx ys k) = true := by simp [he]
          have Hres := Lib.hid (ne_of_gx xs ys k he)
          clear he
          go_wp2_with fail
          go_quiet (fail)
          go_wp2
          go_ret
          exact ⟨ret_b Hres.out.symm, hdr.drewN _⟩
      · have hkn : k = n := by omega
        subst hkn
        go_wp2
        go_ret
        refine ⟨?_, hdr⟩
        have e := hpre.out
        rw [List.take_of_length_le (Nat.le_of_eq Hlen.out), List.take_of_length_le (Nat.le_of_eq Hlen'.out)] at e
        subst e
        simp
  · have hne : ((n : Int) != (n' : Int)) = true := by rw [bne_iff_ne]; omega
    have Hres := Lib.hid (ne_of_len xs ys (by rw [Hlen.out, Hlen'.out]; exact hnn))
    go_enter Try.func72, Try.ntmps72
    go_wp2
    go_ret
    exact ⟨ret_b Hres.out.symm, Drawn.refl _⟩
set_option maxHeartbeats 800000 in
/-- Are two lists of lists the same? -/
theorem l01Same2_any (B B' : Nat) (v v' : Value) (xs ys : List (List Int)) (w : World) (h : IsR w B v xs) (h' : IsR w B' v' ys) (hB : B ≤ w.heap.size) (hB' : B' ≤ w.heap.size) :
    Calls Try.prog 70 #[v, v'] w fun e w' => e = .returned (.bool (xs == ys)) ∧ Below w.heap.size w w' := by
  obtain ⟨us, hU⟩ := h
  obtain ⟨us', hU'⟩ := h'
  obtain ⟨A, c, rfl, hnc, hcm, hrd⟩ := hU.sh
  obtain ⟨A', c', rfl, hnc', hcm', hrd'⟩ := hU'.sh
  have He := Lib.hid hU.each
  have He' := Lib.hid hU'.each
  obtain ⟨n, Hn⟩ : ∃ n, Hid (xs.length = n) := ⟨_, Lib.hid rfl⟩
  obtain ⟨n', Hn'⟩ : ∃ n, Hid (ys.length = n) := ⟨_, Lib.hid rfl⟩
  rw [Hn.out] at hnc hrd ⊢
  rw [Hn'.out] at hnc' hrd' ⊢
  unfold maxLen at hcm hcm'
  clear hU hU'
  by_cases hnn : n = n'
  · subst hnn
    have hne : ((n : Int) != (n : Int)) = false := by simp
    go_enter Try.func70, Try.ntmps70
    go_wp2
    go_loopw [5] (fun i wr => ∃ k : Nat, k ≤ n ∧ i = .int .i64 k ∧ Hid (xs.take k = ys.take k) ∧ Drawn w wr) (fun i _ => n - (intOf i).toNat)
    case atStart => exact ⟨0, Nat.zero_le _, rfl, Lib.hid (by simp), Drawn.refl _⟩
    case round =>
      obtain ⟨k, hk, rfl, hpre, hdr⟩ := hrel
      by_cases hlt : k < n
      · obtain ⟨ad, rfl, hab, hc⟩ := hrd (by omega)
        obtain ⟨ad', rfl, hab', hc'⟩ := hrd' (by omega)
        have hc1 : wr.cell? (ad.add k) = some (ux us k) := (hdr.cell _).trans (hc k hlt)
        have hc2 : wr.cell? (ad'.add k) = some (ux us' k) := (hdr.cell _).trans (hc' k hlt)
        have hi1 : 0 ≤ (k : Int) ∧ (k : Int) < (n : Int) := by omega
        have E1 := Lib.hid (He.out k (by rw [Hn.out]; exact hlt))
        have E2 := Lib.hid (He'.out k (by rw [Hn'.out]; exact hlt))
        clear hc hc'
        cases hR : (gxx xs k == gxx ys k)
        · have Hres := Lib.hid (ne_of_gxx xs ys k hR)
          go_wp2_with fail
          go_quiet ((go_at_call 72; exact Calls.quiet_of (l01Same_q B B' _ _ _ _ _ (Is.drewN (Is.drawn E1.out hdr) _) (Is.drewN (Is.drawn E2.out hdr) _))))
          rw [hR]
          go_wp2
          go_ret
          exact ⟨ret_b Hres.out.symm, below_drewN (hdr.below _) _⟩
        · have Hpre2 := Lib.hid (take_eq_step2 xs ys k n Hn.out Hn'.out hlt hpre.out hR)
          go_wp2_with fail
          go_quiet ((go_at_call 72; exact Calls.quiet_of (l01Same_q B B' _ _ _ _ _ (Is.drewN (Is.drawn E1.out hdr) _) (Is.drewN (Is.drawn E2.out hdr) _))))
          rw [hR]
          go_wp2
          go_roundw
          case rel => exact ⟨k + 1, by omega, by go_num, Hpre2, hdr.drewN _⟩
          case measure => first | (simp [intOf]; done) | (simp [intOf]; omega)
      · have hkn : k = n := by omega
        subst hkn
        go_wp2
        go_ret
        refine ⟨?_, hdr.below _⟩
        have e := hpre.out
        rw [List.take_of_length_le (Nat.le_of_eq Hn.out), List.take_of_length_le (Nat.le_of_eq Hn'.out)] at e
        subst e
        simp
  · have hne : ((n : Int) != (n' : Int)) = true := by rw [bne_iff_ne]; omega
    have Hres := Lib.hid (ne_of_len2 xs ys (by rw [Hn.out, Hn'.out]; exact hnn))
    go_enter Try.func70, Try.ntmps70
    go_wp2
    go_ret
    exact ⟨ret_b Hres.out.symm, Below.refl _ _⟩
end WC
end Go.Proofs.Ytcnoaclijhcckaa
namespace Go.Proofs.Ytcnoaclijhcckaa
open Go.RowKit
set_option linter.unusedVariables false
namespace WC
open K Pl WA WL
set_option maxHeartbeats 3200000 in
theorem sBranchOfNewton_any (B : Nat) (v : Value) (xss : List (List Int)) (w : World) (h : IsR w B v xss) (hB : B ≤ w.heap.size) : Calls Try.prog 68 #[v] w (LiB (bopB true xss) w) := by
  have h0 := h
  have hb1 : ∀ o, Below w.heap.size w (w.alloc o) := fun o => (Below.refl _ _).alloc (Nat.le_refl _) o
  obtain ⟨us, hU⟩ := h
  obtain ⟨A, c, rfl, hnc, hcm, hrd⟩ := hU.sh
  have He := Lib.hid hU.each
  obtain ⟨n, Hn⟩ : ∃ n, Hid (xss.length = n) := ⟨_, Lib.hid rfl⟩
  rw [Hn.out] at hnc hrd ⊢
  unfold maxLen at hcm
  clear hU
  have Hh := Lib.hid (show IsR w B (.slice A n c) xss from by rw [Hn.out] at h0; exact h0)
  have hcr0 : (w.alloc (.cells #[.slice none 0 0] 26)).cell? ⟨w.heap.size, 0, none⟩ = some (.slice none 0 0) := by simp [go_sem]
  have hfr0 : (w.alloc (.cells #[.slice none 0 0] 26)).frozen? ⟨w.heap.size, 0, none⟩ = false := by simp [go_sem]
  have hw0 : Below w.heap.size w (w.alloc (.cells #[.slice none 0 0] 26)) := hb1 _
  clear h0 hb1
  cases hP : okP xss
  · have Hr := Lib.hid (bopB_no (added := true) hP)
    have HP := Lib.hid hP
    clear hrd hP
    go_enter Try.func68, Try.ntmps68
    go_wp2_with fail
    refine (l03Pairs_any B _ xss _ (Hh.out.below (hw0.mono hB)) (by simp; omega)).mono ?_
    rintro e w' ⟨rfl, rfl⟩
    rw [prR_no HP.out]
    go_wp2
    exact bodyPost_ret (v := .tuple #[.agg #[.slice none 0 0], .int .i64 2]) (by simp [results, Try.results68, go_sem]) rfl (LiB.nil Hr.out hw0)
  · have HP := Lib.hid hP
    have hp0 := eK_bd hP 0 (Nat.zero_le _)
    have hp1 : 1 ≤ eK xss 0 := prd_pos (okP_true.1 hP).2.1
    have h6 := (okP_true.1 hP).1
    have Hrow := Lib.hid (okP_true.1 hP).2.1
    rw [Hn.out] at h6
    clear hP
    go_enter Try.func68, Try.ntmps68
    go_wp2_with fail
    refine (l03Pairs_any B _ xss _ (Hh.out.below (hw0.mono hB)) (by simp; omega)).mono ?_
    rintro e w' ⟨rfl, rfl⟩
    rw [show prR xss = eK xss 0 from prR_yes HP.out]
    generalize hwr0 : w.alloc (.cells #[.slice none 0 0] 26) = w1 at *
    clear hwr0
    have hcr := hcr0; have hfr := hfr0; have hwr := hw0; clear hcr0 hfr0 hw0
    have hsw1 := hwr.size
    have hlw := World.block_lt_of_cell? w1 ⟨w.heap.size, 0, none⟩ hcr
    have hpe : (eK xss 0 == 0) = false := by rw [beq_eq_false_iff_ne]; omega
    have hv0 := Lib.hid (show Bv ((w1.alloc (.cells #[.int .i64 (eK xss 0)] 2)).alloc (.cells #[.slice (some ⟨w1.heap.size, 0, none⟩) 1 1] 26)) (w1.heap.size + 1) w1.heap.size (some ⟨w1.heap.size, 0, none⟩) 1 1 (bpL true xss 0) from Bv.lit w1 (eK xss 0) (Nat.le_refl _))
    have hbe0 : ∀ o o', Below w1.heap.size w1 ((w1.alloc o).alloc o') := fun o o' => ((Below.refl _ _).alloc (Nat.le_refl _) _).alloc (by simp) _
    go_wp2
    go_loopw [6, 7, 8] (fun u l i wr => ∃ (k m : Nat) (A6 : Option Addr) (c6 : Nat), k ≤ n ∧ m ≤ k + 1 ∧ i = .int .i64 (k : Int) ∧ u = .int .i64 (eK xss k) ∧ l = .int .i64 (lsT true xss k) ∧ Hid (Bv wr (w1.heap.size + 1) w1.heap.size A6 m c6 (bpL true xss k)) ∧ Below w1.heap.size w1 wr) (fun _ _ i _ => n - (intOf i).toNat)
    case atStart => exact ⟨0, 1, _, 1, Nat.zero_le _, by omega, rfl, rfl, rfl, hv0, hbe0 _ _⟩
    case round =>
      clear hv0 hbe0
      obtain ⟨k, m, A6, c6, hk, hmk, rfl, rfl, rfl, hv, hbe⟩ := hrel
      have hs := hbe.size
      have hbd := hv.out.bounds
      have hbv := hv.out.lt
      by_cases hlt : k < n
      · obtain ⟨ad, rfl, hab, hc⟩ := hrd (by omega)
        have hc1 : wr.cell? (ad.add k) = some (ux us k) := (hbe.cell (by rw [block_of_add]; omega)).trans ((hwr.cell (by rw [block_of_add]; omega)).trans (hc k hlt))
        obtain ⟨Ak, nk, ck, euk, hnck, hcmk, hrdk⟩ := He.out k (by rw [Hn.out]; exact hlt)
        rw [euk] at hc1
        have hok := Hrow.out k (by rw [Hn.out]; exact hlt)
        have hrr := okRow_true.1 hok
        have hln := hrdk.len
        have hnk : nk = 2 := by omega
        subst hnk
        obtain ⟨ak, rfl, habk, hck⟩ := hrdk.pos (by omega)
        have hck0 : wr.cell? ak = some (.int .i64 (gx (gxx xss k) 0)) := (hbe.cell (by omega)).trans ((hwr.cell (by omega)).trans (by have := hck 0 (by omega); simpa [Addr.add] using this))
        have hck1 : wr.cell? ⟨ak.block, ak.off + 1, none⟩ = some (.int .i64 (gx (gxx xss k) 1)) := (hbe.cell (p := ⟨ak.block, ak.off + 1, none⟩) (by show ak.block < _; omega)).trans ((hwr.cell (p := ⟨ak.block, ak.off + 1, none⟩) (by show ak.block < _; omega)).trans (by have := hck 1 (by omega); simpa [Addr.add] using this))
        have hi1 : 0 ≤ (k : Int) ∧ (k : Int) < (n : Int) := by omega
        have hek := eK_bd HP.out k (by rw [Hn.out]; omega)
        have hrx := hrr.2.1
        have hry := hrr.2.2
        have hd0 : ¬ gx (gxx xss k) 1 = 0 := by omega
        have hq := (div_eq64 (a := eK xss k) (b := gx (gxx xss k) 1) hek.1 hry.1 (by omega)).1
        have Hs1 := Lib.hid (eK_succ xss k)
        have ht := trm_bd HP.out k (by rw [Hn.out]; exact hlt)
        rw [Hs1.out] at ht
        have hl := lsT_bd6 (added := true) HP.out k (by rw [Hn.out]; omega)
        have Hs3 := Lib.hid (show lsT true xss (k + 1) = (lsT true xss k + gx (gxx xss k) 0 * (eK xss k / gx (gxx xss k) 1)) by rw [lsT_new, Hs1.out]; omega)
        have Hs2 := Lib.hid (show bpL true xss (k + 1) = bpL true xss k ++ [(lsT true xss k + gx (gxx xss k) 0 * (eK xss k / gx (gxx xss k) 1))] by rw [bpL_snoc, Hs3.out])
        have hwm : IntKind.i64.wrap (gx (gxx xss k) 0 * (eK xss k / gx (gxx xss k) 1)) = gx (gxx xss k) 0 * (eK xss k / gx (gxx xss k) 1) := IntWalk.i64_in _ (by omega)
        unfold maxLen at hcmk
        clear hc euk hck hrdk hln hrr hok
        have hcx := hv.out.cell
        have hfx := hv.out.free
        go_wp2_with (at_builtin; refine wp_append_i rfl _ _ rfl w1.heap.size _ m (bpL true xss k) rfl (hv.out.own.alloc _) wr.heap.size (lsT true xss k + gx (gxx xss k) 0 * (eK xss k / gx (gxx xss k) 1)) 1 rfl (by simp) (by omega) (by simp; omega) ?_)
        intro g' cap' w2 hown2 hgrow hat hlt2
        obtain ⟨q1, q2⟩ := hv.out.after hgrow rfl
        have Hv2 := Lib.hid (hv.out.step (y := (lsT true xss k + gx (gxx xss k) 0 * (eK xss k / gx (gxx xss k) 1))) (g := g') (cap := cap') hgrow rfl (by simpa using hown2) (by rw [World.size_alloc]; exact hat))
        rw [← Hs2.out] at Hv2
        have hbe2 := hv.out.below (Nat.le_succ _) (Nat.le_refl _) hbe hgrow ⟨rfl, rfl, rfl, rfl⟩ (.slice (some ⟨g', 0, none⟩) (m + 1) cap')
        clear hv hown2 hgrow hat hbe hcx hfx
        go_wp2
        go_roundw
        case rel => exact ⟨k + 1, m + 1, _, _, by omega, by omega, by go_num, by rw [Hs1.out], by rw [Hs3.out], Hv2, hbe2⟩
        case measure => first | (simp [intOf]; done) | (simp [intOf]; omega)
      · obtain rfl : k = n := by omega
        have hcx := hv.out.cell
        have hsw := hwr.size
        have hbw := hwr.trans (hbe.mono hsw)
        have hsb := hbw.size
        have hlo := hv.out.lt
        have Hm2 := Lib.hid ((hv.out.ow (Nat.le_refl _)).is)
        have hcr2 : wr.cell? ⟨w.heap.size, 0, none⟩ = some (.slice none 0 0) := (hbe.cell (p := ⟨w.heap.size, 0, none⟩) (by show w.heap.size < _; omega)).trans hcr
        have hfr2 : wr.frozen? ⟨w.heap.size, 0, none⟩ = false := (hbe.frozen (p := ⟨w.heap.size, 0, none⟩) (by show w.heap.size < _; omega)).trans hfr
        clear hcr hfr
        cases hR : isBr (bpL true xss k)
        · have Hr := Lib.hid (bopB_br HP.out (by rw [Hn.out]; exact hR))
          go_wp2_with fail
          refine (l03Is_any _ _ (bpL true xss k) _ Hm2.out (Nat.le_refl _)).mono ?_
          rintro e w3 ⟨rfl, hb3⟩
          rw [hR]
          have hcr3 := (hb3.cell (p := ⟨w.heap.size, 0, none⟩) (by show w.heap.size < _; omega)).trans hcr2
          have hfr3 := (hb3.frozen (p := ⟨w.heap.size, 0, none⟩) (by show w.heap.size < _; omega)).trans hfr2
          obtain ⟨n1, n2⟩ := res_none (b := w.heap.size) hcr3 (by omega) (hbw.trans (hb3.mono hsb))
          have N2 := Lib.hid n2
          clear n2 hb3 hbw hbe hcr2 hfr2
          go_wp2
          exact bodyPost_ret (v := .tuple #[.agg #[.slice none 0 0], .int .i64 5]) (by simp [results, Try.results68, go_sem, n1]) rfl (LiB.nil Hr.out N2.out)
        · have HR := Lib.hid hR
          go_wp2_with fail
          refine (l03Is_any _ _ (bpL true xss k) _ Hm2.out (Nat.le_refl _)).mono ?_
          rintro e w3 ⟨rfl, hb3⟩
          rw [hR]
          have hv3 := Lib.hid (hv.out.later hb3)
          have hcx3 := hv3.out.cell
          have hb3s := hb3.size
          have hcr3 := (hb3.cell (p := ⟨w.heap.size, 0, none⟩) (by show w.heap.size < _; omega)).trans hcr2
          have hfr3 := (hb3.frozen (p := ⟨w.heap.size, 0, none⟩) (by show w.heap.size < _; omega)).trans hfr2
          have hbw3 := hbw.trans (hb3.mono hsb)
          have Hm3 := Lib.hid ((hv3.out.ow (Nat.le_refl _)).is)
          clear hb3 hbe hbw hcx hcr2 hfr2 hR hv
          go_wp2_with fail
          refine (l03Newton_any _ _ (bpL true xss k) _ Hm3.out (Nat.le_refl _) HR.out).mono ?_
          rintro e w4 ⟨v4, rfl, ow4, hb4⟩
          have hv4 := Lib.hid (hv3.out.later hb4)
          have hcx4 := hv4.out.cell
          have hb4s := hb4.size
          have hcr4 := (hb4.cell (p := ⟨w.heap.size, 0, none⟩) (by show w.heap.size < _; omega)).trans hcr3
          have hfr4 := (hb4.frozen (p := ⟨w.heap.size, 0, none⟩) (by show w.heap.size < _; omega)).trans hfr3
          have hbw4 := hbw3.trans (hb4.mono hbw3.size)
          have Hm4 := Lib.hid ((hv4.out.ow (Nat.le_refl _)).is)
          clear hb4 hbw3 hcx3 hcr3 hfr3 hv3
          have Hpr := Lib.hid (Hh.out.below (hbw4.mono hB))
          cases hE : (newL (bpL true xss k) ((bpL true xss k).length - 1) == xss)
          · have Hr := Lib.hid (bopB_ne HP.out (by rw [Hn.out]; exact HR.out) (by rw [Hn.out]; exact hE))
            go_wp2_with fail
            refine (l01Same2_any _ _ _ _ (newL (bpL true xss k) ((bpL true xss k).length - 1)) xss _ ow4.is Hpr.out (Nat.le_refl _) (by omega)).mono ?_
            rintro e w6 ⟨rfl, hb6⟩
            rw [hE]
            have hcr6 := (hb6.cell (p := ⟨w.heap.size, 0, none⟩) (by show w.heap.size < _; omega)).trans hcr4
            have hfr6 := (hb6.frozen (p := ⟨w.heap.size, 0, none⟩) (by show w.heap.size < _; omega)).trans hfr4
            obtain ⟨n1, n2⟩ := res_none (b := w.heap.size) hcr6 (by omega) (hbw4.trans (hb6.mono hbw4.size))
            have N2 := Lib.hid n2
            clear n2 hb6 ow4
            go_wp2
            exact bodyPost_ret (v := .tuple #[.agg #[.slice none 0 0], .int .i64 5]) (by simp [results, Try.results68, go_sem, n1]) rfl (LiB.nil Hr.out N2.out)
          · have Hr := Lib.hid (bopB_yes HP.out (by rw [Hn.out]; exact HR.out) (by rw [Hn.out]; exact hE))
            rw [Hn.out] at Hr
            go_wp2_with fail
            refine (l01Same2_any _ _ _ _ (newL (bpL true xss k) ((bpL true xss k).length - 1)) xss _ ow4.is Hpr.out (Nat.le_refl _) (by omega)).mono ?_
            rintro e w6 ⟨rfl, hb6⟩
            rw [hE]
            have hv6 := hv4.out.later hb6
            have hcx6 := hv6.cell
            have hcr6 := (hb6.cell (p := ⟨w.heap.size, 0, none⟩) (by show w.heap.size < _; omega)).trans hcr4
            have hfr6 := (hb6.frozen (p := ⟨w.heap.size, 0, none⟩) (by show w.heap.size < _; omega)).trans hfr4
            obtain ⟨r1, r2, r3⟩ := res_out hv6 (b := w.heap.size) (by omega) hcr6 (by omega) (hbw4.trans (hb6.mono hbw4.size))
            have R2 := Lib.hid r2; have R3 := Lib.hid r3
            clear r2 r3 hb6 hv6 ow4
            go_wp2
            exact bodyPost_ret (v := .tuple #[.agg #[.slice A6 m c6], .int .i64 0]) (by simp [results, Try.results68, go_sem, r1]) rfl ⟨_, by rw [Hr.out], by rw [Hr.out]; exact R2.out, R3.out⟩
end WC
end Go.Proofs.Ytcnoaclijhcckaa
