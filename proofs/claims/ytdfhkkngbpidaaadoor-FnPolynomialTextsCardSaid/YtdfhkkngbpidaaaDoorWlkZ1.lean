/-
  WALKS, CHAPTER 2: the text of a polynomial by the program.
-/
import Derived.Test.YtdfhkkngbpidaaaDoorKitD
import Derived.Test.YtdfhkkngbpidaaaDoorPlZ
import Derived.Test.YtdfhkkngbpidaaaDoorWlkB4
import Derived.Test.YtdfhkkngbpidaaaDoorWlkX1
import Derived.Deep.CutRange
import Derived.Deep.CutBlock
namespace Go.Proofs.YtdfhkkngbpidaaaDoor
open Go.RowKit
set_option linter.unusedVariables false
namespace WZ
open K Pl WA WW WX
set_option maxHeartbeats 1600000 in
theorem polynomialText_any (A : Option Addr) (n c0 : Nat) (xs : List Int) (w : World) (ht : Tab w) (hn : xs.length = n) (hnb : n ≤ 2001) (hcap : c0 ≤ maxLen) (hnc : n ≤ c0)
    (hcell : 0 < n → ∃ ad, A = some ad ∧ ad.block < w.heap.size ∧ ∀ j, j < n → w.cell? (ad.add j) = some (.int .i64 (gx xs j)))
    (hbd : ∀ k, -1000000000000000 ≤ gx xs k ∧ gx xs k ≤ 1000000000000000) :
    Calls Tryd.prog 23 #[.slice A n c0] w fun e w' => e = .returned (.string (S (ptx xs))) ∧ Below w.heap.size w w' := by
  rcases Nat.eq_zero_or_pos n with h0 | h0
  · subst h0
    have Hr := Lib.hid (show ptx xs = [48] by unfold ptx; rw [if_pos hn])
    clear hcell hbd hn
    go_enter Tryd.func23, Tryd.ntmps23
    go_wp2_with fail
    go_ret
    exact ⟨ret_s (by rw [Hr.out]; rfl), Below.refl _ _⟩
  · obtain ⟨ad, rfl, hab, hc⟩ := hcell h0
    have Hr := Lib.hid (show ptx xs = pTd xs 0 by unfold ptx; rw [if_neg (by omega)])
    have e0 : ((n : Int) == 0) = false := beqF (by omega)
    have hlen := pTd_len xs (by omega) hbd
    go_enter Tryd.func23, Tryd.ntmps23
    go_wp2_with fail
    go_loopw [3, 4] (fun t i wr => ∃ (m : Nat) (z : Int), m ≤ n ∧ t = .string (S (pTd xs m)) ∧ i = .int .i64 z ∧ Hid (z + 1 = (m : Int)) ∧ Below w.heap.size w wr) (fun _ i _ => (intOf i + 1).toNat)
    case atStart => exact ⟨n, (n : Int) - 1, Nat.le_refl _, by rw [← hn, pTd_end]; rfl, rfl, Lib.hid (by omega), Below.refl _ _⟩
    case round =>
      obtain ⟨m, z, hm, rfl, rfl, Hz, hbe⟩ := hrel
      rcases m with _ | j
      · have Hz2 := Hz.out
        have e1 : decide (0 ≤ z) = false := by simp; omega
        clear Hz
        go_wp2_with fail
        go_ret
        exact ⟨ret_s (by rw [Hr.out]), hbe⟩
      · have ez : z = (j : Int) := by have := Hz.out; omega
        subst ez
        clear Hz
        have hjn : j < n := by omega
        have hcj := (hbe.cell (by rw [block_of_add]; exact hab)).trans (hc j hjn)
        have hbj := hbd j
        have hl1 := hlen (j + 1) (by omega)
        have Hst := Lib.hid (pTd_step xs j (by omega))
        generalize gx xs j = c at *
        by_cases hc0 : c = 0
        · subst hc0
          rw [stp_zero] at Hst
          go_wp2_with fail
          exact ⟨⟨j, (j : Int) - 1, by omega, by rw [Hst.out], rfl, Lib.hid (by omega), hbe⟩, by simp [intOf]⟩
        · have e1 : (c == 0) = false := beqF hc0
          have Hst2 := Lib.hid (stp_more hc0 (pTd xs (j + 1)) j)
          rw [← Hst.out] at Hst2
          clear Hst
          have hT1 := ht.later hbe
          have hl1' : (pTd xs (j + 1)).length ≤ 60000 := by omega
          have hq : (plT (pTd xs (j + 1)) c).length ≤ 1 := by unfold plT; split <;> simp
          generalize pTd xs (j + 1) = y0 at *
          have hys : (S y0).size ≤ 60000 := by rw [S_size]; omega
          obtain ⟨P, HP⟩ : ∃ P : Bool, Hid (P = decide (y0 ≠ [] ∧ 0 < c)) := ⟨_, Lib.hid rfl⟩
          go_upto_region 9 with fail
          go_cut [27] from 12 to 62 (fun t wx => t = .bool P ∧ wr = wx)
          case first =>
            by_cases hE : y0 = []
            · have t1 : (S y0).toList.isEmpty = true := by rw [toList_L, L_S, hE]; rfl
              have hP : P = false := by rw [HP.out, hE]; simp
              clear hE
              go_wp2_with fail
              go_meet
              exact ⟨by rw [hP], rfl⟩
            · have t1 : (S y0).toList.isEmpty = false := by rw [toList_L, L_S]; simpa using hE
              have hP := Lib.hid (show P = decide (0 < c) by rw [HP.out]; simp [hE])
              clear hE
              go_wp2_with fail
              go_meet
              exact ⟨by rw [hP.out], rfl⟩
          case rest =>
          obtain ⟨rfl, rfl⟩ := hcut
          go_upto_if 27 with fail
          go_cut [3] from 12 to 62 (fun t wx => t = .string (S (y0 ++ plT y0 c)) ∧ wr = wx)
          case first =>
            cases P
            · have Hq := Lib.hid (show y0 ++ plT y0 c = y0 by unfold plT; rw [if_neg (of_decide_eq_false HP.out.symm)]; simp)
              go_wp2_with fail
              go_meet
              exact ⟨by rw [Hq.out], rfl⟩
            · have Hq := Lib.hid (show S (y0 ++ plT y0 c) = S y0 ++ ({ data := #[43] } : ByteArray) by unfold plT; rw [if_pos (of_decide_eq_true HP.out.symm)]; rfl)
              go_wp2_with fail
              go_meet
              exact ⟨by rw [Hq.out], rfl⟩
          case rest =>
          obtain ⟨rfl, rfl⟩ := hcut
          clear HP
          have hl2 : (y0 ++ plT y0 c).length ≤ 60001 := by rw [List.length_append]; omega
          generalize y0 ++ plT y0 c = y1 at *
          clear hys hl1 hl1' hq hn hlen
          have hys : (S y1).size ≤ 60001 := by rw [S_size]; omega
          have hsc := S_size_sgn c hbj.1 hbj.2
          go_upto_block 2 with fail
          go_cut [3] from 12 to 62 (fun t wx => t = .string (S (y1 ++ cfT j c)) ∧ Below wr.heap.size wr wx)
          case first =>
            by_cases hj : j = 0
            · have t1 : ((j : Int) == 0) = true := beqT (by omega)
              have Hq := Lib.hid (show S (y1 ++ cfT j c) = S y1 ++ S (sgnI c) by unfold cfT; rw [if_pos (.inl hj), S_append])
              clear hj
              go_wp2_with fail
              refine (decimal_any _ (by omega) (by omega) _ hT1).mono ?_
              rintro e w1 ⟨rfl, hb1⟩
              go_wp2_with fail
              go_meet
              exact ⟨by rw [Hq.out], hb1⟩
            · have t1 : ((j : Int) == 0) = false := beqF (by omega)
              by_cases h1 : c = 1
              · have t2 : (c != 1) = false := by simp [h1]
                have t3 : (c == -1) = false := by simp [h1]
                have Hq := Lib.hid (show y1 ++ cfT j c = y1 by unfold cfT; rw [if_neg (by omega), if_neg (by omega), List.append_nil])
                clear h1 hj
                go_wp2_with fail
                go_meet
                exact ⟨by rw [Hq.out], Below.refl _ _⟩
              · by_cases h2 : c = -1
                · have t2 : (c != 1) = true := by simp [h1]
                  have t3 : (c == -1) = true := by simp [h2]
                  have t4 : (c != -1) = false := by simp [h2]
                  have Hq := Lib.hid (show S (y1 ++ cfT j c) = S y1 ++ ({ data := #[45] } : ByteArray) by unfold cfT; rw [if_neg (by omega), if_pos h2]; rfl)
                  clear h1 h2 hj
                  go_wp2_with fail
                  go_meet
                  exact ⟨by rw [Hq.out], Below.refl _ _⟩
                · have t2 : (c != 1) = true := by simp [h1]
                  have t4 : (c != -1) = true := by simp [h2]
                  have Hq := Lib.hid (show S (y1 ++ cfT j c) = S y1 ++ S (sgnI c) by unfold cfT; rw [if_pos (.inr ⟨h1, h2⟩), S_append])
                  clear h1 h2
                  clear hj
                  go_wp2_with fail
                  refine (decimal_any _ (by omega) (by omega) _ hT1).mono ?_
                  rintro e w1 ⟨rfl, hb1⟩
                  go_wp2_with fail
                  go_meet
                  exact ⟨by rw [Hq.out], hb1⟩
          case rest =>
          obtain ⟨rfl, hbc⟩ := hcut
          have hT2 := hT1.later hbc
          have hbe2 := hbe.trans (hbc.mono hbe.size)
          have hl3 : (y1 ++ cfT j c).length ≤ 60018 := by
            have : (cfT j c).length ≤ 17 := by
              have := sgnI_size c hbj.1 hbj.2
              unfold cfT; split
              · omega
              · split <;> simp
            rw [List.length_append]; omega
          have Hst3 := Lib.hid (show pTd xs j = (y1 ++ cfT j c) ++ pwT j by rw [Hst2.out]; unfold tmT; simp)
          generalize y1 ++ cfT j c = y2 at *
          clear Hst2 hys hsc hl2 hT1 hbc hbe e1 hc0
          have hys : (S y2).size ≤ 60018 := by rw [S_size]; omega
          have hsj := S_size_sgn j (by omega) (by omega)
          by_cases h0j : j = 0
          · have t1 : ((j : Int) == 1) = false := beqF (by omega)
            have t2 : decide (1 < (j : Int)) = false := by simp; omega
            have Hq := Lib.hid (show pTd xs j = y2 by rw [Hst3.out]; unfold pwT; rw [if_pos h0j, List.append_nil])
            clear h0j
            go_wp2_with fail
            exact ⟨⟨j, (j : Int) - 1, by omega, by rw [Hq.out], rfl, Lib.hid (by omega), hbe2⟩, by simp [intOf]⟩
          · by_cases h1j : j = 1
            · have t1 : ((j : Int) == 1) = true := beqT (by omega)
              have Hq := Lib.hid (show S (pTd xs j) = S y2 ++ ({ data := #[116] } : ByteArray) by rw [Hst3.out]; unfold pwT; rw [if_neg h0j, if_pos h1j]; rfl)
              clear h0j h1j
              go_wp2_with fail
              exact ⟨⟨j, (j : Int) - 1, by omega, by rw [Hq.out], rfl, Lib.hid (by omega), hbe2⟩, by simp [intOf]⟩
            · have t1 : ((j : Int) == 1) = false := beqF (by omega)
              have t2 : decide (1 < (j : Int)) = true := by simp; omega
              have Hq := Lib.hid (show S (pTd xs j) = S y2 ++ (({ data := #[116, 94] } : ByteArray) ++ S (sgnI j)) by
                have e : ({ data := #[116, 94] } : ByteArray) = S [116, 94] := rfl
                rw [Hst3.out, e, S_append, S_append]; unfold pwT; rw [if_neg h0j, if_neg h1j, sgnI_pos (show ¬ (j : Int) < 0 by omega), decI_nat]; rfl)
              clear h0j h1j
              go_wp2_with fail
              refine (decimal_any _ (by omega) (by omega) _ hT2).mono ?_
              rintro e w1 ⟨rfl, hb1⟩
              have hbe3 := hbe2.trans (hb1.mono hbe2.size)
              go_wp2_with fail
              exact ⟨⟨j, (j : Int) - 1, by omega, by rw [Hq.out], rfl, Lib.hid (by omega), hbe3⟩, by simp [intOf]⟩
theorem hd_byte (k : Nat) {c : Int} (hc : c ≠ 0) (h : 0 < (S (tmT k c)).size) : ((((S (tmT k c))[0]).toNat : Int) != 45) = decide (0 < c) := by
  rw [L_nat _ 0 h, L_S]
  by_cases h0 : c < 0
  · rw [tmT_neg k h0]
    have : decide (0 < c) = false := by simp; omega
    rw [this]; rfl
  · have hp : 0 < c := by omega
    rw [tmT_pos k hp]
    have e : decide (0 < c) = true := by simpa using hp
    rw [e]
    have hb : bx (bT k c.toNat) 0 ≠ 45 := by
      have hne := bT_ne k c.toNat
      rcases bT_head k c.toNat [] 45 (by decide) (by decide) with h1 | h1
      · rw [List.append_nil] at h1
        rcases hl : bT k c.toNat with _ | ⟨x, r⟩
        · exact absurd hl hne
        · rw [hl] at h1
          intro e2
          exact h1 (congrArg some e2)
      · exact absurd h1 hne
    have := bytes_ne hb
    simp only [bne, Bool.not_eq_true']
    exact this
/-- A power as the reference begins it. -/
def tq (k : Nat) : List UInt8 := if k = 1 then [116] else 116 :: 94 :: dec k
theorem tq_pw {k : Nat} (h : k ≠ 0) : tq k = pwT k := by unfold tq pwT; rw [if_neg h]
set_option maxHeartbeats 1600000 in
theorem l02Text_any (A : Option Addr) (n c0 : Nat) (xs : List Int) (w : World) (hn : xs.length = n) (hnb : n ≤ 2001) (hcap : c0 ≤ maxLen) (hnc : n ≤ c0)
    (hcell : 0 < n → ∃ ad, A = some ad ∧ ad.block < w.heap.size ∧ ∀ j, j < n → w.cell? (ad.add j) = some (.int .i64 (gx xs j)))
    (hbd : ∀ k, -1000000000000000 ≤ gx xs k ∧ gx xs k ≤ 1000000000000000) (hlast : n = 0 ∨ gx xs (xs.length - 1) ≠ 0) :
    Calls Tryd.prog 25 #[.slice A n c0] w fun e w' => e = .returned (.string (S (ptx xs))) ∧ Below w.heap.size w w' := by
  have hlen := pTd_len xs (by omega) hbd
  go_enter Tryd.func25, Tryd.ntmps25
  go_wp2_with fail
  go_loopw [3, 4] (fun t i wr => ∃ (m : Nat) (z : Int), m ≤ n ∧ t = .string (S (pTd xs m)) ∧ i = .int .i64 z ∧ Hid (z + 1 = (m : Int)) ∧ Below w.heap.size w wr) (fun _ i _ => (intOf i + 1).toNat)
  case atStart => exact ⟨n, (n : Int) - 1, Nat.le_refl _, by rw [← hn, pTd_end]; rfl, rfl, Lib.hid (by omega), Below.refl _ _⟩
  case round =>
    obtain ⟨m, z, hm, rfl, rfl, Hz, hbe⟩ := hrel
    rcases m with _ | j
    · have Hz2 := Hz.out
      have e1 : decide (0 ≤ z) = false := by simp; omega
      clear Hz
      rcases Nat.eq_zero_or_pos n with h0 | h0
      · have Hr := Lib.hid (show ptx xs = [48] by unfold ptx; rw [if_pos (by omega)])
        have t1 : (S (pTd xs 0)).toList.isEmpty = true := by
          have := pTd_end xs
          rw [show xs.length = 0 by omega] at this
          rw [toList_L, L_S, this]; rfl
        clear h0 hcell hlast
        go_wp2_with fail
        go_ret
        exact ⟨ret_s (by rw [Hr.out]; rfl), hbe⟩
      · have Hr := Lib.hid (show ptx xs = pTd xs 0 by unfold ptx; rw [if_neg (by omega)])
        have t1 : (S (pTd xs 0)).toList.isEmpty = false := by
          have := pTd_ne (xs := xs) (by rcases hlast with h | h; omega; exact h) 0 (by omega)
          rw [toList_L, L_S]; simpa using this
        clear h0 hcell hlast
        go_wp2_with fail
        go_ret
        exact ⟨ret_s (by rw [Hr.out]), hbe⟩
    · have ez : z = (j : Int) := by have := Hz.out; omega
      subst ez
      clear Hz
      obtain ⟨ad, rfl, hab, hc⟩ := hcell (by omega)
      have hjn : j < n := by omega
      have hcj0 := hc j hjn
      have habj : (ad.add j).block < w.heap.size := by rw [block_of_add]; exact hab
      have hcj := (hbe.cell habj).trans hcj0
      have hbj := hbd j
      have hl1 := hlen (j + 1) (by omega)
      have Hst := Lib.hid (pTd_step xs j (by omega))
      clear hlast
      generalize gx xs j = c at *
      by_cases hc0 : c = 0
      · subst hc0
        rw [stp_zero] at Hst
        go_wp2_with fail
        exact ⟨⟨j, (j : Int) - 1, by omega, by rw [Hst.out], rfl, Lib.hid (by omega), hbe⟩, by simp [intOf]⟩
      · have e1 : (c == 0) = false := beqF hc0
        have Hst2 := Lib.hid (stp_more hc0 (pTd xs (j + 1)) j)
        rw [← Hst.out] at Hst2
        clear Hst
        have hl1' : (pTd xs (j + 1)).length ≤ 60000 := by omega
        have hq : (plT (pTd xs (j + 1)) c).length ≤ 1 := by unfold plT; split <;> simp
        generalize pTd xs (j + 1) = y0 at *
        have hys : (S y0).size ≤ 60000 := by rw [S_size]; omega
        have hsj := S_size_dec j (by omega) (by omega)
        rw [decI_nat] at hsj
        have hsc := S_size_sgn c hbj.1 hbj.2
        go_wp2_with fail
        refine (l01Dec_any j _ (by omega)).mono ?_
        rintro e w1 ⟨rfl, hb1⟩
        have hbe1 := hbe.trans (hb1.mono hbe.size)
        have hcj1 := (hbe1.cell habj).trans hcj0
        clear hcj hbe hb1
        go_upto_if 22 with fail
        go_cut [5] from 9 to 63 (fun t wx => t = .string (S (tq j)) ∧ w1 = wx)
        case first =>
          by_cases h1j : j = 1
          · have t1 : ((j : Int) == 1) = true := beqT (by omega)
            have Hq := Lib.hid (show S (tq j) = ({ data := #[116] } : ByteArray) by unfold tq; rw [if_pos h1j]; rfl)
            clear h1j
            go_wp2_with fail
            go_meet
            exact ⟨by rw [Hq.out], rfl⟩
          · have t1 : ((j : Int) == 1) = false := beqF (by omega)
            have Hq := Lib.hid (show S (tq j) = ({ data := #[116, 94] } : ByteArray) ++ S (dec j) by
              have e : ({ data := #[116, 94] } : ByteArray) = S [116, 94] := rfl
              unfold tq; rw [if_neg h1j, e, S_append]; rfl)
            clear h1j
            go_wp2_with fail
            go_meet
            exact ⟨by rw [Hq.out], rfl⟩
        case rest =>
        obtain ⟨rfl, rfl⟩ := hcut
        have htq : (S (tq j)).size ≤ 20 := by
          have e : ({ data := #[116, 94] } : ByteArray) = S [116, 94] := rfl
          have : (tq j).length ≤ 2 + (dec j).length := by unfold tq; split <;> simp <;> omega
          rw [S_size] at hsj ⊢; omega
        clear hsj
        go_upto_block 2 with fail
        go_cut [5] from 9 to 63 (fun t wx => t = .string (S (tmT j c)) ∧ Below w1.heap.size w1 wx)
        case first =>
          by_cases h0j : j = 0
          · have t1 : ((j : Int) == 0) = true := beqT (by omega)
            have Hq := Lib.hid (show S (tmT j c) = S (sgnI c) by unfold tmT cfT pwT; rw [if_pos (.inl h0j), if_pos h0j, List.append_nil])
            clear h0j
            go_wp2_with fail
            refine (l01Signed_any c hbj.1 hbj.2 _).mono ?_
            rintro e w2 ⟨rfl, hb2⟩
            go_wp2_with fail
            go_meet
            exact ⟨by rw [Hq.out], hb2⟩
          · have t1 : ((j : Int) == 0) = false := beqF (by omega)
            by_cases h2 : c = -1
            · have t2 : (c == -1) = true := beqT h2
              have Hq := Lib.hid (show S (tmT j c) = ({ data := #[45] } : ByteArray) ++ S (tq j) by
                have e : ({ data := #[45] } : ByteArray) = S [45] := rfl
                unfold tmT cfT; rw [if_neg (by omega), if_pos h2, ← tq_pw h0j, e, S_append])
              clear h0j h2
              go_wp2_with fail
              go_meet
              exact ⟨by rw [Hq.out], Below.refl _ _⟩
            · have t2 : (c == -1) = false := beqF h2
              by_cases h1 : c = 1
              · have t3 : (c != 1) = false := by simp [h1]
                have Hq := Lib.hid (show S (tmT j c) = S (tq j) by
                  unfold tmT cfT; rw [if_neg (by omega), if_neg h2, ← tq_pw h0j, List.nil_append])
                clear h0j h2 h1
                go_wp2_with fail
                go_meet
                exact ⟨by rw [Hq.out], Below.refl _ _⟩
              · have t3 : (c != 1) = true := by simp [h1]
                have Hq := Lib.hid (show S (tmT j c) = S (sgnI c) ++ S (tq j) by
                  unfold tmT cfT; rw [if_pos (.inr ⟨h1, h2⟩), ← tq_pw h0j, S_append])
                clear h0j h2 h1
                go_wp2_with fail
                refine (l01Signed_any c hbj.1 hbj.2 _).mono ?_
                rintro e w2 ⟨rfl, hb2⟩
                go_wp2_with fail
                go_meet
                exact ⟨by rw [Hq.out], hb2⟩
        case rest =>
        obtain ⟨rfl, hb2⟩ := hcut
        have hbe2 := hbe1.trans (hb2.mono hbe1.size)
        clear hb2 hcj1 hbe1 hsc htq
        have htl := tmT_len j c (by omega) hbj.1 hbj.2
        have hts : (S (tmT j c)).size ≤ 28 := by rw [S_size]; exact htl
        have htn := tmT_ne j hc0
        have ht0 : 0 < (S (tmT j c)).size := by rw [S_size]; exact List.length_pos_iff.2 htn
        have Hhd := hd_byte j hc0 ht0
        obtain ⟨tl, htl2⟩ : ∃ tl, Hid (tl = tmT j c) := ⟨_, Lib.hid rfl⟩
        rw [← htl2.out] at Hst2
        have Htm := Lib.hid (show S (tmT j c) = S tl by rw [htl2.out])
        clear htl2
        obtain ⟨P, HP⟩ : ∃ P : Bool, Hid (P = decide (y0 ≠ [] ∧ 0 < c)) := ⟨_, Lib.hid rfl⟩
        generalize S (tmT j c) = tm at *
        go_upto_region 15 with fail
        go_cut [58] from 9 to 63 (fun t wx => t = .bool P ∧ wc = wx)
        case first =>
          by_cases hE : y0 = []
          · have t1 : (S y0).toList.isEmpty = true := by rw [toList_L, L_S, hE]; rfl
            have hP : P = false := by rw [HP.out, hE]; simp
            clear hE
            go_wp2_with fail
            go_meet
            exact ⟨by rw [hP], rfl⟩
          · have t1 : (S y0).toList.isEmpty = false := by rw [toList_L, L_S]; simpa using hE
            have hP := Lib.hid (show P = decide (0 < c) by rw [HP.out]; simp [hE])
            clear hE
            go_wp2_with fail
            go_meet
            exact ⟨by rw [hP.out], rfl⟩
        case rest =>
        obtain ⟨rfl, rfl⟩ := hcut
        clear Hhd ht0
        go_upto_if 58 with fail
        go_cut [3] from 9 to 63 (fun t wx => t = .string (S (y0 ++ plT y0 c)) ∧ wc = wx)
        case first =>
          cases P
          · have Hq := Lib.hid (show y0 ++ plT y0 c = y0 by unfold plT; rw [if_neg (of_decide_eq_false HP.out.symm)]; simp)
            go_wp2_with fail
            go_meet
            exact ⟨by rw [Hq.out], rfl⟩
          · have Hq := Lib.hid (show S (y0 ++ plT y0 c) = S y0 ++ ({ data := #[43] } : ByteArray) by unfold plT; rw [if_pos (of_decide_eq_true HP.out.symm)]; rfl)
            go_wp2_with fail
            go_meet
            exact ⟨by rw [Hq.out], rfl⟩
        case rest =>
        obtain ⟨rfl, rfl⟩ := hcut
        have hl2 : (S (y0 ++ plT y0 c)).size ≤ 60001 := by rw [S_size, List.length_append]; omega
        have Hq := Lib.hid (show S (pTd xs j) = S (y0 ++ plT y0 c) ++ tm by rw [Hst2.out, Htm.out, S_append])
        clear HP hys hl1 hl1' hq
        generalize S (y0 ++ plT y0 c) = y1 at *
        go_wp2_with fail
        exact ⟨⟨j, (j : Int) - 1, by omega, by rw [Hq.out], rfl, Lib.hid (by omega), hbe2⟩, by simp [intOf]⟩
end WZ
end Go.Proofs.YtdfhkkngbpidaaaDoor
