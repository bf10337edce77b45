/-
  WALKS: the laws' helpers for an argument that is a list of lists.
-/
import Derived.Test.YtbkbcpcdnclffaaWlkL4
import Derived.Test.YtbkbcpcdnclffaaWlkL5
namespace Go.Proofs.Ytbkbcpcdnclffaa
open Go.RowKit
set_option linter.unusedVariables false
namespace WL
open K Pl
/-- What is left of l behind a list of lists. -/
def szT (l : Int) (xss : List (List Int)) : Int := if l < xss.length + tot xss xss.length then -1 else l - xss.length - tot xss xss.length
theorem szT_big {l : Int} {xss : List (List Int)} (h : l < xss.length + tot xss xss.length) : szT l xss = -1 := if_pos h
theorem szT_small {l : Int} {xss : List (List Int)} (h : ¬ l < xss.length + tot xss xss.length) : szT l xss = l - xss.length - tot xss xss.length := if_neg h
theorem tot_succ (xss : List (List Int)) (k : Nat) : tot xss (k + 1) = tot xss k + (gxx xss k).length := rfl
set_option maxHeartbeats 800000 in
theorem szInt64SS_any (B : Nat) (v : Value) (xss : List (List Int)) (l : Int) (w : World) (h : IsR w B v xss) (hl : 0 ≤ l ∧ l ≤ 1048576) :
    Calls Try.prog 7 #[v, .int .i64 l] w fun e w' => e = .returned (.int .i64 (szT l xss)) ∧ w = w' := by
  obtain ⟨us, hU⟩ := h
  obtain ⟨A, c, rfl, hnc, hcm, hrd⟩ := hU.sh
  have He := Lib.hid hU.each
  obtain ⟨n, Hn⟩ : ∃ n, Hid (xss.length = n) := ⟨_, Lib.hid rfl⟩
  rw [Hn.out] at hnc hrd ⊢
  unfold maxLen at hcm
  clear hU
  by_cases hb : l < (n : Int)
  · have Hr := Lib.hid (szT_big (l := l) (xss := xss) (by rw [Hn.out]; omega))
    have hneg : l - (n : Int) < 0 := by omega
    clear hrd
    go_enter Try.func7, Try.ntmps7
    go_wp2
    go_ret
    exact ⟨ret_i Hr.out.symm, rfl⟩
  · have hneg : ¬ l - (n : Int) < 0 := by omega
    have Ht0 := Lib.hid (show l - (n : Int) = l - (n : Int) - (tot xss 0 : Int) by simp [tot])
    go_enter Try.func7, Try.ntmps7
    go_wp2
    go_loop [1, 5] (fun u i => ∃ (k : Nat) (m : Int), k ≤ n ∧ i = .int .i64 k ∧ u = .int .i64 m ∧ 0 ≤ m ∧ m ≤ 1048576 ∧ Hid (m = l - (n : Int) - (tot xss k : Int))) (fun _ i => n - (intOf i).toNat)
    case atStart => exact ⟨0, l - n, Nat.zero_le _, rfl, rfl, by omega, by omega, Ht0⟩
    case round =>
      obtain ⟨k, m, hk, rfl, rfl, hm1, hm2, Hm⟩ := hrel
      by_cases hlt : k < n
      · obtain ⟨ad, rfl, hab, hc⟩ := hrd (by omega)
        have hc1 : w.cell? (ad.add k) = some (ux us k) := hc k hlt
        have hi1 : 0 ≤ (k : Int) ∧ (k : Int) < (n : Int) := by omega
        have Hek := Lib.hid (He.out k (by rw [Hn.out]; exact hlt))
        obtain ⟨Ak, nk, ck, euk, hnck, hcmk, hrdk⟩ := Hek.out
        have Hlk := Lib.hid hrdk.len
        rw [euk] at hc1
        have Hek2 := Lib.hid (show Is w B (.slice Ak nk ck) (gxx xss k) from by rw [← euk]; exact Hek.out)
        unfold maxLen at hcmk
        clear hc euk hrdk
        by_cases hb2 : m < ((gxx xss k).length : Int)
        · have Hr := Lib.hid (szT_big (l := l) (xss := xss) (by
            have h1 := tot_le xss (show k + 1 ≤ xss.length by rw [Hn.out]; omega)
            rw [tot_succ] at h1
            have h2 := Hm.out
            rw [Hn.out] at h1 ⊢
            omega))
          have hz : szl m (gxx xss k).length = -1 := szl_big hb2
          go_wp2_with fail
          refine (szInt64S_any B _ (gxx xss k) _ _ Hek2.out ⟨hm1, hm2⟩).mono ?_
          rintro e w' ⟨rfl, rfl⟩
          rw [hz]
          go_wp2
          go_ret
          exact ⟨ret_i Hr.out.symm, rfl⟩
        · have hz : szl m (gxx xss k).length = m - (gxx xss k).length := szl_small hb2
          obtain ⟨m2, Hm2⟩ : ∃ m2, Hid (m2 = m - ((gxx xss k).length : Int)) := ⟨_, Lib.hid rfl⟩
          have hm3 : 0 ≤ m2 ∧ m2 ≤ 1048576 := by have := Hm2.out; omega
          have Hm3 := Lib.hid (show m2 = l - (n : Int) - (tot xss (k + 1) : Int) by have h1 := Hm2.out; have h2 := Hm.out; rw [tot_succ]; omega)
          go_wp2_with fail
          refine (szInt64S_any B _ (gxx xss k) _ _ Hek2.out ⟨hm1, hm2⟩).mono ?_
          rintro e w' ⟨rfl, rfl⟩
          rw [hz, ← Hm2.out]
          have hneg2 : ¬ m2 < 0 := by omega
          clear hb2 hz
          go_wp2
          go_round
          case rel => exact ⟨k + 1, m2, by omega, by go_num, rfl, hm3.1, hm3.2, Hm3⟩
          case measure => first | (simp [intOf]; done) | (simp [intOf]; omega)
      · have hkn : k = n := by omega
        subst hkn
        have Hr := Lib.hid (show szT l xss = m by rw [szT_small (by rw [Hn.out]; have := Hm.out; omega), Hn.out]; exact Hm.out.symm)
        go_wp2
        go_ret
        exact ⟨ret_i Hr.out.symm, rfl⟩
theorem szInt64SS_b (B : Nat) (v : Value) (xss : List (List Int)) (l : Int) (w : World) (h : IsR w B v xss) (hl : 0 ≤ l ∧ l ≤ 1048576) :
    Calls Try.prog 7 #[v, .int .i64 l] w fun e w' => e = .returned (.int .i64 (szT l xss)) ∧ Below w.heap.size w w' :=
  (szInt64SS_any B v xss l w h hl).mono fun e w' ⟨a, b⟩ => ⟨a, by rw [← b]; exact Below.refl _ _⟩
/-- The first k lists of a list of n lists, behind them empty ones. -/
def fillR (xss : List (List Int)) (k n : Nat) : List (List Int) := (List.range n).map fun j => if j < k then gxx xss j else []
theorem fillR_len (xss : List (List Int)) (k n : Nat) : (fillR xss k n).length = n := by simp [fillR]
theorem gxx_fillR (xss : List (List Int)) (k n j : Nat) (h : j < n) : gxx (fillR xss k n) j = if j < k then gxx xss j else [] := by
  rw [gxx_eq _ _ (by rw [fillR_len]; exact h)]; simp [fillR]
theorem fillR_step (xss : List (List Int)) (k n : Nat) (hk : k < n) : (fillR xss k n).set k (gxx xss k) = fillR xss (k + 1) n := by
  refine gxx_ext (by simp [fillR_len]) fun i hi => ?_
  simp [fillR_len] at hi
  rw [gxx_set _ _ _ _ (by rw [fillR_len]; exact hk), gxx_fillR _ _ _ _ hi, gxx_fillR _ _ _ _ hi]
  by_cases e : k = i
  · subst e; rw [if_pos rfl, if_pos (by omega)]
  · rw [if_neg e]
    by_cases h2 : i < k
    · rw [if_pos h2, if_pos (by omega)]
    · rw [if_neg h2, if_neg (by omega)]
theorem fillR_all (xss : List (List Int)) (n : Nat) (h : xss.length = n) : fillR xss n n = xss := by
  refine gxx_ext (by rw [fillR_len, h]) fun i hi => ?_
  rw [fillR_len] at hi
  rw [gxx_fillR _ _ _ _ hi, if_pos hi]
/-- A fresh row of nil rows. -/
theorem OwU.nils {w : World} {lo g n cap : Nat} {xss : List (List Int)} (h : w.ownsRow lo 24 1 (.slice (some ⟨g, 0, none⟩) n cap) n (List.replicate n (.slice none 0 0))) :
    OwU w lo w.heap.size (.slice (some ⟨g, 0, none⟩) n cap) (List.replicate n (.slice none 0 0)) (fillR xss 0 n) := by
  have hu : ∀ i, i < n → ux (List.replicate n (.slice none 0 0)) i = .slice none 0 0 := fun i hi => by rw [ux_eq _ _ (by simpa using hi)]; simp
  refine ⟨by simp [fillR_len], by rw [fillR_len]; exact h, fun k hk => (h.lt k hk).2, fun i hi => ?_, fun i j k hij hj hk => ?_, fun i k hi hk => ?_⟩
  · rw [fillR_len] at hi
    rw [hu i hi, gxx_fillR _ _ _ _ hi, if_neg (by omega)]
    exact Ow.nil _ _ _
  · rw [fillR_len] at hj
    rw [hu j hj]; simp [Value.ownBlock]
  · rw [fillR_len] at hi
    rw [hu i hi]; simp [Value.ownBlock]
set_option maxHeartbeats 800000 in
theorem toInt64SS_any (B : Nat) (v : Value) (xss : List (List Int)) (w : World) (h : IsR w B v xss) (hB : B ≤ w.heap.size) (hreach : xss.length * 24 ≤ 140737488351232) (heach : ∀ xs ∈ xss, xs.length * 8 ≤ 140737488351232) :
    Calls Try.prog 9 #[v] w fun e w' => ∃ v', e = .returned v' ∧ OwR w' w.heap.size w'.heap.size v' xss ∧ Below w.heap.size w w' := by
  obtain ⟨us0, hU⟩ := h
  obtain ⟨A, c, rfl, hnc, hcm, hrd⟩ := hU.sh
  have He := Lib.hid hU.each
  have Hea := Lib.hid heach
  obtain ⟨n, Hn⟩ : ∃ n, Hid (xss.length = n) := ⟨_, Lib.hid rfl⟩
  rw [Hn.out] at hnc hrd hreach ⊢
  have hcm' : c ≤ 9223372036854775807 := by unfold maxLen at hcm; exact hcm
  have hn63 : n ≤ 9223372036854775807 := by omega
  clear hcm hU heach
  obtain ⟨i0, hi, hz0, hz1, hz2⟩ := info_parts infoRow
  have Hi := Lib.hid hi; have Hz0 := Lib.hid hz0; have Hz1 := Lib.hid hz1; have Hz2 := Lib.hid hz2
  clear hi hz0 hz1 hz2
  go_enter Try.func9, Try.ntmps9
  go_wp2_with (at_make; refine wpList_make_full _ rfl _ _ 22 rfl w.heap.size 24 i0 (.slice none 0 0) 1 Try.underlying22 Hi.out Hz0.out Hz1.out _ _ _ _ n rfl rfl rfl rfl ?b ?c ?d ?_)
  case b => rw [Hz2.out]; omega
  case c => unfold maxLen; omega
  case d => simp
  intro w1 hown hgrow
  have hbw : Below w.heap.size w w1 := (Below.refl _ _).grown hgrow (Nat.le_refl _) (by simp)
  have hown0 : w1.ownsRow w.heap.size 24 1 (.slice (some ⟨w.heap.size, 0, none⟩) n n) n (List.replicate n (.slice none 0 0)) := by
    have e : (madeCells (Value.slice none 0 0).cells (n * 1)).toList = List.replicate n (.slice none 0 0) := by
      rw [Nat.mul_one]; exact toList_madeCells_one _ n
    rw [← e, Nat.mul_one]; exact hown
  have how0 := Lib.hid (OwU.nils (xss := xss) hown0)
  clear hown hgrow hown0
  go_wp2
  go_loopw [4] (fun i wr => ∃ (k : Nat) (us : List Value), k ≤ n ∧ i = .int .i64 k ∧ Hid (OwU wr w.heap.size wr.heap.size (.slice (some ⟨w.heap.size, 0, none⟩) n n) us (fillR xss k n)) ∧ Below w.heap.size w wr) (fun i _ => n - (intOf i).toNat)
  case atStart => exact ⟨0, _, Nat.zero_le _, rfl, how0, hbw⟩
  case round =>
    obtain ⟨k, us, hk, rfl, how, hbe⟩ := hrel
    have hs := hbe.size
    clear how0 hbw
    by_cases hlt : k < n
    · obtain ⟨ad, rfl, hab, hc⟩ := hrd (by omega)
      have hc1 : wr.cell? (ad.add k) = some (ux us0 k) := (hbe.cell (by rw [block_of_add]; omega)).trans (hc k hlt)
      have hi1 : 0 ≤ (k : Int) ∧ (k : Int) < (n : Int) := by omega
      have E1 := Lib.hid ((He.out k (by rw [Hn.out]; exact hlt)).below (hbe.mono hB))
      have Hz := Lib.hid (Hea.out (gxx xss k) (gxx_mem xss k (by rw [Hn.out]; exact hlt)))
      clear hc
      go_wp2_with fail
      refine (toInt64S_any B _ (gxx xss k) _ E1.out (by omega) Hz.out).mono ?_
      rintro e w2 ⟨v2, rfl, ow2, hb2⟩
      have hrow2 : w2.ownsRow w.heap.size 24 1 (.slice (some ⟨w.heap.size, 0, none⟩) n n) n us := by
        have h := own_later how.out.row hb2; rw [fillR_len] at h; exact h
      have hfr := hrow2.frozenAt k
      obtain ⟨old, hold⟩ : ∃ old, w2.cell? ⟨w.heap.size, k, none⟩ = some old := by
        rw [hrow2.cellAt k (by omega)]
        have hl := how.out.len
        rw [fillR_len] at hl
        exact ⟨_, List.getElem?_eq_getElem (by omega)⟩
      have How2 := Lib.hid (how.out.set (i := k) (fillR_len xss k n).symm (Nat.le_refl _) hs hb2 ow2 hlt)
      rw [fillR_step xss k n hlt] at How2
      have hbe2 : Below w.heap.size w (w2.setCell ⟨w.heap.size, k, none⟩ v2) := (hbe.trans (hb2.mono hs)).setCell (Nat.le_refl _) _
      obtain ⟨A2, c2, rfl, _, _⟩ := ow2.shape
      clear how hrow2 ow2 hb2 hbe
      go_wp2
      go_roundw
      case rel => exact ⟨k + 1, _, by omega, by go_num, Lib.hid (by simpa using How2.out), hbe2⟩
      case measure => first | (simp [intOf]; done) | (simp [intOf]; omega)
    · have hkn : k = n := by omega
      subst hkn
      have How2 := how.out
      rw [fillR_all xss k Hn.out] at How2
      go_wp2
      go_ret
      exact ⟨_, rfl, ⟨us, How2⟩, hbe⟩
end WL
end Go.Proofs.Ytbkbcpcdnclffaa
