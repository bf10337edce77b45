/-
  WALKS, CHAPTER 4: runs; the sequence of a branch.
-/
import Derived.Test.YtcnoaclijhcckaaWlkC4
import Derived.Test.YtcnoaclijhcckaaWlkR2
import Derived.Test.YtcnoaclijhcckaaKitU
import Derived.Test.YtcnoaclijhcckaaPlG
namespace Go.Proofs.Ytcnoaclijhcckaa
open Go.RowKit
set_option linter.unusedVariables false
namespace WD
open K Pl WA WC
/-- What the first j rows stand for. -/
theorem reps_take_succ (S : List (List Int)) (j : Nat) (h : j < S.length) : reps (S.take (j + 1)) = reps (S.take j) ++ rep (gxx S j) := by
  rw [List.take_succ_eq_append_getElem h, reps_append, ← gxx_eq S j h]; simp [reps]
theorem rep_pair {s : List Int} {q : Nat} {r : Int} (h : s = [(q : Int), r]) : rep s = List.replicate q r := by subst h; simp [rep, gx]
theorem reps_take_len (S : List (List Int)) (j : Nat) : (reps (S.take j)).length ≤ (reps S).length := by
  have : reps S = reps (S.take j) ++ reps (S.drop j) := by rw [← reps_append, List.take_append_drop]
  rw [this, List.length_append]; omega
set_option maxHeartbeats 3200000 in
theorem runOf_any (lo : Nat) (A : Option Addr) (n0 c0 : Nat) (acc : List Int) (x y : Nat) (w : World) (h : w.ownsRow lo 2 1 (.slice A n0 c0) n0 (acc.map (Value.int .i64))) (hlo : lo ≤ w.heap.size) (hx : x ≤ 2000000) (hy : y ≤ 2000000) (hn0 : n0 ≤ 100000000) (hxy : x * y ≤ 100000000) :
    Calls Try.prog 57 #[.slice A n0 c0, .int .i64 (x : Int), .int .i64 (y : Int)] w fun e w' => ∃ A' n' c', e = .returned (.slice A' n' c') ∧ Hid (n' = (acc ++ reps (steps x y)).length) ∧ w'.ownsRow lo 2 1 (.slice A' n' c') n' ((acc ++ reps (steps x y)).map (Value.int .i64)) ∧ Below lo w w' := by
  have Hp := Lib.hid (steps_pair x y)
  have hrl := reps_steps_len x y
  obtain ⟨S, HS⟩ : ∃ S, Hid (steps x y = S) := ⟨_, Lib.hid rfl⟩
  have hn9 : S.length ≤ 2000000 := by have := steps_len y x y (Nat.le_refl _); rw [HS.out] at this; omega
  rw [HS.out] at Hp hrl
  have Hacc := Lib.hid (show acc.length = n0 by have := h.1; simpa using this)
  have Hrl := Lib.hid (show (reps S).length ≤ 100000000 by omega)
  have hbk := Lib.hid (fun k (e : (Value.slice A n0 c0).ownBlock = some k) => h.lt k e)
  have Hh := Lib.hid h
  obtain ⟨hnc0, hcm0⟩ : n0 ≤ c0 ∧ c0 ≤ 9223372036854775807 := by
    obtain ⟨A', c', e, h1, h2⟩ := own_shape h
    cases e; exact ⟨h1, h2⟩
  clear h hrl
  go_enter Try.func57, Try.ntmps57
  go_wp2_with fail
  refine (steps_any x y _ (by omega) (by omega)).mono ?_
  rintro e w1 ⟨v1, rfl, ow1, hb1⟩
  rw [HS.out] at ow1
  have hs1 := hb1.size
  have own1 := own_later Hh.out hb1
  have hbw : Below lo w w1 := hb1.mono hlo
  obtain ⟨us, hU⟩ := ow1
  obtain ⟨A1, c1, rfl, hnc1, hcm1⟩ := own_shape hU.row
  obtain ⟨n, Hn⟩ : ∃ n, Hid (S.length = n) := ⟨_, Lib.hid rfl⟩
  rw [Hn.out] at hnc1 hn9 hU ⊢
  have HU := Lib.hid hU
  clear hU hb1
  go_wp2
  go_loopw [0, 14] (fun u i wr => ∃ (k m : Nat) (A6 : Option Addr) (c6 : Nat), k ≤ n ∧ i = .int .i64 k ∧ u = .slice A6 m c6 ∧ m ≤ 200000000 ∧ m ≤ c6 ∧ Hid (m = (acc ++ reps (S.take k)).length) ∧ Hid (wr.ownsRow lo 2 1 (.slice A6 m c6) m ((acc ++ reps (S.take k)).map (Value.int .i64))) ∧ Hid (∀ g, (Value.slice A6 m c6).ownBlock = some g → g < w.heap.size ∨ w1.heap.size ≤ g) ∧ Hid (OwU wr w.heap.size w1.heap.size (.slice A1 n c1) us S) ∧ w1.heap.size ≤ wr.heap.size ∧ Below lo w wr) (fun _ i _ => n - (intOf i).toNat)
  case atStart => exact ⟨0, n0, A, c0, Nat.zero_le _, rfl, rfl, by omega, hnc0, Lib.hid (by simp [Hacc.out, reps]), Lib.hid (by simpa [reps] using own1), Lib.hid (fun g e => .inl (hbk.out g e).2), HU, Nat.le_refl _, hbw⟩
  case round =>
    clear own1 hbw
    obtain ⟨k, m, A6, c6, hk, rfl, rfl, hm9, hmc, hm, hown, hgb, hU, hsz, hbe⟩ := hrel
    have hs := hbe.size
    by_cases hlt : k < n
    · obtain ⟨A2, c2, e2, _, _, hpos⟩ := hU.out.is.sh
      rw [Hn.out] at e2 hpos
      obtain ⟨ad, rfl, hab, hcell⟩ := hpos (by omega)
      cases e2
      have hek := hU.out.each k (by rw [Hn.out]; exact hlt)
      obtain ⟨q, r, esr, hq0, hr1, hq2, hr2⟩ := Hp.out (gxx S k) (gxx_mem S k (by rw [Hn.out]; exact hlt))
      obtain ⟨qn, rfl⟩ := Int.eq_ofNat_of_zero_le hq0
      rw [esr] at hek
      obtain ⟨g2, c3, eu⟩ := Go.Joins.ownsRow_form hek.1 (by simp)
      have hk2 := hek.1
      rw [eu] at hk2
      have hcu : wr.cell? (ad.add k) = some (.slice (some ⟨g2, 0, none⟩) 2 c3) := by have := hcell k hlt; rw [eu] at this; exact this
      obtain ⟨hnc2, hcm2⟩ : 2 ≤ c3 ∧ c3 ≤ 9223372036854775807 := by
        obtain ⟨A', c', e, h1, h2⟩ := own_shape hk2
        cases e; exact ⟨h1, h2⟩
      have Hrep := Lib.hid (rep_pair esr)
      have Hts := Lib.hid (reps_take_succ S k (by rw [Hn.out]; exact hlt))
      have Htl := Lib.hid (reps_take_len S (k + 1))
      have hlw2 : g2 < w1.heap.size ∧ w.heap.size ≤ g2 := by
        have hb := hek.low (k := g2) (by rw [eu]; rfl)
        exact ⟨hb.2.1, hb.1⟩
      have hcc0 : wr.cell? ⟨g2, 0, none⟩ = some (.int .i64 (qn : Int)) := by have := hk2.cellAt 0 (by simp); simpa using this
      have hcc1 : wr.cell? ⟨g2, 1, none⟩ = some (.int .i64 r) := by have := hk2.cellAt 1 (by simp); simpa using this
      have hi1 : 0 ≤ (k : Int) ∧ (k : Int) < (n : Int) := by omega
      have hn0' : (0 : Int) < 2 ∧ (1 : Int) < 2 := by omega
      have hmx : (acc ++ reps (S.take k) ++ List.replicate qn r).length ≤ 200000000 := by
        have h1 := Htl.out
        rw [Hts.out, Hrep.out] at h1
        have h2 := Hrl.out
        have h3 := Hacc.out
        simp at h1 ⊢; omega
      have hqn : qn ≤ 200000000 := by simp at hmx; omega
      have Hmx := Lib.hid hmx
      clear hpos hcell hek hk2 hq2 hr2 esr eu hmx
      go_wp2
      go_loopw [0, 9] (fun u i wr => ∃ (j m : Nat) (A6 : Option Addr) (c6 : Nat), j ≤ qn ∧ i = .int .i64 j ∧ u = .slice A6 m c6 ∧ m ≤ 200000000 ∧ m ≤ c6 ∧ Hid (m = (acc ++ reps (S.take k) ++ List.replicate j r).length) ∧ Hid (wr.ownsRow lo 2 1 (.slice A6 m c6) m ((acc ++ reps (S.take k) ++ List.replicate j r).map (Value.int .i64))) ∧ Hid (∀ g, (Value.slice A6 m c6).ownBlock = some g → g < w.heap.size ∨ w1.heap.size ≤ g) ∧ Hid (OwU wr w.heap.size w1.heap.size (.slice (some ad) n c1) us S) ∧ w1.heap.size ≤ wr.heap.size ∧ Below lo w wr ∧ wr.cell? ⟨g2, 0, none⟩ = some (.int .i64 (qn : Int)) ∧ wr.cell? ⟨g2, 1, none⟩ = some (.int .i64 r)) (fun _ i _ => qn - (intOf i).toNat)
      case atStart => exact ⟨0, m, A6, c6, Nat.zero_le _, rfl, rfl, hm9, hmc, Lib.hid (by simpa using hm.out), Lib.hid (by simpa using hown.out), hgb, hU, hsz, hbe, hcc0, hcc1⟩
      case round =>
        clear hm hown hgb hU hsz hbe hcc0 hcc1 hs hm9 hmc hcu
        obtain ⟨j, m2, A7, c7, hj, rfl, rfl, hm9, hmc, hm, hown, hgb, hU, hsz, hbe, hcc0, hcc1⟩ := hrel
        have hs := hbe.size
        by_cases hlt2 : j < qn
        · have hmj : m2 < 200000000 := by
            have h1 := hm.out
            have h2 := Hmx.out
            simp at h1 h2; omega
          have Hrs := Lib.hid (show acc ++ reps (S.take k) ++ List.replicate (j + 1) r = acc ++ reps (S.take k) ++ List.replicate j r ++ [r] by rw [List.replicate_succ']; simp)
          go_wp2_with (at_builtin; refine wp_append_i rfl _ _ rfl lo _ m2 _ rfl (hown.out.alloc _) wr.heap.size r 1 rfl (by simp) (by omega) (by simp; omega) ?_)
          intro g' cap' w2 hown2 hgrow hat hlt3
          have hcap : m2 + 1 ≤ cap' := by
            obtain ⟨A', c', e, h1, h2⟩ := own_shape hown2
            cases e; exact h1
          have hbe2 : Below lo w w2 := (hbe.alloc (by omega) _).grown hgrow (by simp; omega) (fun k' e => (hown.out.lt k' e).1)
          have Hown2 := Lib.hid (show w2.ownsRow lo 2 1 (.slice (some ⟨g', 0, none⟩) (m2 + 1) cap') (m2 + 1) ((acc ++ reps (S.take k) ++ List.replicate (j + 1) r).map (Value.int .i64)) by rw [Hrs.out]; simpa using hown2)
          have HU2 := Lib.hid ((hU.out.alloc _).grown hgrow hgb.out)
          have hsz2 : w1.heap.size ≤ w2.heap.size := by have := hgrow.size; simp at this; omega
          have Hgb2 := Lib.hid (show ∀ g, (Value.slice (some ⟨g', 0, none⟩) (m2 + 1) cap').ownBlock = some g → g < w.heap.size ∨ w1.heap.size ≤ g from fun g e => by
            simp [Value.ownBlock] at e
            subst e
            rcases hat with h | h
            · exact hgb.out _ h
            · first | omega | (simp at h; omega))
          have hne : ∀ g, (Value.slice A7 m2 c7).ownBlock = some g → g2 ≠ g := fun g e => by have := hgb.out g e; omega
          have hcc0' : w2.cell? ⟨g2, 0, none⟩ = some (.int .i64 (qn : Int)) := hgrow.cell (cell_alloc hcc0 _) (fun e => hne _ e.symm rfl)
          have hcc1' : w2.cell? ⟨g2, 1, none⟩ = some (.int .i64 r) := hgrow.cell (cell_alloc hcc1 _) (fun e => hne _ e.symm rfl)
          have Hm2 := Lib.hid (show m2 + 1 = (acc ++ reps (S.take k) ++ List.replicate (j + 1) r).length by rw [Hrs.out, List.length_append, ← hm.out]; rfl)
          clear hown hown2 hgrow hat hU hgb hbe hcc0 hcc1 hne hm
          go_wp2
          go_roundw
          case rel => exact ⟨j + 1, m2 + 1, _, _, by omega, by go_num, rfl, by omega, hcap, Hm2, Hown2, Hgb2, HU2, hsz2, hbe2, hcc0', hcc1'⟩
          case measure => first | (simp [intOf]; done) | (simp [intOf]; omega)
        · obtain rfl : j = qn := by omega
          have He := Lib.hid (show acc ++ reps (S.take (k + 1)) = acc ++ reps (S.take k) ++ List.replicate j r by rw [Hts.out, Hrep.out, List.append_assoc])
          go_wp2
          go_roundw
          case rel => exact ⟨k + 1, m2, A7, c7, by omega, by go_num, rfl, hm9, hmc, Lib.hid (by rw [He.out]; exact hm.out), Lib.hid (by rw [He.out]; exact hown.out), hgb, hU, hsz, hbe⟩
          case measure => first | (simp [intOf]; done) | (simp [intOf]; omega)
    · obtain rfl : k = n := by omega
      have He := Lib.hid (show S.take k = S from List.take_of_length_le (Nat.le_of_eq Hn.out))
      go_wp2
      go_ret
      exact ⟨_, _, _, rfl, Lib.hid (by rw [HS.out]; have h := hm.out; rw [He.out] at h; exact h), by rw [HS.out]; have h := hown.out; rw [He.out] at h; exact h, hbe⟩
end WD
end Go.Proofs.Ytcnoaclijhcckaa
