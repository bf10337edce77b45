/-
  WALKS, CHAPTER 2: the reference's division by a cyclotomic polynomial.
-/
import Derived.Test.YtogkblncdpbhnaaKitQ
import Derived.Test.YtogkblncdpbhnaaWlkB3
import Derived.Test.YtogkblncdpbhnaaWlkB4
import Derived.Deep.RegionHeld3
import Derived.Deep.OwnRows
import Derived.Deep.DeepCutAuto
namespace Go.Proofs.Ytogkblncdpbhnaa
open Go.RowKit
set_option linter.unusedVariables false
namespace WY
open K Pl WA WL WB
/-- What the reference hands back. -/
def qwS (p q : List Int) : List Int × Bool := if (qwF p q).2 then qwF p q else ([], false)
def LiQ (r : List Int × Bool) (w : World) (e : Ending) (w' : World) : Prop := ∃ v, e = .returned (.tuple #[v, .bool r.2]) ∧ Ow w' w.heap.size w'.heap.size v r.1 ∧ Below w.heap.size w w'
theorem LiQ.nil {w w' : World} {r : List Int × Bool} (hr : r = ([], false)) (h : Below w.heap.size w w') : LiQ r w (.returned (.tuple #[.slice none 0 0, .bool false])) w' := by
  subst hr
  exact ⟨_, rfl, K.Ow.nil _ _ _, h⟩
theorem allZ_no {l : List Int} (j : Nat) (hj : j < l.length) (h : gx l j ≠ 0) : allZ l = false := by
  unfold allZ
  rw [List.all_eq_false]
  exact ⟨gx l j, gx_mem l j hj, by simpa using h⟩
theorem allZ_yes {l : List Int} (h : ∀ j, j < l.length → gx l j = 0) : allZ l = true := allZ_of fun j => by
  by_cases hj : j < l.length
  · exact h j hj
  · exact gx_out l j (by omega)
set_option maxRecDepth 8192 in
set_option maxHeartbeats 8000000 in
theorem l02Quotient_any (B : Nat) (v v2 : Value) (xs ys : List Int) (w : World) (h : Is w B v xs) (h2 : Is w B v2 ys) (hB : B ≤ w.heap.size) (hx : xs.length ≤ 2001) (hy : ys.length ≤ 2001) (hy1 : 1 ≤ ys.length) :
    Calls Try.prog 33 #[v, v2] w (LiQ (qwS xs ys) w) := by
  have Hp := Lib.hid h
  obtain ⟨A, n, c, rfl, hnc, hcm, hrd⟩ := h
  obtain ⟨A2, m, c2, rfl, hmc, hcm2, hrd2⟩ := h2
  have Hlen := Lib.hid hrd.len
  have Hlen2 := Lib.hid hrd2.len
  rw [hrd.len] at hx
  rw [hrd2.len] at hy hy1
  obtain ⟨ad, rfl, hab, hc2⟩ := hrd2.pos (by omega)
  have Hc := Lib.hid hc2
  unfold maxLen at hcm hcm2
  clear hrd hrd2 hc2
  by_cases hnm : n < m
  · have hnm2 : (n : Int) < (m : Int) := by omega
    have Hr := Lib.hid (show qwS xs ys = ([], false) by
      have : qwF xs ys = ([], false) := by unfold qwF; rw [if_pos (by rw [Hlen.out, Hlen2.out]; exact hnm)]
      unfold qwS; rw [this]; rfl)
    go_enter Try.func33, Try.ntmps33
    go_wp2_with fail
    go_ret2
    exact LiQ.nil Hr.out (Below.refl _ _)
  · have hnm2 : ¬ (n : Int) < (m : Int) := by omega
    obtain ⟨N, hN⟩ : ∃ N, N = n - m + 1 := ⟨_, rfl⟩
    have HN := Lib.hid (show (n : Int) - (m : Int) + 1 = (N : Int) by omega)
    have Hr := Lib.hid (show qwF xs ys = ((qOut ys N xs (List.replicate N 0)).2, allZ (qOut ys N xs (List.replicate N 0)).1) by
      unfold qwF; rw [if_neg (by rw [Hlen.out, Hlen2.out]; exact hnm), Hlen.out, Hlen2.out, ← hN])
    have hN' : N ≤ 2001 := by omega
    have HNn := Lib.hid (show N + m = n + 1 by omega)
    clear hN hnm
    go_enter Try.func33, Try.ntmps33
    go_wp2_with fail
    go_cut [6, 7] (fun u v wr => ∃ g1 c1 g2 : Nat, u = .slice (some ⟨g1, 0, none⟩) n c1 ∧ v = .slice (some ⟨g2, 0, none⟩) N N ∧ Hid (Q2 w wr w.heap.size g1 c1 n g2 N xs (List.replicate N 0)))
    case first =>
      have hmk := fun W : World => run_make_row' (P := Try.prog) 24 2 (.int .i64 0) 8 Try.underlying24 info64 rfl .i64 .i64 N (by omega) (by omega) W
      have hown := fun (W : World) (hW : Is W B (.slice A n c) xs) (hBW : B ≤ W.heap.size) => l01Own_any B (.slice A n c) xs W hW hBW (by rw [Hlen.out]; omega)
      have HN2 : IntKind.i64.wrap ((n : Int) - (m : Int)) = (N : Int) - 1 := by rw [show (n : Int) - (m : Int) = (N : Int) - 1 by have := HN.out; omega]; exact IntWalk.i64_in _ (by omega)
      have HN3 : IntKind.i64.wrap ((N : Int) - 1 + 1) = (N : Int) := by rw [show (N : Int) - 1 + 1 = (N : Int) by omega]; exact IntWalk.i64_in _ (by omega)
      have HN4 : IntKind.i64.wrap (N : Int) = (N : Int) := IntWalk.i64_in _ (by omega)
      have hal : ∀ o, Below w.heap.size w (w.alloc o) := fun o => (Below.refl _ _).alloc (Nat.le_refl _) o
      go_region_held3 (fun W => Below w.heap.size w W) (first | exact (Below.refl _ _).drew | exact (hal _).drew | exact (Below.drew (Below.refl _ _)).alloc (Nat.le_refl _) _ | exact qq.alloc qq.size _ | exact (qq.alloc qq.size _).drew | assumption) (first | (go_at_call 49; refine (hown _ (Hp.out.below (Below.mono ‹Below w.heap.size w _› hB)) (Nat.le_trans hB (Below.size ‹Below w.heap.size w _›))).mono ?_; rintro e w1 ⟨v1, rfl, own1, hb1⟩; have qq : Below w.heap.size w w1 := Below.trans ‹Below w.heap.size w _› (hb1.mono (Below.size ‹Below w.heap.size w _›))))
      all_goals
        have hs1 := qq.size
        obtain ⟨g1, c1, rfl⟩ := Go.Joins.ownsRow_form own1.1 (by rw [Hlen.out]; omega)
        have hg1 := own1.1.lt g1 rfl
        have Ho := Lib.hid own1
        have Hb := Lib.hid hb1
        have Hq := Lib.hid qq
        rw [Hlen.out] at Ho ⊢
        clear own1 hb1 qq hmk hown hal HN2 HN3 HN4
        go_wp2_with fail
        go_meet
      · have hr := Ho.out.1
        rw [Hlen.out] at hr
        exact ⟨g1, c1, w1.heap.size, rfl, rfl, Lib.hid {
          rest := own_later hr ((Below.refl _ _).alloc (Nat.le_refl _) _)
          out := made_own2 N hs1 (by omega)
          ne := by have := hg1.2; omega
          be := Hq.out.alloc hs1 _ }⟩
      · have hr := Ho.out.1
        rw [Hlen.out] at hr
        have hgb : w.heap.size + 1 ≤ g1 := by have := hg1.1; simp at this; omega
        exact ⟨g1, c1, w.heap.size, rfl, rfl, Lib.hid {
          rest := own_base hr (by simp)
          out := own_later (own_of_heap2 (w' := (w.alloc (.cells (madeCells #[Value.int .i64 0] N) 2)).drew) (made_own2 (w := w) N (Nat.le_refl _) (by omega)) rfl) Hb.out
          ne := by omega
          be := Hq.out }⟩
    case rest =>
      obtain ⟨g1, c1, g2, rfl, rfl, Q0⟩ := hcut
      go_wp2_with fail
      go_loopw [8] (fun i wr => ∃ (z : Int) (k : Nat) (rest out : List Int), i = .int .i64 z ∧ Hid (z + 1 = k) ∧ k ≤ N ∧ Hid (Q2 w wr w.heap.size g1 c1 n g2 N rest out) ∧ Hid (qOut ys k rest out = qOut ys N xs (List.replicate N 0))) (fun i _ => (intOf i + 1).toNat)
      case atStart => exact ⟨_, N, xs, _, rfl, Lib.hid (by omega), Nat.le_refl _, Q0, Lib.hid rfl⟩
      case round =>
        clear Q0
        obtain ⟨z, k, rest, out, rfl, hz, hk, hQ, hd⟩ := hrel
        by_cases hk0 : 0 < k
        · obtain ⟨k', rfl⟩ : ∃ k', k = k' + 1 := ⟨k - 1, by omega⟩
          obtain rfl : z = (k' : Int) := by have := hz.out; omega
          obtain ⟨t, Ht⟩ : ∃ t, Hid (gx rest (k' + (ys.length - 1)) = t) := ⟨_, Lib.hid rfl⟩
          have hkn : k' + m - 1 < n := by have := HNn.out; omega
          have hcr : wr.cell? ⟨g1, k' + m - 1, none⟩ = some (.int .i64 t) := by
            rw [← Ht.out, Hlen2.out, show k' + (m - 1) = k' + m - 1 by omega]; exact (hQ.out.cellRest hkn).1
          have hikj : 0 ≤ (k' : Int) + (m : Int) - 1 ∧ (k' : Int) + (m : Int) - 1 < (n : Int) := by omega
          have hko : 0 ≤ (k' : Int) ∧ (k' : Int) < (N : Int) := by omega
          obtain ⟨hoc, hof⟩ := hQ.out.cellOut (j := k') (by omega)
          have Q1 := Lib.hid (hQ.out.setOut k' t)
          have hlo : k' < out.length := by have := hQ.out.len2; omega
          have Hd := Lib.hid (show qOut ys k' (qIn t k' ys m 0 rest) (out.set k' t) = qOut ys N xs (List.replicate N 0) by
            rw [← hd.out, ← Ht.out, ← Hlen2.out]; rfl)
          have Hgo := Lib.hid (show gx (out.set k' t) k' = t by rw [gx_eq _ _ (by simpa using hlo)]; simp)
          obtain ⟨out', Hout'⟩ : ∃ o, Hid (out.set k' t = o) := ⟨_, Lib.hid rfl⟩
          rw [Hout'.out] at Q1 Hd Hgo
          clear hd hQ hlo
          go_wp2_with fail
          go_loopw [9] (fun i wr => ∃ (q s : Nat) (rest : List Int), q ≤ m ∧ i = .int .i64 q ∧ Hid (q + s = m) ∧ Hid (Q2 w wr w.heap.size g1 c1 n g2 N rest out') ∧ Hid (qOut ys k' (qIn t k' ys s q rest) out' = qOut ys N xs (List.replicate N 0))) (fun i _ => m - (intOf i).toNat)
          case atStart => exact ⟨0, m, rest, Nat.zero_le _, rfl, Lib.hid (by omega), Q1, Hd⟩
          case round =>
            clear Q1 Hd hcr hoc hof
            obtain ⟨q, s, rest, hqm, rfl, hqs, hQ, hd⟩ := hrel
            by_cases hlt : q < m
            · obtain ⟨s', rfl⟩ : ∃ s', s = s' + 1 := ⟨s - 1, by have := hqs.out; omega⟩
              have hct : wr.cell? ⟨g2, k', none⟩ = some (.int .i64 t) := by rw [(hQ.out.cellOut (j := k') (by omega)).1, Hgo.out]
              have hcp : wr.cell? (ad.add q) = some (.int .i64 (gx ys q)) := ((hQ.out.be.mono hB).cell (by rw [block_of_add]; omega)).trans (Hc.out q hlt)
              have hkp : k' + q < n := by have := HNn.out; omega
              obtain ⟨hcr2, hfr2⟩ := hQ.out.cellRest hkp
              have hikp : 0 ≤ (k' : Int) + (q : Int) ∧ (k' : Int) + (q : Int) < (n : Int) := by omega
              have hiq : 0 ≤ (q : Int) ∧ (q : Int) < (m : Int) := by omega
              have hwi : IntKind.i64.wrap ((k' : Int) + (q : Int)) = (k' : Int) + (q : Int) := IntWalk.i64_in _ (by omega)
              obtain ⟨u, Hu⟩ : ∃ u, Hid (Pl.wr (gx rest (k' + q) - Pl.wr (t * gx ys q)) = u) := ⟨_, Lib.hid rfl⟩
              have Hw := Lib.hid (show wrap64 (gx rest (k' + q) - wrap64 (t * gx ys q)) = u by rw [← Hu.out]; unfold Pl.wr; rw [IntKind.wrap_i64, IntKind.wrap_i64]; generalize t * gx ys q = z1; generalize gx rest (k' + q) = z2; unfold wrap64; omega)
              have Hd2 := Lib.hid (show qOut ys k' (qIn t k' ys s' (q + 1) (rest.set (k' + q) u)) out' = qOut ys N xs (List.replicate N 0) by rw [← hd.out, ← Hu.out]; rfl)
              have Hq2 := Lib.hid (hQ.out.setRest (k' + q) u)
              clear hd hQ
              go_wp2_with fail
              go_region
              go_wp2_with fail
              go_roundw
              case rel => exact ⟨q + 1, s', _, by omega, by go_num, Lib.hid (by have := hqs.out; omega), Lib.hid (by rw [Hw.out]; exact Hq2.out.dr), Hd2⟩
              case measure => first | (simp [intOf]; done) | (simp [intOf]; omega)
            · obtain rfl : s = 0 := by have := hqs.out; omega
              have Hd2 := Lib.hid (show qOut ys k' rest out' = qOut ys N xs (List.replicate N 0) by rw [← hd.out]; rfl)
              clear hd
              go_wp2_with fail
              go_roundw
              case rel => exact ⟨_, k', rest, _, rfl, Lib.hid (by omega), by omega, hQ, Hd2⟩
              case measure => first | (simp [intOf]; done) | (simp [intOf]; omega)
        · obtain rfl : k = 0 := by omega
          obtain rfl : z = -1 := by have := hz.out; omega
          have Hd2 := Lib.hid (show qOut ys N xs (List.replicate N 0) = (rest, out) by rw [← hd.out]; rfl)
          clear hd
          go_wp2_with fail
          have hrl := hQ.out.len1
          have hol := hQ.out.len2
          go_loopw [10] (fun i wr => ∃ q : Nat, q ≤ n ∧ i = .int .i64 q ∧ Hid (∀ j, j < q → gx rest j = 0) ∧ Hid (Q2 w wr w.heap.size g1 c1 n g2 N rest out)) (fun i _ => n - (intOf i).toNat)
          case atStart => exact ⟨0, Nat.zero_le _, rfl, Lib.hid (fun j hj => by omega), hQ⟩
          case round =>
            clear hQ
            obtain ⟨q, hq, rfl, Hz, hQ⟩ := hrel
            by_cases hlt : q < n
            · have hcr := (hQ.out.cellRest hlt).1
              have hiq : 0 ≤ (q : Int) ∧ (q : Int) < (n : Int) := by omega
              by_cases h0 : gx rest q = 0
              · have t1 : (gx rest q != 0) = false := by simp [h0]
                have Hz2 := Lib.hid (show ∀ j, j < q + 1 → gx rest j = 0 from fun j hj => by
                  rcases Nat.lt_or_eq_of_le (Nat.le_of_lt_succ hj) with h | rfl
                  · exact Hz.out j h
                  · exact h0)
                clear h0 Hz
                go_wp2_with fail
                go_roundw
                case rel => exact ⟨q + 1, by omega, by go_num, Hz2, hQ⟩
                case measure => first | (simp [intOf]; done) | (simp [intOf]; omega)
              · have t1 : (gx rest q != 0) = true := by simp [h0]
                have Hr2 := Lib.hid (show qwS xs ys = ([], false) by
                  have e : (qwF xs ys).2 = false := by rw [Hr.out, Hd2.out]; show allZ rest = false; exact allZ_no q (by omega) h0
                  unfold qwS; rw [e]; rfl)
                have Hbe := Lib.hid hQ.out.be
                clear h0 Hz hQ Hr Hd2
                go_wp2_with fail
                go_ret2
                exact LiQ.nil Hr2.out Hbe.out
            · have hqn : q = n := by omega
              subst hqn
              have Hr2 := Lib.hid (show qwS xs ys = (out, true) by
                have e : allZ rest = true := allZ_yes fun j hj => Hz.out j (by omega)
                have e2 : qwF xs ys = (out, true) := by rw [Hr.out, Hd2.out]; show (out, allZ rest) = _; rw [e]
                unfold qwS; rw [e2]; rfl)
              have Ho := Lib.hid (show Ow wr w.heap.size wr.heap.size (.slice (some ⟨g2, 0, none⟩) N N) out from Ow.of_own hQ.out.out)
              have Hbe := Lib.hid hQ.out.be
              clear hQ Hr Hd2 Hz
              go_wp2_with fail
              go_ret2
              exact ⟨.slice (some ⟨g2, 0, none⟩) N N, by rw [Hr2.out]; rfl, by rw [Hr2.out]; exact Ho.out, Hbe.out⟩
end WY
end Go.Proofs.Ytogkblncdpbhnaa
