/-
  WALKS, CHAPTER 2: sums and differences.
-/
import Derived.Test.YtdcjdnfopohiaaaWlkB4
import Derived.Laws.CopyOwn
namespace Go.Proofs.Ytdcjdnfopohiaaa
open Go.RowKit
set_option linter.unusedVariables false
namespace WB
open K Pl WA WL
/-- 'copy(out, p)': a row of the call's own of N numbers, p not longer. -/
theorem wp_copy_ints {w : World} {ops : Array Oper} {rest : List Oper} {o : Oper} {a : Act} {Q : Exit → Act → World → Prop} (hgd : o.guard = none) (d s : Operand)
    (ho : o.op = .call { callee := .builtin .copy, args := #[d, s], argTypes := #[24, 24] })
    (lo g N : Nat) (zs : List Int) (hd : a.eval d = .slice (some ⟨g, 0, none⟩) N N) (hown : w.ownsRow lo 2 1 (.slice (some ⟨g, 0, none⟩) N N) N (zs.map (Value.int .i64)))
    (B : Nat) (A : Option Addr) (n c : Nat) (xs : List Int) (hs : a.eval s = .slice A n c) (hr : Rd w B A n xs) (hnN : n ≤ N) (w0 : World) (hb : Below lo w0 w)
    (h : ∀ w', Hid (w'.ownsRow lo 2 1 (.slice (some ⟨g, 0, none⟩) N N) N ((xs ++ zs.drop n).map (Value.int .i64))) → Below lo w0 w' → wpList Try.prog ops Q rest (a.put o.dst (goInt n)) w') : wpList Try.prog ops Q (o :: rest) a w := by
  obtain ⟨i0, hi, hz0, hz1, hz2⟩ := info_parts info64
  have hsz : (Try.prog.info? 2).map (·.size) = some 1 := by rw [hi]; exact congrArg some hz1
  have hlen := hr.len
  rcases hown.2 with ⟨h', _⟩ | ⟨g', cap, cur, h', hlo, hgg, hnc, hcm, hcs, htk⟩
  · simp at h'
  · simp only [Value.slice.injEq, Option.some.injEq, Addr.mk.injEq, and_true, true_and] at h'
    obtain ⟨rfl, rfl⟩ := h'
    have hcur : cur.toList = zs.map (Value.int .i64) := by
      rw [← htk, List.take_of_length_le (by simp [hcs])]
    have hzl : zs.length = N := by have := hown.1; simpa using this
    have hcur2 : cur = (zs.map (Value.int .i64)).toArray := by rw [← hcur]
    subst hcur2
    have hm : Nat.min n N = n := Nat.min_eq_left hnN
    refine wpList_copy_splice (P := Try.prog) hgd d s 24 24 ho 2 Try.underlying24 hsz (some ⟨g, 0, none⟩) A N N n c hd hs g 0 (zs.map (Value.int .i64)) _ hgg (xs.map (Value.int .i64)) (by simp [hlen, hm]) ?_ (by simp [hlen, hzl]; exact hnN) ?_ lo w0 hb hlo ?_
    · intro h0
      obtain ⟨ad, e, _, hc⟩ := hr.pos (by simpa [hlen] using h0)
      refine ⟨rfl, ad, e, fun j v hj => ?_⟩
      obtain ⟨rfl, hjl⟩ := gx_map xs j v hj
      exact hc j (by omega)
    · intro v hv
      obtain ⟨x, _, rfl⟩ := List.mem_map.1 hv
      rfl
    · intro w' hg' hb'
      have e : splice (zs.map (Value.int .i64)) 0 (xs.map (Value.int .i64)) = (xs ++ zs.drop n).map (Value.int .i64) := by
        simp [splice, hlen]
      have hg2 := hg'.out
      rw [e] at hg2
      have hl2 : (xs ++ zs.drop n).length = N := by simp [hlen, hzl]; omega
      have e3 : ((xs.map (Value.int .i64)).length) = n := by simp [hlen]
      rw [e3]
      refine h w' (Lib.hid ⟨by rw [List.length_map, hl2]; omega, .inr ⟨g, N, _, rfl, hlo, hg2, Nat.le_refl _, hcm, by rw [List.size_toArray, List.length_map, hl2]; omega, ?_⟩⟩) hb'
      rw [List.toList_toArray, List.take_of_length_le (by rw [List.length_map, hl2]; omega)]
/-- One sum more. -/
theorem add_round {w wr : World} {lo g N cap j : Nat} {xs ys : List Int} {k : Int} (hown : wr.ownsRow lo 2 1 (.slice (some ⟨g, 0, none⟩) N cap) N ((addk xs k ys N j).map (Value.int .i64))) (hj : j < N) :
    wr.cell? ⟨g, j, none⟩ = some (.int .i64 (gx xs j)) ∧ wr.frozen? ⟨g, j, none⟩ = false ∧ (wr.setCell ⟨g, j, none⟩ (.int .i64 (gx xs j + k * gx ys j))).ownsRow lo 2 1 (.slice (some ⟨g, 0, none⟩) N cap) N ((addk xs k ys N (j + 1)).map (Value.int .i64)) := by
  refine ⟨?_, hown.frozenAt j, ?_⟩
  · rw [hown.cellAt j (by omega), map_gx _ j (by rw [addk_len]; exact hj), gx_addk xs k ys N j j hj, if_neg (by omega)]; simp
  · have e := (hown.stored j (.int .i64 (gx xs j + k * gx ys j))).1
    rw [← List.map_set, addk_step xs k ys N j] at e; exact e

set_option maxHeartbeats 1600000 in
theorem sumOf_any (B : Nat) (v v2 : Value) (xs ys : List Int) (k : Int) (w : World) (h : Is w B v xs) (h2 : Is w B v2 ys) (hB : B ≤ w.heap.size) (hp : isPoly xs = true) (hq : isPoly ys = true) (hk : k = 1 ∨ k = -1) :
    Calls Try.prog 29 #[v, .int .i64 k, v2] w (Li2 (sumP xs k ys) w) := by
  have Hco := Lib.hid (fun j => addk_coef (k := k) hp hq hk j)
  obtain ⟨A, n, c, rfl, hnc, hcm, hrd⟩ := h
  obtain ⟨A2, m, c2, rfl, hmc, hcm2, hrd2⟩ := h2
  have Hlen := Lib.hid hrd.len
  have Hlen2 := Lib.hid hrd2.len
  have hn' : n ≤ 2001 := by rw [← hrd.len]; exact (isPoly_true.1 hp).1
  have hm' : m ≤ 2001 := by rw [← hrd2.len]; exact (isPoly_true.1 hq).1
  unfold maxLen at hcm hcm2
  obtain ⟨N, hN⟩ : ∃ N, N = max n m := ⟨_, rfl⟩
  have hnN : n ≤ N := by omega
  have hmN : m ≤ N := by omega
  have hN' : N ≤ 2001 := by omega
  have hmax : (if (m : Int) > (n : Int) then (m : Int) else (n : Int)) = (N : Int) := by split <;> omega
  have hmax' : (if (n : Int) < (m : Int) then (m : Int) else (n : Int)) = (N : Int) := hmax
  have Hmax := Lib.hid hmax
  have hrunmax : ∀ (W : World) (ts : Array TypeId) (t : TypeId), (Builtin.max_ ts t #[.int .i64 (n : Int), .int .i64 (m : Int)]).run Try.prog W = .ok (.int .i64 (N : Int)) W := by
    intro W ts t
    rw [run_max_int2, hmax]
  have HN := Lib.hid (show N = max xs.length ys.length by rw [Hlen.out, Hlen2.out]; exact hN)
  have hkb : -1000000000000 ≤ k ∧ k ≤ 1000000000000 := by omega
  clear hp hq hk hN hmax hmax'
  obtain ⟨i0, hi, hz0, hz1, hz2⟩ := info_parts info64
  have Hi := Lib.hid hi; have Hz0 := Lib.hid hz0; have Hz1 := Lib.hid hz1; have Hz2 := Lib.hid hz2
  clear hi hz0 hz1 hz2
  go_enter Try.func29, Try.ntmps29
  go_wp2_with (at_make; refine wpList_make_full _ rfl _ _ 24 rfl w.heap.size 2 i0 (.int .i64 0) 1 Try.underlying24 Hi.out Hz0.out Hz1.out _ _ _ _ N rfl rfl rfl rfl ?b ?c ?d ?_)
  case b => rw [Hz2.out]; omega
  case c => unfold maxLen; omega
  case d => simp
  intro w1 hown hgrow
  have hbw : Below w.heap.size w w1 := (Below.refl _ _).grown hgrow (Nat.le_refl _) (by simp)
  have hown0 : w1.ownsRow w.heap.size 2 1 (.slice (some ⟨w.heap.size, 0, none⟩) N N) N ((List.replicate N (0 : Int)).map (Value.int .i64)) := by
    rw [List.map_replicate]
    have e : (madeCells (Value.int IntKind.i64 0).cells (N * 1)).toList = List.replicate N (Value.int .i64 0) := by
      rw [Nat.mul_one]; exact toList_madeCells_one _ N
    rw [← e, Nat.mul_one]; exact hown
  have hrd1 := hrd.below (hbw.mono hB)
  have Hrd2 := Lib.hid hrd2
  clear hown hgrow hrd hrd2
  go_wp2_with (refine wp_copy_ints (o := ⟨some 21, _, _, _, _, _⟩) rfl _ _ rfl w.heap.size w.heap.size N _ rfl hown0 B A n c xs rfl hrd1 hnN w hbw ?_)
  intro w2 hown2 hb2
  have hown3 : w2.ownsRow w.heap.size 2 1 (.slice (some ⟨w.heap.size, 0, none⟩) N N) N ((addk xs k ys N 0).map (Value.int .i64)) := by
    rw [addk_zero xs k ys N (by rw [Hlen.out]; exact hnN), Hlen.out]
    simpa using hown2.out
  have Hown3 := Lib.hid hown3
  clear hown0 hbw hrd1 hown2 hown3
  go_wp2
  go_loopw [24] (fun i wr => ∃ j : Nat, j ≤ m ∧ i = .int .i64 j ∧ Hid (wr.ownsRow w.heap.size 2 1 (.slice (some ⟨w.heap.size, 0, none⟩) N N) N ((addk xs k ys N j).map (Value.int .i64))) ∧ Below w.heap.size w wr) (fun i _ => m - (intOf i).toNat)
  case atStart => exact ⟨0, Nat.zero_le _, rfl, Hown3, hb2⟩
  case round =>
    obtain ⟨j, hj, rfl, hown, hbe⟩ := hrel
    clear Hown3 hb2
    by_cases hlt : j < m
    · obtain ⟨ad, rfl, hab, hc⟩ := Hrd2.out.pos (by omega)
      have hc1 : wr.cell? (ad.add j) = some (.int .i64 (gx ys j)) := ((hbe.mono hB).cell (by rw [block_of_add]; omega)).trans (hc j hlt)
      obtain ⟨hcx, hfr, hst⟩ := add_round (w := w) hown.out (show j < N by omega)
      have hbx := (Hco.out j).1
      have hby := (Hco.out j).2
      have hi1 : 0 ≤ (j : Int) ∧ (j : Int) < (N : Int) := by omega
      have hbe2 : Below w.heap.size w (wr.setCell ⟨w.heap.size, j, none⟩ (.int .i64 (gx xs j + k * gx ys j))) := hbe.setCell (Nat.le_refl _) _
      have Hst := Lib.hid hst
      clear hst hc hown hbe
      go_wp2
      go_roundw
      case rel => exact ⟨j + 1, by omega, by go_num, Hst, hbe2⟩
      case measure => first | (simp [intOf]; done) | (simp [intOf]; omega)
    · obtain rfl : j = m := by omega
      have Hall := Lib.hid (show addk xs k ys N j = addK xs k ys by rw [HN.out, ← Hlen2.out]; exact addk_all xs k ys)
      have Hown := Lib.hid (show wr.ownsRow w.heap.size 2 1 (.slice (some ⟨w.heap.size, 0, none⟩) N N) N ((addK xs k ys).map (Value.int .i64)) by rw [← Hall.out]; exact hown.out)
      have Hl := Lib.hid (show (addK xs k ys).length = N by rw [addK_len, ← HN.out])
      clear hown
      go_wp2
      go_loop [41] (fun i => ∃ j : Nat, j ≤ N ∧ i = .int .i64 j ∧ Hid (∀ t, t < j → isCoef (gx (addK xs k ys) t) = true)) (fun i => N - (intOf i).toNat)
      case atStart => exact ⟨0, Nat.zero_le _, rfl, Lib.hid (fun t ht => by omega)⟩
      case round =>
        obtain ⟨q, hq, rfl, hall⟩ := hrel
        by_cases hlt2 : q < N
        · have hc1 : wr.cell? ⟨w.heap.size, q, none⟩ = some (.int .i64 (gx (addK xs k ys) q)) := by
            rw [Hown.out.cellAt q (by omega)]; exact map_gx _ q (by rw [Hl.out]; exact hlt2)
          have hi1 : 0 ≤ (q : Int) ∧ (q : Int) < (N : Int) := by omega
          cases hR : isCoef (gx (addK xs k ys) q)
          · have Hr := Lib.hid (sumP_bad (xs := xs) (ys := ys) (k := k) q (by rw [← HN.out]; exact hlt2) hR)
            go_wp2_with (go_at_call 24; refine (isCoefficient_any _ _).mono ?_; rintro e w' ⟨rfl, rfl⟩)
            go_ret2
            exact Li2.nil Hr.out hbe
          · have Hall2 := Lib.hid (show ∀ t, t < q + 1 → isCoef (gx (addK xs k ys) t) = true from fun t ht => by
              by_cases e : t = q
              · rw [e]; exact hR
              · exact hall.out t (by omega))
            go_wp2_with (go_at_call 24; refine (isCoefficient_any _ _).mono ?_; rintro e w' ⟨rfl, rfl⟩)
            go_round
            case rel => exact ⟨q + 1, by omega, by go_num, Hall2⟩
            case measure => first | (simp [intOf]; done) | (simp [intOf]; omega)
        · have Hr := Lib.hid (sumP_all (xs := xs) (ys := ys) (k := k) (fun t ht => hall.out t (by rw [← HN.out] at ht; omega)))
          have Ho := Lib.hid (show Ow wr w.heap.size wr.heap.size (.slice (some ⟨w.heap.size, 0, none⟩) N N) (addK xs k ys) from Ow.of_own Hown.out)
          go_wp2_with fail
          refine (trimmed_any _ _ _ _ _ Ho.out).mono ?_
          rintro e w' ⟨v', rfl, own', rfl⟩
          go_wp2_with fail
          go_ret2
          exact ⟨v', by rw [Hr.out]; rfl, by rw [Hr.out]; exact own', hbe⟩
theorem AddPolynomials_any (B : Nat) (v v2 : Value) (xs ys : List Int) (w : World) (h : Is w B v xs) (h2 : Is w B v2 ys) (hB : B ≤ w.heap.size) : Calls Try.prog 16 #[v, v2] w (Li2 (sumF xs 1 ys) w) := by
  have Hp := Lib.hid h
  have Hq := Lib.hid h2
  clear h h2
  cases hP : isPoly xs
  · have Hr := Lib.hid (show sumF xs 1 ys = ([], 1) by unfold sumF; rw [hP]; rfl)
    go_enter Try.func16, Try.ntmps16
    go_wp2_with fail
    refine (IsPolynomial_any B v xs _ Hp.out hB).mono ?_
    rintro e w' ⟨rfl, rfl⟩
    rw [hP]
    go_wp2_with fail
    go_ret2
    exact Li2.nil Hr.out (Below.refl _ _)
  · cases hQ : isPoly ys
    · have Hr := Lib.hid (show sumF xs 1 ys = ([], 1) by unfold sumF; rw [hP, hQ]; rfl)
      go_enter Try.func16, Try.ntmps16
      go_wp2_with fail
      refine (IsPolynomial_any B v xs _ Hp.out hB).mono ?_
      rintro e w' ⟨rfl, rfl⟩
      rw [hP]
      go_wp2_with fail
      refine (IsPolynomial_any B v2 ys _ Hq.out hB).mono ?_
      rintro e w' ⟨rfl, rfl⟩
      rw [hQ]
      go_wp2_with fail
      go_ret2
      exact Li2.nil Hr.out (Below.refl _ _)
    · have Hr := Lib.hid (show sumF xs 1 ys = sumP xs 1 ys by unfold sumF; rw [hP, hQ]; rfl)
      have HP := Lib.hid hP
      have HQ := Lib.hid hQ
      go_enter Try.func16, Try.ntmps16
      go_wp2_with fail
      refine (IsPolynomial_any B v xs _ Hp.out hB).mono ?_
      rintro e w' ⟨rfl, rfl⟩
      rw [hP]
      go_wp2_with fail
      refine (IsPolynomial_any B v2 ys _ Hq.out hB).mono ?_
      rintro e w' ⟨rfl, rfl⟩
      rw [hQ]
      clear hP hQ
      go_wp2_with fail
      refine (sumOf_any B v v2 xs ys 1 _ Hp.out Hq.out hB HP.out HQ.out (by first | exact .inl rfl | exact .inr rfl)).mono ?_
      rintro e w1 ⟨v1, rfl, own1, hb1⟩
      go_wp2_with fail
      go_ret2
      exact ⟨v1, by rw [Hr.out]; rfl, by rw [Hr.out]; exact own1, hb1⟩
theorem SubtractPolynomials_any (B : Nat) (v v2 : Value) (xs ys : List Int) (w : World) (h : Is w B v xs) (h2 : Is w B v2 ys) (hB : B ≤ w.heap.size) : Calls Try.prog 18 #[v, v2] w (Li2 (sumF xs (-1) ys) w) := by
  have Hp := Lib.hid h
  have Hq := Lib.hid h2
  clear h h2
  cases hP : isPoly xs
  · have Hr := Lib.hid (show sumF xs (-1) ys = ([], 1) by unfold sumF; rw [hP]; rfl)
    go_enter Try.func18, Try.ntmps18
    go_wp2_with fail
    refine (IsPolynomial_any B v xs _ Hp.out hB).mono ?_
    rintro e w' ⟨rfl, rfl⟩
    rw [hP]
    go_wp2_with fail
    go_ret2
    exact Li2.nil Hr.out (Below.refl _ _)
  · cases hQ : isPoly ys
    · have Hr := Lib.hid (show sumF xs (-1) ys = ([], 1) by unfold sumF; rw [hP, hQ]; rfl)
      go_enter Try.func18, Try.ntmps18
      go_wp2_with fail
      refine (IsPolynomial_any B v xs _ Hp.out hB).mono ?_
      rintro e w' ⟨rfl, rfl⟩
      rw [hP]
      go_wp2_with fail
      refine (IsPolynomial_any B v2 ys _ Hq.out hB).mono ?_
      rintro e w' ⟨rfl, rfl⟩
      rw [hQ]
      go_wp2_with fail
      go_ret2
      exact Li2.nil Hr.out (Below.refl _ _)
    · have Hr := Lib.hid (show sumF xs (-1) ys = sumP xs (-1) ys by unfold sumF; rw [hP, hQ]; rfl)
      have HP := Lib.hid hP
      have HQ := Lib.hid hQ
      go_enter Try.func18, Try.ntmps18
      go_wp2_with fail
      refine (IsPolynomial_any B v xs _ Hp.out hB).mono ?_
      rintro e w' ⟨rfl, rfl⟩
      rw [hP]
      go_wp2_with fail
      refine (IsPolynomial_any B v2 ys _ Hq.out hB).mono ?_
      rintro e w' ⟨rfl, rfl⟩
      rw [hQ]
      clear hP hQ
      go_wp2_with fail
      refine (sumOf_any B v v2 xs ys (-1) _ Hp.out Hq.out hB HP.out HQ.out (by first | exact .inl rfl | exact .inr rfl)).mono ?_
      rintro e w1 ⟨v1, rfl, own1, hb1⟩
      go_wp2_with fail
      go_ret2
      exact ⟨v1, by rw [Hr.out]; rfl, by rw [Hr.out]; exact own1, hb1⟩
end WB
end Go.Proofs.Ytdcjdnfopohiaaa
