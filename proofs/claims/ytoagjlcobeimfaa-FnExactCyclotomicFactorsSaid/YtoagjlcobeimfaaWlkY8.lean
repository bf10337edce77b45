/-
  WALKS, CHAPTER 2: the reference's totient; the program's division by a cyclotomic polynomial.
-/
import Derived.Test.YtoagjlcobeimfaaWlkY1
import Derived.Test.YtoagjlcobeimfaaWlkY3
import Derived.Test.YtoagjlcobeimfaaPlOs
namespace Go.Proofs.Ytoagjlcobeimfaa
open Go.RowKit
set_option linter.unusedVariables false
namespace WY
open K Pl WA WL WB
theorem t2_one {f p o rest T : Nat} (h : t2 f p o rest = some T) (hr : rest ≤ 1) : o = T := by
  cases f with
  | zero =>
    have h' : (bif Nat.ble rest 1 then some o else none) = some T := h
    rw [ble_t hr] at h'; exact Option.some.inj h'
  | succ f =>
    have h' : (bif Nat.ble rest 1 then some o else bif Nat.beq (rest % p) 0 then t2 f (p + 1) (o / p * (p - 1)) (expG 12 p rest).1 else t2 f (p + 1) o rest) = some T := h
    rw [ble_t hr] at h'; exact Option.some.inj h'
theorem t2_more {f p o rest T : Nat} (h : t2 f p o rest = some T) (hr : 1 < rest) : ∃ g, f = g + 1 ∧ (rest % p = 0 → t2 g (p + 1) (o / p * (p - 1)) (expG 12 p rest).1 = some T) ∧ (rest % p ≠ 0 → t2 g (p + 1) o rest = some T) := by
  cases f with
  | zero =>
    have h' : (bif Nat.ble rest 1 then some o else none) = some T := h
    rw [ble_f (by omega)] at h'; cases h'
  | succ f =>
    have h' : (bif Nat.ble rest 1 then some o else bif Nat.beq (rest % p) 0 then t2 f (p + 1) (o / p * (p - 1)) (expG 12 p rest).1 else t2 f (p + 1) o rest) = some T := h
    rw [ble_f (by omega)] at h'
    refine ⟨f, rfl, fun h0 => ?_, fun h0 => ?_⟩
    · rw [h0] at h'; exact h'
    · rw [show Nat.beq (rest % p) 0 = false from by
        cases e : Nat.beq (rest % p) 0
        · rfl
        · exact absurd (Nat.eq_of_beq_eq_true e) h0] at h'; exact h'
theorem emod_no {n p : Nat} (h : n % p ≠ 0) : ((n : Int) % (p : Int) == 0) = false := by
  rw [beq_eq_false_iff_ne]
  intro e
  have e2 : ((n % p : Nat) : Int) = 0 := by rw [Int.natCast_emod]; exact e
  exact h (by omega)
set_option maxHeartbeats 2000000 in
theorem l02Totient_any (n0 : Nat) (w : World) (h1 : 1 ≤ n0) (h2 : n0 ≤ 1000) : Calls Try.prog 21 #[.int .i64 n0] w fun e w' => e = .returned (.int .i64 (totN n0 : Int)) ∧ w = w' := by
  obtain ⟨T, HT⟩ : ∃ T, Hid (totN n0 = T) := ⟨_, Lib.hid rfl⟩
  have Hst := Lib.hid (show t2 1000 2 n0 n0 = some T by rw [(t2_all n0 h1 h2).1, HT.out])
  rw [HT.out]
  clear HT
  go_enter Try.func21, Try.ntmps21
  go_wp2_with fail
  go_loop [3, 4, 5] (fun a b c => ∃ (o r p f : Nat), a = .int .i64 o ∧ b = .int .i64 r ∧ c = .int .i64 p ∧ o ≤ 1000 ∧ 1 ≤ r ∧ r ≤ 1000 ∧ 2 ≤ p ∧ f + p = 1002 ∧ Hid (t2 f p o r = some T)) (fun _ _ c => 1002 - (intOf c).toNat)
  case atStart => exact ⟨n0, n0, 2, 1000, rfl, rfl, rfl, h2, h1, h2, by omega, by omega, Hst⟩
  case round =>
    clear Hst
    obtain ⟨o, r, p, f, rfl, rfl, rfl, ho, hr, hr2, hp, hfp, Hst⟩ := hrel
    by_cases hr1 : 1 < r
    · obtain ⟨g, rfl, hy, hn⟩ := t2_more Hst.out hr1
      have Hy := Lib.hid hy
      have Hn := Lib.hid hn
      have hp0 : (p : Int) ≠ 0 := by omega
      have t1 : (1 : Int) < (r : Int) := by omega
      clear Hst hy hn
      by_cases hd : r % p = 0
      · have Hst := Lib.hid (Hy.out hd)
        have hm0 : (r : Int).tmod (p : Int) = 0 := by rw [← Int.ofNat_tmod, hd]; rfl
        have hq : (o : Int).tdiv (p : Int) = ((o / p : Nat) : Int) := (Int.ofNat_tdiv o p).symm
        have hle : o / p * (p - 1) ≤ o := Nat.le_trans (Nat.mul_le_mul_left _ (Nat.sub_le p 1)) (Nat.div_mul_le_self o p)
        have hmul : ((o / p : Nat) : Int) * ((p : Int) - 1) = ((o / p * (p - 1) : Nat) : Int) := by
          rw [Int.natCast_mul, Int.natCast_sub (by omega)]; rfl
        have hqo : o / p ≤ o := Nat.div_le_self o p
        obtain ⟨X, HX⟩ : ∃ X, Hid ((expG 12 p r).1 = X) := ⟨_, Lib.hid rfl⟩
        rw [HX.out] at Hst
        have hXp := expG_pos 12 p r hr hp
        have hXl := expG_le 12 p r
        rw [HX.out] at hXp hXl
        clear Hy Hn hd
        generalize o / p * (p - 1) = o' at *
        generalize o / p = q at *
        go_wp2_with fail
        go_loop [4] (fun a => ∃ (r' f' : Nat), a = .int .i64 r' ∧ 1 ≤ r' ∧ r' ≤ r ∧ f' ≤ 12 ∧ Hid (r' < 2 ^ f') ∧ Hid ((expG f' p r').1 = X)) (fun a => (intOf a).toNat)
        case atStart => exact ⟨r, 12, rfl, hr, Nat.le_refl _, by omega, Lib.hid (by show r < 4096; omega), HX⟩
        case round =>
          obtain ⟨r', f', rfl, hr1', hr2', hf', Hlt, HX'⟩ := hrel
          by_cases hd : r' % p = 0
          · obtain ⟨e, rfl⟩ : ∃ e, f' = e + 1 := by
              cases f' with
              | zero => have := Hlt.out; simp at this; omega
              | succ e => exact ⟨e, rfl⟩
            have hm0 : (r' : Int).tmod (p : Int) = 0 := by rw [← Int.ofNat_tmod, hd]; rfl
            have hq2 : (r' : Int).tdiv (p : Int) = ((r' / p : Nat) : Int) := (Int.ofNat_tdiv r' p).symm
            have hq3 : 1 ≤ r' / p := Nat.div_pos (Nat.le_of_dvd hr1' (Nat.dvd_of_mod_eq_zero hd)) (by omega)
            have hq4 : r' / p < r' := Nat.div_lt_self hr1' hp
            have Hlt2 := Lib.hid (half_lt hp Hlt.out)
            rw [expG_yes hd] at HX'
            have HX2 := Lib.hid HX'.out
            clear hd HX' Hlt
            go_wp2_with fail
            go_round
            case rel => exact ⟨r' / p, e, rfl, hq3, by omega, by omega, Hlt2, HX2⟩
            case measure => simp [intOf]; omega
          · have hm0 := emod_no hd
            rw [expG_no hd] at HX'
            obtain rfl : r' = X := HX'.out
            clear hd HX' Hlt HX
            go_wp2_with fail
            go_round
            case rel => exact ⟨o', r', p + 1, g, rfl, rfl, by go_num, by omega, hr1', by omega, by omega, by omega, Hst⟩
            case measure => simp [intOf]; omega
      · have Hst := Lib.hid (Hn.out hd)
        have hm0 := emod_no hd
        clear Hy Hn hd
        go_wp2_with fail
        refine wp_loop_rounds 1 ?_
        rw [rounds_succ]
        go_wp2_with fail
        go_round
        case rel => exact ⟨o, r, p + 1, g, rfl, rfl, by go_num, by omega, hr, by omega, by omega, by omega, Hst⟩
        case measure => simp [intOf]; omega
    · have hT := t2_one Hst.out (by omega)
      subst hT
      clear Hst
      go_wp2_with fail
      go_ret
      exact ⟨rfl, rfl⟩
theorem LiQ.no {w w' : World} {xs ys : List Int} (hr : qwF xs ys = ([], false)) (h : Below w.heap.size w w') : LiQ (qwF xs ys) w (.returned (.tuple #[.slice none 0 0, .bool false])) w' := by
  rw [hr]
  exact ⟨_, rfl, K.Ow.nil _ _ _, h⟩
theorem trim_allZ (l : List Int) : (((trimL l).length : Int) == 0) = allZ l := by
  cases h : allZ l with
  | true =>
    have e : trimL l = [] := (trimL_eq_nil l).2 fun j => by
      by_cases hj : j < l.length
      · unfold allZ at h
        rw [List.all_eq_true] at h
        have := h _ (gx_mem l j hj)
        simpa using this
      · exact gx_out l j (by omega)
    rw [e]; rfl
  | false =>
    rw [beq_eq_false_iff_ne]
    intro e
    have e2 : trimL l = [] := List.eq_nil_of_length_eq_zero (by omega)
    have := (trimL_eq_nil l).1 e2
    rw [allZ_yes fun j _ => this j] at h
    cases h
set_option maxRecDepth 8192 in
set_option maxHeartbeats 8000000 in
theorem divided_any (B : Nat) (v v2 : Value) (xs ys : List Int) (w : World) (h : Is w B v xs) (h2 : Is w B v2 ys) (hB : B ≤ w.heap.size) (hx : xs.length ≤ 2001) (hy : ys.length ≤ 2001) (hy1 : 1 ≤ ys.length) :
    Calls Try.prog 26 #[v, v2] w (LiQ (qwF xs ys) w) := by
  have Hp := Lib.hid h
  obtain ⟨A, n, c, rfl, hnc, hcm, hrd⟩ := h
  obtain ⟨A2, m, c2, rfl, hmc, hcm2, hrd2⟩ := h2
  have Hlen := Lib.hid hrd.len
  have Hlen2 := Lib.hid hrd2.len
  rw [hrd.len] at hx
  rw [hrd2.len] at hy hy1
  obtain ⟨ad, rfl, hab, hc2⟩ := hrd2.pos (by omega)
  have Hc := Lib.hid hc2
  unfold maxLen at hcm hcm2
  clear hrd hrd2 hc2
  by_cases hnm : n < m
  · have hnm2 : (n : Int) < (m : Int) := by omega
    have Hr := Lib.hid (show qwF xs ys = ([], false) from qwF_short (by rw [Hlen.out, Hlen2.out]; exact hnm))
    go_enter Try.func26, Try.ntmps26
    go_wp2_with fail
    go_ret2
    exact LiQ.no Hr.out (Below.refl _ _)
  · have hnm2 : ¬ (n : Int) < (m : Int) := by omega
    obtain ⟨N, hN⟩ : ∃ N, N = n - m + 1 := ⟨_, rfl⟩
    have HN := Lib.hid (show (n : Int) - (m : Int) + 1 = (N : Int) by omega)
    have Hr := Lib.hid (show qwF xs ys = ((qOut ys N xs (List.replicate N 0)).2, allZ (qOut ys N xs (List.replicate N 0)).1) by
      unfold qwF; rw [if_neg (by rw [Hlen.out, Hlen2.out]; exact hnm), Hlen.out, Hlen2.out, ← hN])
    have hN' : N ≤ 2001 := by omega
    have hN1 : 1 ≤ N := by omega
    have HNn := Lib.hid (show N + m = n + 1 by omega)
    have hn1 : 1 ≤ n := by omega
    obtain ⟨i0, hi, hz0, hz1, hz2⟩ := info_parts info64
    have Hi := Lib.hid hi; have Hz0 := Lib.hid hz0; have Hz1 := Lib.hid hz1; have Hz2 := Lib.hid hz2
    clear hN hnm hi hz0 hz1 hz2
    go_enter Try.func26, Try.ntmps26
    go_wp2_with fail
    refine (Clone_any B _ xs _ Hp.out hB (by rw [Hlen.out]; omega)).mono ?_
    rintro e w1 ⟨v1, rfl, own1, hb1⟩
    obtain ⟨g1, c1, rfl⟩ := Go.Joins.ownsRow_form own1.1 (by rw [Hlen.out]; omega)
    have hs1 := hb1.size
    have hg1 := own1.1.lt g1 rfl
    have hr1 := own1.1
    rw [Hlen.out] at hr1 ⊢
    go_wp2_with (at_make; refine wpList_make_full _ rfl _ _ 22 rfl w1.heap.size 2 i0 (.int .i64 0) 1 Try.underlying22 Hi.out Hz0.out Hz1.out _ _ _ _ N rfl rfl HN.out HN.out ?b ?c ?d ?_)
    case b => rw [Hz2.out]; omega
    case c => unfold maxLen; omega
    try (case d => simp)
    intro w2 hown hgrow
    have hb12 : Below w1.heap.size w1 w2 := (Below.refl _ _).grown hgrow (Nat.le_refl _) (by simp)
    have Q0 : Hid (Q2 w w2 w.heap.size g1 c1 n w1.heap.size N xs (List.replicate N 0)) := Lib.hid {
      rest := own_later hr1 hb12
      out := by
        rw [List.map_replicate]
        have e : (madeCells (Value.int IntKind.i64 0).cells (N * 1)).toList = List.replicate N (Value.int .i64 0) := by
          rw [Nat.mul_one]; exact toList_madeCells_one _ N
        rw [← e, Nat.mul_one]; exact own_base hown hs1
      ne := by have := hg1.2; omega
      be := hb1.trans (hb12.mono hs1) }
    generalize w1.heap.size = g2 at *
    clear own1 hb1 hr1 hown hgrow hb12 hg1
    go_wp2_with fail
    go_loopw [8] (fun i wr => ∃ (z : Int) (k : Nat) (rest out : List Int), i = .int .i64 z ∧ Hid (z + 1 = k) ∧ k ≤ N ∧ Hid (Q2 w wr w.heap.size g1 c1 n g2 N rest out) ∧ Hid (qOut ys k rest out = qOut ys N xs (List.replicate N 0))) (fun i _ => (intOf i + 1).toNat)
    case atStart => exact ⟨_, N, xs, _, rfl, Lib.hid (by omega), Nat.le_refl _, Q0, Lib.hid rfl⟩
    case round =>
      clear Q0
      obtain ⟨z, k, rest, out, rfl, hz, hk, hQ, hd⟩ := hrel
      by_cases hk0 : 0 < k
      · obtain ⟨k', rfl⟩ : ∃ k', k = k' + 1 := ⟨k - 1, by omega⟩
        obtain rfl : z = (k' : Int) := by have := hz.out; omega
        obtain ⟨t, Ht⟩ : ∃ t, Hid (gx rest (k' + (ys.length - 1)) = t) := ⟨_, Lib.hid rfl⟩
        have hkn : k' + m - 1 < n := by have := HNn.out; omega
        have hcr : wr.cell? ⟨g1, k' + m - 1, none⟩ = some (.int .i64 t) := by
          rw [← Ht.out, Hlen2.out, show k' + (m - 1) = k' + m - 1 by omega]; exact (hQ.out.cellRest hkn).1
        have hikj : 0 ≤ (k' : Int) + (m : Int) - 1 ∧ (k' : Int) + (m : Int) - 1 < (n : Int) := by omega
        have hko : 0 ≤ (k' : Int) ∧ (k' : Int) < (N : Int) := by omega
        obtain ⟨hoc, hof⟩ := hQ.out.cellOut (j := k') (by omega)
        have Q1 := Lib.hid (hQ.out.setOut k' t)
        have Hd := Lib.hid (show qOut ys k' (qIn t k' ys m 0 rest) (out.set k' t) = qOut ys N xs (List.replicate N 0) by
          rw [← hd.out, ← Ht.out, ← Hlen2.out]; rfl)
        obtain ⟨out', Hout'⟩ : ∃ o, Hid (out.set k' t = o) := ⟨_, Lib.hid rfl⟩
        rw [Hout'.out] at Q1 Hd
        clear hd hQ
        go_wp2_with fail
        go_loopw [47] (fun i wr => ∃ (q s : Nat) (rest : List Int), q ≤ m ∧ i = .int .i64 q ∧ Hid (q + s = m) ∧ Hid (Q2 w wr w.heap.size g1 c1 n g2 N rest out') ∧ Hid (qOut ys k' (qIn t k' ys s q rest) out' = qOut ys N xs (List.replicate N 0))) (fun i _ => m - (intOf i).toNat)
        case atStart => exact ⟨0, m, rest, Nat.zero_le _, rfl, Lib.hid (by omega), Q1, Hd⟩
        case round =>
          clear Q1 Hd hcr hoc hof
          obtain ⟨q, s, rest, hqm, rfl, hqs, hQ, hd⟩ := hrel
          by_cases hlt : q < m
          · obtain ⟨s', rfl⟩ : ∃ s', s = s' + 1 := ⟨s - 1, by have := hqs.out; omega⟩
            have hcp : wr.cell? (ad.add q) = some (.int .i64 (gx ys q)) := ((hQ.out.be.mono hB).cell (by rw [block_of_add]; omega)).trans (Hc.out q hlt)
            have hkp : k' + q < n := by have := HNn.out; omega
            obtain ⟨hcr2, hfr2⟩ := hQ.out.cellRest hkp
            have hikp : 0 ≤ (k' : Int) + (q : Int) ∧ (k' : Int) + (q : Int) < (n : Int) := by omega
            have hiq : 0 ≤ (q : Int) ∧ (q : Int) < (m : Int) := by omega
            have hwi : IntKind.i64.wrap ((k' : Int) + (q : Int)) = (k' : Int) + (q : Int) := IntWalk.i64_in _ (by omega)
            obtain ⟨u, Hu⟩ : ∃ u, Hid (Pl.wr (gx rest (k' + q) - Pl.wr (t * gx ys q)) = u) := ⟨_, Lib.hid rfl⟩
            have Hw := Lib.hid (show wrap64 (gx rest (k' + q) - wrap64 (t * gx ys q)) = u by rw [← Hu.out]; unfold Pl.wr; rw [IntKind.wrap_i64, IntKind.wrap_i64]; generalize t * gx ys q = z1; generalize gx rest (k' + q) = z2; unfold wrap64; omega)
            have Hd2 := Lib.hid (show qOut ys k' (qIn t k' ys s' (q + 1) (rest.set (k' + q) u)) out' = qOut ys N xs (List.replicate N 0) by rw [← hd.out, ← Hu.out]; rfl)
            have Hq2 := Lib.hid (hQ.out.setRest (k' + q) u)
            clear hd hQ
            go_wp2_with fail
            go_roundw
            case rel => exact ⟨q + 1, s', _, by omega, by go_num, Lib.hid (by have := hqs.out; omega), Lib.hid (by rw [Hw.out]; exact Hq2.out), Hd2⟩
            case measure => first | (simp [intOf]; done) | (simp [intOf]; omega)
          · obtain rfl : s = 0 := by have := hqs.out; omega
            have Hd2 := Lib.hid (show qOut ys k' rest out' = qOut ys N xs (List.replicate N 0) by rw [← hd.out]; rfl)
            clear hd
            go_wp2_with fail
            go_roundw
            case rel => exact ⟨_, k', rest, _, rfl, Lib.hid (by omega), by omega, hQ, Hd2⟩
            case measure => first | (simp [intOf]; done) | (simp [intOf]; omega)
      · obtain rfl : k = 0 := by omega
        obtain rfl : z = -1 := by have := hz.out; omega
        have Hd2 := Lib.hid (show qOut ys N xs (List.replicate N 0) = (rest, out) by rw [← hd.out]; rfl)
        have Hr2 := Lib.hid (show qwF xs ys = (out, allZ rest) by rw [Hr.out, Hd2.out])
        clear hd Hr Hd2
        go_wp2_with fail
        have hrl := hQ.out.len1
        have Ow1 := Lib.hid (show Ow wr w.heap.size wr.heap.size (.slice (some ⟨g1, 0, none⟩) n c1) rest from Ow.of_own (n := n) hQ.out.rest)
        refine (trimmed_any _ _ _ rest _ Ow1.out).mono ?_
        rintro e w3 ⟨v3, rfl, own3, rfl⟩
        obtain ⟨A3, c3, rfl, hnc3, hcm3⟩ := own_shape own3.1
        have Ho := Lib.hid (show Ow wr w.heap.size wr.heap.size (.slice (some ⟨g2, 0, none⟩) N N) out from Ow.of_own hQ.out.out)
        have Hbe := Lib.hid hQ.out.be
        have hbz := trim_allZ rest
        obtain ⟨bz, hbz'⟩ : ∃ b, allZ rest = b := ⟨_, rfl⟩
        rw [hbz'] at hbz
        have Hbz := Lib.hid hbz'
        clear hQ own3 Ow1
        go_wp2_with fail
        go_ret2
        exact ⟨.slice (some ⟨g2, 0, none⟩) N N, by rw [Hr2.out, Hbz.out]; rfl, by rw [Hr2.out]; exact Ho.out, Hbe.out⟩
end WY
end Go.Proofs.Ytoagjlcobeimfaa
