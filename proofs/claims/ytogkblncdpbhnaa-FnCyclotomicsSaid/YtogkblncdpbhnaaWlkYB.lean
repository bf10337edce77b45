/-
  WALKS, CHAPTER 2: the reference's totient; the program's division by a cyclotomic polynomial.
  WALKS, CHAPTER 2: CyclotomicFactors by the program.
  WALKS, CHAPTER 2: CyclotomicFactors by the reference.
-/
import Derived.Test.YtogkblncdpbhnaaWlkY1
import Derived.Test.YtogkblncdpbhnaaWlkY3
import Derived.Test.YtogkblncdpbhnaaPlOB
import Derived.Test.YtogkblncdpbhnaaWlkYC
import Derived.Test.YtogkblncdpbhnaaPlOx
import Derived.Test.YtogkblncdpbhnaaWlkY2
namespace Go.Proofs.Ytogkblncdpbhnaa
open Go.RowKit
set_option linter.unusedVariables false
namespace WY
open K Pl WA WL WB
theorem t2_one {f p o rest T : Nat} (h : t2 f p o rest = some T) (hr : rest ≤ 1) : o = T := by
  cases f with
  | zero =>
    have h' : (bif Nat.ble rest 1 then some o else none) = some T := h
    rw [ble_t hr] at h'; exact Option.some.inj h'
  | succ f =>
    have h' : (bif Nat.ble rest 1 then some o else bif Nat.beq (rest % p) 0 then t2 f (p + 1) (o / p * (p - 1)) (expG 12 p rest).1 else t2 f (p + 1) o rest) = some T := h
    rw [ble_t hr] at h'; exact Option.some.inj h'
theorem t2_more {f p o rest T : Nat} (h : t2 f p o rest = some T) (hr : 1 < rest) : ∃ g, f = g + 1 ∧ (rest % p = 0 → t2 g (p + 1) (o / p * (p - 1)) (expG 12 p rest).1 = some T) ∧ (rest % p ≠ 0 → t2 g (p + 1) o rest = some T) := by
  cases f with
  | zero =>
    have h' : (bif Nat.ble rest 1 then some o else none) = some T := h
    rw [ble_f (by omega)] at h'; cases h'
  | succ f =>
    have h' : (bif Nat.ble rest 1 then some o else bif Nat.beq (rest % p) 0 then t2 f (p + 1) (o / p * (p - 1)) (expG 12 p rest).1 else t2 f (p + 1) o rest) = some T := h
    rw [ble_f (by omega)] at h'
    refine ⟨f, rfl, fun h0 => ?_, fun h0 => ?_⟩
    · rw [h0] at h'; exact h'
    · rw [show Nat.beq (rest % p) 0 = false from by
        cases e : Nat.beq (rest % p) 0
        · rfl
        · exact absurd (Nat.eq_of_beq_eq_true e) h0] at h'; exact h'
theorem emod_no {n p : Nat} (h : n % p ≠ 0) : ((n : Int) % (p : Int) == 0) = false := by
  rw [beq_eq_false_iff_ne]
  intro e
  have e2 : ((n % p : Nat) : Int) = 0 := by rw [Int.natCast_emod]; exact e
  exact h (by omega)
set_option maxHeartbeats 2000000 in
theorem l02Totient_any (n0 : Nat) (w : World) (h1 : 1 ≤ n0) (h2 : n0 ≤ 1000) : Calls Try.prog 32 #[.int .i64 n0] w fun e w' => e = .returned (.int .i64 (totN n0 : Int)) ∧ w = w' := by
  obtain ⟨T, HT⟩ : ∃ T, Hid (totN n0 = T) := ⟨_, Lib.hid rfl⟩
  have Hst := Lib.hid (show t2 1000 2 n0 n0 = some T by rw [(t2_all n0 h1 h2).1, HT.out])
  rw [HT.out]
  clear HT
  go_enter Try.func32, Try.ntmps32
  go_wp2_with fail
  go_loop [3, 4, 5] (fun a b c => ∃ (o r p f : Nat), a = .int .i64 o ∧ b = .int .i64 r ∧ c = .int .i64 p ∧ o ≤ 1000 ∧ 1 ≤ r ∧ r ≤ 1000 ∧ 2 ≤ p ∧ f + p = 1002 ∧ Hid (t2 f p o r = some T)) (fun _ _ c => 1002 - (intOf c).toNat)
  case atStart => exact ⟨n0, n0, 2, 1000, rfl, rfl, rfl, h2, h1, h2, by omega, by omega, Hst⟩
  case round =>
    clear Hst
    obtain ⟨o, r, p, f, rfl, rfl, rfl, ho, hr, hr2, hp, hfp, Hst⟩ := hrel
    by_cases hr1 : 1 < r
    · obtain ⟨g, rfl, hy, hn⟩ := t2_more Hst.out hr1
      have Hy := Lib.hid hy
      have Hn := Lib.hid hn
      have hp0 : (p : Int) ≠ 0 := by omega
      have t1 : (1 : Int) < (r : Int) := by omega
      clear Hst hy hn
      by_cases hd : r % p = 0
      · have Hst := Lib.hid (Hy.out hd)
        have hm0 : (r : Int).tmod (p : Int) = 0 := by rw [← Int.ofNat_tmod, hd]; rfl
        have hq : (o : Int).tdiv (p : Int) = ((o / p : Nat) : Int) := (Int.ofNat_tdiv o p).symm
        have hle : o / p * (p - 1) ≤ o := Nat.le_trans (Nat.mul_le_mul_left _ (Nat.sub_le p 1)) (Nat.div_mul_le_self o p)
        have hmul : ((o / p : Nat) : Int) * ((p : Int) - 1) = ((o / p * (p - 1) : Nat) : Int) := by
          rw [Int.natCast_mul, Int.natCast_sub (by omega)]; rfl
        have hqo : o / p ≤ o := Nat.div_le_self o p
        obtain ⟨X, HX⟩ : ∃ X, Hid ((expG 12 p r).1 = X) := ⟨_, Lib.hid rfl⟩
        rw [HX.out] at Hst
        have hXp := expG_pos 12 p r hr hp
        have hXl := expG_le 12 p r
        rw [HX.out] at hXp hXl
        clear Hy Hn hd
        generalize o / p * (p - 1) = o' at *
        generalize o / p = q at *
        go_wp2_with fail
        go_loop [4] (fun a => ∃ (r' f' : Nat), a = .int .i64 r' ∧ 1 ≤ r' ∧ r' ≤ r ∧ f' ≤ 12 ∧ Hid (r' < 2 ^ f') ∧ Hid ((expG f' p r').1 = X)) (fun a => (intOf a).toNat)
        case atStart => exact ⟨r, 12, rfl, hr, Nat.le_refl _, by omega, Lib.hid (by show r < 4096; omega), HX⟩
        case round =>
          obtain ⟨r', f', rfl, hr1', hr2', hf', Hlt, HX'⟩ := hrel
          by_cases hd : r' % p = 0
          · obtain ⟨e, rfl⟩ : ∃ e, f' = e + 1 := by
              cases f' with
              | zero => have := Hlt.out; simp at this; omega
              | succ e => exact ⟨e, rfl⟩
            have hm0 : (r' : Int).tmod (p : Int) = 0 := by rw [← Int.ofNat_tmod, hd]; rfl
            have hq2 : (r' : Int).tdiv (p : Int) = ((r' / p : Nat) : Int) := (Int.ofNat_tdiv r' p).symm
            have hq3 : 1 ≤ r' / p := Nat.div_pos (Nat.le_of_dvd hr1' (Nat.dvd_of_mod_eq_zero hd)) (by omega)
            have hq4 : r' / p < r' := Nat.div_lt_self hr1' hp
            have Hlt2 := Lib.hid (half_lt hp Hlt.out)
            rw [expG_yes hd] at HX'
            have HX2 := Lib.hid HX'.out
            clear hd HX' Hlt
            go_wp2_with fail
            go_round
            case rel => exact ⟨r' / p, e, rfl, hq3, by omega, by omega, Hlt2, HX2⟩
            case measure => simp [intOf]; omega
          · have hm0 := emod_no hd
            rw [expG_no hd] at HX'
            obtain rfl : r' = X := HX'.out
            clear hd HX' Hlt HX
            go_wp2_with fail
            go_round
            case rel => exact ⟨o', r', p + 1, g, rfl, rfl, by go_num, by omega, hr1', by omega, by omega, by omega, Hst⟩
            case measure => simp [intOf]; omega
      · have Hst := Lib.hid (Hn.out hd)
        have hm0 := emod_no hd
        clear Hy Hn hd
        go_wp2_with fail
        refine wp_loop_rounds 1 ?_
        rw [rounds_succ]
        go_wp2_with fail
        go_round
        case rel => exact ⟨o, r, p + 1, g, rfl, rfl, by go_num, by omega, hr, by omega, by omega, by omega, Hst⟩
        case measure => simp [intOf]; omega
    · have hT := t2_one Hst.out (by omega)
      subst hT
      clear Hst
      go_wp2_with fail
      go_ret
      exact ⟨rfl, rfl⟩
theorem LiQ.no {w w' : World} {xs ys : List Int} (hr : qwF xs ys = ([], false)) (h : Below w.heap.size w w') : LiQ (qwF xs ys) w (.returned (.tuple #[.slice none 0 0, .bool false])) w' := by
  rw [hr]
  exact ⟨_, rfl, K.Ow.nil _ _ _, h⟩
theorem trim_allZ (l : List Int) : (((trimL l).length : Int) == 0) = allZ l := by
  cases h : allZ l with
  | true =>
    have e : trimL l = [] := (trimL_eq_nil l).2 fun j => by
      by_cases hj : j < l.length
      · unfold allZ at h
        rw [List.all_eq_true] at h
        have := h _ (gx_mem l j hj)
        simpa using this
      · exact gx_out l j (by omega)
    rw [e]; rfl
  | false =>
    rw [beq_eq_false_iff_ne]
    intro e
    have e2 : trimL l = [] := List.eq_nil_of_length_eq_zero (by omega)
    have := (trimL_eq_nil l).1 e2
    rw [allZ_yes fun j _ => this j] at h
    cases h
set_option maxRecDepth 8192 in
set_option maxHeartbeats 8000000 in
theorem divided_any (B : Nat) (v v2 : Value) (xs ys : List Int) (w : World) (h : Is w B v xs) (h2 : Is w B v2 ys) (hB : B ≤ w.heap.size) (hx : xs.length ≤ 2001) (hy : ys.length ≤ 2001) (hy1 : 1 ≤ ys.length) :
    Calls Try.prog 28 #[v, v2] w (LiQ (qwF xs ys) w) := by
  have Hp := Lib.hid h
  obtain ⟨A, n, c, rfl, hnc, hcm, hrd⟩ := h
  obtain ⟨A2, m, c2, rfl, hmc, hcm2, hrd2⟩ := h2
  have Hlen := Lib.hid hrd.len
  have Hlen2 := Lib.hid hrd2.len
  rw [hrd.len] at hx
  rw [hrd2.len] at hy hy1
  obtain ⟨ad, rfl, hab, hc2⟩ := hrd2.pos (by omega)
  have Hc := Lib.hid hc2
  unfold maxLen at hcm hcm2
  clear hrd hrd2 hc2
  by_cases hnm : n < m
  · have hnm2 : (n : Int) < (m : Int) := by omega
    have Hr := Lib.hid (show qwF xs ys = ([], false) from qwF_short (by rw [Hlen.out, Hlen2.out]; exact hnm))
    go_enter Try.func28, Try.ntmps28
    go_wp2_with fail
    go_ret2
    exact LiQ.no Hr.out (Below.refl _ _)
  · have hnm2 : ¬ (n : Int) < (m : Int) := by omega
    obtain ⟨N, hN⟩ : ∃ N, N = n - m + 1 := ⟨_, rfl⟩
    have HN := Lib.hid (show (n : Int) - (m : Int) + 1 = (N : Int) by omega)
    have Hr := Lib.hid (show qwF xs ys = ((qOut ys N xs (List.replicate N 0)).2, allZ (qOut ys N xs (List.replicate N 0)).1) by
      unfold qwF; rw [if_neg (by rw [Hlen.out, Hlen2.out]; exact hnm), Hlen.out, Hlen2.out, ← hN])
    have hN' : N ≤ 2001 := by omega
    have hN1 : 1 ≤ N := by omega
    have HNn := Lib.hid (show N + m = n + 1 by omega)
    have hn1 : 1 ≤ n := by omega
    obtain ⟨i0, hi, hz0, hz1, hz2⟩ := info_parts info64
    have Hi := Lib.hid hi; have Hz0 := Lib.hid hz0; have Hz1 := Lib.hid hz1; have Hz2 := Lib.hid hz2
    clear hN hnm hi hz0 hz1 hz2
    go_enter Try.func28, Try.ntmps28
    go_wp2_with fail
    refine (Clone_any B _ xs _ Hp.out hB (by rw [Hlen.out]; omega)).mono ?_
    rintro e w1 ⟨v1, rfl, own1, hb1⟩
    obtain ⟨g1, c1, rfl⟩ := Go.Joins.ownsRow_form own1.1 (by rw [Hlen.out]; omega)
    have hs1 := hb1.size
    have hg1 := own1.1.lt g1 rfl
    have hr1 := own1.1
    rw [Hlen.out] at hr1 ⊢
    go_wp2_with (at_make; refine wpList_make_full _ rfl _ _ 24 rfl w1.heap.size 2 i0 (.int .i64 0) 1 Try.underlying24 Hi.out Hz0.out Hz1.out _ _ _ _ N rfl rfl HN.out HN.out ?b ?c ?d ?_)
    case b => rw [Hz2.out]; omega
    case c => unfold maxLen; omega
    try (case d => simp)
    intro w2 hown hgrow
    have hb12 : Below w1.heap.size w1 w2 := (Below.refl _ _).grown hgrow (Nat.le_refl _) (by simp)
    have Q0 : Hid (Q2 w w2 w.heap.size g1 c1 n w1.heap.size N xs (List.replicate N 0)) := Lib.hid {
      rest := own_later hr1 hb12
      out := by
        rw [List.map_replicate]
        have e : (madeCells (Value.int IntKind.i64 0).cells (N * 1)).toList = List.replicate N (Value.int .i64 0) := by
          rw [Nat.mul_one]; exact toList_madeCells_one _ N
        rw [← e, Nat.mul_one]; exact own_base hown hs1
      ne := by have := hg1.2; omega
      be := hb1.trans (hb12.mono hs1) }
    generalize w1.heap.size = g2 at *
    clear own1 hb1 hr1 hown hgrow hb12 hg1
    go_wp2_with fail
    go_loopw [8] (fun i wr => ∃ (z : Int) (k : Nat) (rest out : List Int), i = .int .i64 z ∧ Hid (z + 1 = k) ∧ k ≤ N ∧ Hid (Q2 w wr w.heap.size g1 c1 n g2 N rest out) ∧ Hid (qOut ys k rest out = qOut ys N xs (List.replicate N 0))) (fun i _ => (intOf i + 1).toNat)
    case atStart => exact ⟨_, N, xs, _, rfl, Lib.hid (by omega), Nat.le_refl _, Q0, Lib.hid rfl⟩
    case round =>
      clear Q0
      obtain ⟨z, k, rest, out, rfl, hz, hk, hQ, hd⟩ := hrel
      by_cases hk0 : 0 < k
      · obtain ⟨k', rfl⟩ : ∃ k', k = k' + 1 := ⟨k - 1, by omega⟩
        obtain rfl : z = (k' : Int) := by have := hz.out; omega
        obtain ⟨t, Ht⟩ : ∃ t, Hid (gx rest (k' + (ys.length - 1)) = t) := ⟨_, Lib.hid rfl⟩
        have hkn : k' + m - 1 < n := by have := HNn.out; omega
        have hcr : wr.cell? ⟨g1, k' + m - 1, none⟩ = some (.int .i64 t) := by
          rw [← Ht.out, Hlen2.out, show k' + (m - 1) = k' + m - 1 by omega]; exact (hQ.out.cellRest hkn).1
        have hikj : 0 ≤ (k' : Int) + (m : Int) - 1 ∧ (k' : Int) + (m : Int) - 1 < (n : Int) := by omega
        have hko : 0 ≤ (k' : Int) ∧ (k' : Int) < (N : Int) := by omega
        obtain ⟨hoc, hof⟩ := hQ.out.cellOut (j := k') (by omega)
        have Q1 := Lib.hid (hQ.out.setOut k' t)
        have Hd := Lib.hid (show qOut ys k' (qIn t k' ys m 0 rest) (out.set k' t) = qOut ys N xs (List.replicate N 0) by
          rw [← hd.out, ← Ht.out, ← Hlen2.out]; rfl)
        obtain ⟨out', Hout'⟩ : ∃ o, Hid (out.set k' t = o) := ⟨_, Lib.hid rfl⟩
        rw [Hout'.out] at Q1 Hd
        clear hd hQ
        go_wp2_with fail
        go_loopw [47] (fun i wr => ∃ (q s : Nat) (rest : List Int), q ≤ m ∧ i = .int .i64 q ∧ Hid (q + s = m) ∧ Hid (Q2 w wr w.heap.size g1 c1 n g2 N rest out') ∧ Hid (qOut ys k' (qIn t k' ys s q rest) out' = qOut ys N xs (List.replicate N 0))) (fun i _ => m - (intOf i).toNat)
        case atStart => exact ⟨0, m, rest, Nat.zero_le _, rfl, Lib.hid (by omega), Q1, Hd⟩
        case round =>
          clear Q1 Hd hcr hoc hof
          obtain ⟨q, s, rest, hqm, rfl, hqs, hQ, hd⟩ := hrel
          by_cases hlt : q < m
          · obtain ⟨s', rfl⟩ : ∃ s', s = s' + 1 := ⟨s - 1, by have := hqs.out; omega⟩
            have hcp : wr.cell? (ad.add q) = some (.int .i64 (gx ys q)) := ((hQ.out.be.mono hB).cell (by rw [block_of_add]; omega)).trans (Hc.out q hlt)
            have hkp : k' + q < n := by have := HNn.out; omega
            obtain ⟨hcr2, hfr2⟩ := hQ.out.cellRest hkp
            have hikp : 0 ≤ (k' : Int) + (q : Int) ∧ (k' : Int) + (q : Int) < (n : Int) := by omega
            have hiq : 0 ≤ (q : Int) ∧ (q : Int) < (m : Int) := by omega
            have hwi : IntKind.i64.wrap ((k' : Int) + (q : Int)) = (k' : Int) + (q : Int) := IntWalk.i64_in _ (by omega)
            obtain ⟨u, Hu⟩ : ∃ u, Hid (Pl.wr (gx rest (k' + q) - Pl.wr (t * gx ys q)) = u) := ⟨_, Lib.hid rfl⟩
            have Hw := Lib.hid (show wrap64 (gx rest (k' + q) - wrap64 (t * gx ys q)) = u by rw [← Hu.out]; unfold Pl.wr; rw [IntKind.wrap_i64, IntKind.wrap_i64]; generalize t * gx ys q = z1; generalize gx rest (k' + q) = z2; unfold wrap64; omega)
            have Hd2 := Lib.hid (show qOut ys k' (qIn t k' ys s' (q + 1) (rest.set (k' + q) u)) out' = qOut ys N xs (List.replicate N 0) by rw [← hd.out, ← Hu.out]; rfl)
            have Hq2 := Lib.hid (hQ.out.setRest (k' + q) u)
            clear hd hQ
            go_wp2_with fail
            go_roundw
            case rel => exact ⟨q + 1, s', _, by omega, by go_num, Lib.hid (by have := hqs.out; omega), Lib.hid (by rw [Hw.out]; exact Hq2.out), Hd2⟩
            case measure => first | (simp [intOf]; done) | (simp [intOf]; omega)
          · obtain rfl : s = 0 := by have := hqs.out; omega
            have Hd2 := Lib.hid (show qOut ys k' rest out' = qOut ys N xs (List.replicate N 0) by rw [← hd.out]; rfl)
            clear hd
            go_wp2_with fail
            go_roundw
            case rel => exact ⟨_, k', rest, _, rfl, Lib.hid (by omega), by omega, hQ, Hd2⟩
            case measure => first | (simp [intOf]; done) | (simp [intOf]; omega)
      · obtain rfl : k = 0 := by omega
        obtain rfl : z = -1 := by have := hz.out; omega
        have Hd2 := Lib.hid (show qOut ys N xs (List.replicate N 0) = (rest, out) by rw [← hd.out]; rfl)
        have Hr2 := Lib.hid (show qwF xs ys = (out, allZ rest) by rw [Hr.out, Hd2.out])
        clear hd Hr Hd2
        go_wp2_with fail
        have hrl := hQ.out.len1
        have Ow1 := Lib.hid (show Ow wr w.heap.size wr.heap.size (.slice (some ⟨g1, 0, none⟩) n c1) rest from Ow.of_own (n := n) hQ.out.rest)
        refine (trimmed_any _ _ _ rest _ Ow1.out).mono ?_
        rintro e w3 ⟨v3, rfl, own3, rfl⟩
        obtain ⟨A3, c3, rfl, hnc3, hcm3⟩ := own_shape own3.1
        have Ho := Lib.hid (show Ow wr w.heap.size wr.heap.size (.slice (some ⟨g2, 0, none⟩) N N) out from Ow.of_own hQ.out.out)
        have Hbe := Lib.hid hQ.out.be
        have hbz := trim_allZ rest
        obtain ⟨bz, hbz'⟩ : ∃ b, allZ rest = b := ⟨_, rfl⟩
        rw [hbz'] at hbz
        have Hbz := Lib.hid hbz'
        clear hQ own3 Ow1
        go_wp2_with fail
        go_ret2
        exact ⟨.slice (some ⟨g2, 0, none⟩) N N, by rw [Hr2.out, Hbz.out]; rfl, by rw [Hr2.out]; exact Ho.out, Hbe.out⟩
end WY
end Go.Proofs.Ytogkblncdpbhnaa
namespace Go.Proofs.Ytogkblncdpbhnaa
open Go.RowKit Go.ChangeShapes Go.WideShapes Go.Joins Go.Deep
set_option linter.unusedVariables false
namespace WY
open K Pl WA WL WB
/-- A value that reads as a list, in another block than b. -/
def Rx (w : World) (b : Option Nat) (v : Value) (xs : List Int) : Prop := Is w w.heap.size v xs ∧ ∀ A n c, v = .slice A n c → ∀ ad, A = some ad → 0 < n → b ≠ some ad.block
theorem Rx.later {w w' : World} {b : Option Nat} {v : Value} {xs : List Int} (h : Rx w b v xs) (hb : Below w.heap.size w w') : Rx w' b v xs := ⟨(h.1.below hb).more hb.size, h.2⟩
theorem cell_block {w w' : World} {a : Addr} (h : w'.heap[a.block]? = w.heap[a.block]?) : w'.cell? a = w.cell? a := by unfold World.cell?; rw [h]
theorem Rx.grown {w w' : World} {b b' : Option Nat} {v : Value} {xs : List Int} (h : Rx w b v xs) (hg : w.grownBy w' b) (hat : b' = b ∨ b' = some w.heap.size) : Rx w' b' v xs := by
  obtain ⟨⟨A, n, c, rfl, h1, h2, h3⟩, hne⟩ := h
  refine ⟨⟨A, n, c, rfl, h1, h2, ⟨h3.len, fun hn => ?_⟩⟩, ?_⟩
  · obtain ⟨ad, rfl, hb, hc⟩ := h3.pos hn
    refine ⟨ad, rfl, Nat.lt_of_lt_of_le hb hg.size, fun j hj => ?_⟩
    rw [← hc j hj]
    refine cell_block ?_
    rw [block_of_add]
    exact hg.block ad.block hb (fun e => hne _ _ _ rfl ad rfl hn e.symm)
  · intro A' n' c' e ad e2 hn
    cases e
    obtain ⟨ad', e3, hb, hc⟩ := h3.pos hn
    rw [e2] at e3
    obtain rfl := Option.some.inj e3
    rcases hat with rfl | rfl
    · exact hne _ _ _ rfl ad e2 hn
    · intro e4
      have := Option.some.inj e4
      omega
theorem Rx.of_ow {w : World} {b : Option Nat} {v : Value} {xs : List Int} {lo hi : Nat} (h : Ow w lo hi v xs) (hb : ∀ k, b = some k → k < lo) : Rx w b v xs := by
  refine ⟨h.is, ?_⟩
  intro A n c e ad e2 hn e3
  subst e2
  have hlo := hb _ e3
  rcases h.1.2 with ⟨e4, _⟩ | ⟨g, cap, cur, e4, hg, _⟩
  · rw [e] at e4; cases e4
  · rw [e] at e4
    cases e4
    simp at hlo
    omega
theorem Rx.shape {w : World} {b : Option Nat} {v : Value} {xs : List Int} (h : Rx w b v xs) : ∃ A c, v = .slice A xs.length c ∧ xs.length ≤ c ∧ c ≤ 9223372036854775807 := by
  obtain ⟨⟨A, n, c, rfl, h1, h2, h3⟩, _⟩ := h
  obtain rfl := h3.len
  unfold maxLen at h2
  exact ⟨A, c, rfl, h1, h2⟩
def LiR2 (r : List (List Int) × Int) (w : World) (e : Ending) (w' : World) : Prop := ∃ v, e = .returned (.tuple #[v, .int .i64 r.2]) ∧ OwR w' w.heap.size w'.heap.size v r.1 ∧ Below w.heap.size w w'
theorem LiR2.nil {w w' : World} {c : Int} {r : List (List Int) × Int} (hr : r = ([], c)) (h : Below w.heap.size w w') : LiR2 r w (.returned (.tuple #[.slice none 0 0, .int .i64 c])) w' := by
  subst hr
  exact ⟨_, rfl, OwR.nil _ _ _, h⟩
noncomputable def cfaE (r : List Int × List (Nat × Nat)) : List (List Int) × Int := if r.1.length = 1 ∧ (gx r.1 0 = 1 ∨ gx r.1 0 = -1) then (rowsF r.2, 0) else ([], 5)
noncomputable def cfaF (p : List Int) : List (List Int) × Int := if isPoly p = false then ([], 1) else if 51 < p.length then ([], 2) else cfaE (cfR 1000 1 p [])
theorem cfaF_pairs (p : List Int) : ∀ s ∈ (cfaF p).1, s.length ≤ 2 := by
  unfold cfaF cfaE rowsF
  intro s hs
  split at hs
  · simp at hs
  · split at hs
    · simp at hs
    · split at hs
      · simp only [List.mem_map] at hs
        obtain ⟨x, _, rfl⟩ := hs
        simp
      · simp at hs
theorem cfR_nil (f n : Nat) : cfR f n [] [] = ([], []) := cfR_stop (by simp)
theorem cfaF_len (p : List Int) : (cfaF p).1.length ≤ 1000000000 := by
  unfold cfaF
  split
  · simp
  · split
    · simp
    · rename_i h1 h2
      unfold cfaE
      split
      · show (rowsF _).length ≤ _
        rw [rowsF_len]
        by_cases hp : 1 ≤ p.length
        · have := (CfI.many 1000 1 p [] (CfI.start hp) (Nat.le_refl _) (by omega)).len
          omega
        · obtain rfl : p = [] := List.eq_nil_of_length_eq_zero (by omega)
          rw [cfR_nil]; simp
      · simp
def lenOf : Value → Nat
  | .slice _ n _ => n
  | _ => 0
theorem cfaF_go {p : List Int} (h : isPoly p = true) (h2 : p.length ≤ 51) (h1 : 1 ≤ p.length) : cfaF p = cfaE (cfR 2000 1 p []) := by
  unfold cfaF; rw [if_neg (by rw [h]; decide), if_neg (by omega), cfR_two h1 h2]
set_option maxRecDepth 8192 in
set_option maxHeartbeats 16000000 in
theorem CyclotomicFactors_any (B : Nat) (v : Value) (xs : List Int) (w : World) (h : Is w B v xs) (hB : B ≤ w.heap.size) :
    Calls Try.prog 6 #[v] w (LiR2 (cfaF xs) w) := by
  have Hp := Lib.hid h
  obtain ⟨A0, n00, c0, rfl, hnc, hcm, hrd⟩ := h
  have Hlen := Lib.hid hrd.len
  unfold maxLen at hcm
  clear hrd
  cases hpo : isPoly xs
  · have Hr := Lib.hid (show cfaF xs = ([], 1) by unfold cfaF; rw [if_pos hpo])
    go_enter Try.func6, Try.ntmps6
    go_wp2_with fail
    refine (IsPolynomial_any B _ xs _ Hp.out hB).mono ?_
    rintro e w' ⟨rfl, rfl⟩
    rw [hpo]
    go_wp2_with fail
    go_ret2
    exact LiR2.nil Hr.out (Below.refl _ _)
  · by_cases h51 : 51 < n00
    · have Hr := Lib.hid (show cfaF xs = ([], 2) by unfold cfaF; rw [if_neg (by rw [hpo]; decide), if_pos (by rw [Hlen.out]; exact h51)])
      have t1 : (51 : Int) < (n00 : Int) := by omega
      go_enter Try.func6, Try.ntmps6
      go_wp2_with fail
      refine (IsPolynomial_any B _ xs _ Hp.out hB).mono ?_
      rintro e w' ⟨rfl, rfl⟩
      rw [hpo]
      go_wp2_with fail
      go_ret2
      exact LiR2.nil Hr.out (Below.refl _ _)
    · have t1 : ¬ (51 : Int) < (n00 : Int) := by omega
      have hown0 := OwU.lit w (lo := w.heap.size) (Nat.le_refl _)
      have hbe0 : Below w.heap.size w (w.alloc (.cells #[] 24)) := (Below.refl _ _).alloc (Nat.le_refl _) _
      by_cases h0 : n00 = 0
      · subst h0
        have Hr := Lib.hid (show cfaF xs = ([], 5) by
          obtain rfl : xs = [] := List.eq_nil_of_length_eq_zero Hlen.out
          unfold cfaF; rw [if_neg (by rw [hpo]; decide), if_neg (by simp), cfR_nil]; rfl)
        go_enter Try.func6, Try.ntmps6
        go_wp2_with fail
        refine (IsPolynomial_any B _ xs _ Hp.out hB).mono ?_
        rintro e w' ⟨rfl, rfl⟩
        rw [hpo]
        go_wp2_with fail
        refine (Clone_any B _ xs _ (Hp.out.below (hbe0.mono hB)) (Nat.le_trans hB hbe0.size) (by rw [Hlen.out]; omega)).mono ?_
        rintro e w1 ⟨v1, rfl, own1, hb1⟩
        obtain ⟨A1, c1, rfl, hnc1, hcm1⟩ := own_shape own1.1
        have Hb := Lib.hid (hbe0.trans (hb1.mono hbe0.size))
        rw [Hlen.out] at hnc1 ⊢
        clear own1 hb1 hown0 hbe0
        go_wp2_with fail
        refine wp_loop_rounds 1 ?_
        rw [rounds_succ]
        go_wp2_with fail
        go_ret2
        exact LiR2.nil Hr.out Hb.out
      · obtain ⟨TOT, HT⟩ : ∃ T, Hid (cfR 2000 1 xs [] = T) := ⟨_, Lib.hid rfl⟩
        have Hr := Lib.hid (show cfaF xs = cfaE TOT by rw [cfaF_go hpo (by rw [Hlen.out]; omega) (by rw [Hlen.out]; omega), HT.out])
        have HI := Lib.hid (CfI.start (p := xs) (by rw [Hlen.out]; omega))
        have Hpo := Lib.hid hpo
        go_enter Try.func6, Try.ntmps6
        go_wp2_with fail
        refine (IsPolynomial_any B _ xs _ Hp.out hB).mono ?_
        rintro e w' ⟨rfl, rfl⟩
        rw [hpo]
        clear hpo
        go_wp2_with fail
        refine (Clone_any B _ xs _ (Hp.out.below (hbe0.mono hB)) (Nat.le_trans hB hbe0.size) (by rw [Hlen.out]; omega)).mono ?_
        rintro e w1 ⟨v1, rfl, own1, hb1⟩
        have HO := Lib.hid (hown0.later hb1)
        have Hs1 := Lib.hid (show w.heap.size + 1 ≤ w1.heap.size by have := hb1.size; simpa using this)
        have HR := Lib.hid (Rx.of_ow (b := some w.heap.size) own1 (fun k hk => by cases hk; simp))
        obtain ⟨A1, c1, rfl, hnc1, hcm1⟩ := own_shape own1.1
        have Hb := Lib.hid (hbe0.trans (hb1.mono hbe0.size))
        rw [Hlen.out] at hnc1 HR ⊢
        clear own1 hb1 hown0 hbe0
        have hO2 := Lib.hid (show OwU w1 w.heap.size w1.heap.size (.slice (some ⟨w.heap.size, 0, none⟩) 0 0) [] (rowsF []) from HO.out.wide (Nat.le_refl _) Hs1.out)
        clear HO Hs1
        go_wp2_with fail
        go_loopw [4, 5, 6] (fun a b c wr => ∃ (n m L c6 cr : Nat) (A6 Ar : Option Addr) (us : List Value) (rest : List Int) (rows : List (Nat × Nat)),
          a = .slice A6 m c6 ∧ b = .slice Ar L cr ∧ c = .int .i64 n ∧ 1 ≤ n ∧ n ≤ 2001 ∧ 1 ≤ L ∧ L ≤ 51 ∧ m ≤ 51 ∧ L ≤ cr ∧ cr ≤ 9223372036854775807 ∧ Hid (rest.length = L) ∧ Hid (∃ f, f + n = 2001 ∧ cfR f n rest rows = TOT) ∧ Hid (CfI xs rest rows) ∧ Hid ((rowsF rows).length = m) ∧
          Hid (OwU wr w.heap.size wr.heap.size (.slice A6 m c6) us (rowsF rows)) ∧ Hid (Rx wr (Value.slice A6 m c6).ownBlock (.slice Ar L cr) rest) ∧ Below w.heap.size w wr) (fun _ _ c _ => 2001 - (intOf c).toNat)
        case atStart => exact ⟨1, 0, n00, 0, c1, _, A1, [], xs, [], rfl, rfl, rfl, by omega, by omega, by omega, by omega, by omega, hnc1, hcm1, Hlen, Lib.hid ⟨2000, rfl, HT.out⟩, HI, Lib.hid rfl, hO2, HR, Hb.out⟩
        case round =>
          clear hO2 HR Hb HI HT
          obtain ⟨n, m, L, c6, cr, A6, Ar, us, rest, rows, rfl, rfl, rfl, hn1, hn2, hL1, hL2, hm51, hLc, hcr, HL, Hf, HI, hm, HO, HR, hbe⟩ := hrel
          by_cases hn20 : n ≤ 2000
          · by_cases hL : 1 < L
            · have HL1 := Lib.hid (show ¬ rest.length ≤ 1 by rw [HL.out]; omega)
              obtain ⟨f, hfn, hf⟩ := Hf.out
              obtain ⟨f', rfl⟩ : ∃ f', f = f' + 1 := ⟨f - 1, by omega⟩
              have HfN := Lib.hid (show f' + (n + 1) = 2001 by omega)
              have Hst := Lib.hid (show cfR f' (n + 1) (cfD n rest).1 (cfA n (cfD n rest).2 rows) = TOT by rw [← hf, cfR_go HL1.out])
              have HI2 := Lib.hid (HI.out.step (totN_pos n hn1 hn20))
              obtain ⟨t, Ht⟩ : ∃ t, Hid (totN n = t) := ⟨_, Lib.hid rfl⟩
              have htb : 1 ≤ t ∧ t ≤ 2000 := by
                have h5 := totN_pos n hn1 hn20
                have h6 := totN_le n
                rw [Ht.out] at h5 h6
                omega
              clear hf hfn Hf
              have tl1 : (1 : Int) < (L : Int) := by omega
              have tn : (n : Int) ≤ 2000 := by omega
              go_wp2_with fail
              refine (totient_any n _ hn1 hn20).mono ?_
              rintro e w2 ⟨rfl, hb2⟩
              rw [Ht.out]
              have HO2 := Lib.hid ((HO.out.later hb2).wide (Nat.le_refl _) hb2.size)
              have HR2 := Lib.hid (HR.out.later hb2)
              have hbe2 := hbe.trans (hb2.mono hbe.size)
              clear HO HR hb2 hbe
              by_cases htl : L - 1 < t
              · have tt : (L : Int) - 1 < (t : Int) := by omega
                have HD := Lib.hid (show cfD n rest = (rest, 0) by unfold cfD; rw [if_neg (by rw [Ht.out, HL.out]; omega)])
                rw [HD.out] at Hst HI2
                have Hf := Lib.hid (show ∃ f, f + (n + 1) = 2001 ∧ cfR f (n + 1) rest rows = TOT from ⟨f', HfN.out, Hst.out⟩)
                have HI3 := Lib.hid (show CfI xs rest rows from HI2.out)
                clear Hst HI2 HI HD
                go_wp2_with fail
                go_roundw
                case rel => exact ⟨n + 1, m, L, c6, cr, A6, Ar, us, rest, rows, rfl, rfl, by go_num, by omega, by omega, hL1, hL2, hm51, hLc, hcr, HL, Hf, HI3, hm, HO2, HR2, hbe2⟩
                case measure => first | (simp [intOf]; done) | (simp [intOf]; omega)
              · have tt : ¬ (L : Int) - 1 < (t : Int) := by omega
                obtain ⟨R, HR0⟩ : ∃ R, Hid ((cfD n rest).1 = R) := ⟨_, Lib.hid rfl⟩
                obtain ⟨E, HE0⟩ : ∃ E, Hid ((cfD n rest).2 = E) := ⟨_, Lib.hid rfl⟩
                rw [HR0.out, HE0.out] at Hst HI2
                have HD := Lib.hid (show cfD n rest = dvR 60 (phi n) rest by unfold cfD; rw [if_pos (by rw [Ht.out, HL.out]; omega)])
                rw [HD.out] at HR0 HE0
                have HE1 := Lib.hid (show 0 + (dvR 60 (phi n) rest).2 = E by rw [Nat.zero_add]; exact HE0.out)
                have Hql := Lib.hid (show (phi n).length = t + 1 by rw [phi_len, Ht.out])
                have Hlow := Lib.hid (show ∀ k, (Value.slice A6 m c6).ownBlock = some k → k < w2.heap.size from fun k hk => (HO2.out.row.lt k hk).2)
                clear HD HE0 HI
                go_wp2_with fail
                go_loopw [5, 7] (fun b e wi => ∃ (L' cr' e' : Nat) (Ar' : Option Addr) (rest' : List Int), b = .slice Ar' L' cr' ∧ e = .int .i64 e' ∧ 1 ≤ L' ∧ L' ≤ cr' ∧ cr' ≤ 9223372036854775807 ∧ e' + L' ≤ 60 ∧ Hid (rest'.length = L') ∧
                  Hid (∃ f, L' ≤ f ∧ (dvR f (phi n) rest').1 = R ∧ e' + (dvR f (phi n) rest').2 = E) ∧ Hid (Rx wi (Value.slice A6 m c6).ownBlock (.slice Ar' L' cr') rest') ∧ Below w2.heap.size w2 wi) (fun b _ _ => lenOf b)
                case atStart => exact ⟨L, cr, 0, Ar, rest, rfl, rfl, hL1, hLc, hcr, by omega, HL, Lib.hid ⟨60, by omega, HR0.out, HE1.out⟩, HR2, Below.refl _ _⟩
                case round =>
                  clear HR2 HR0 HE1 HL1 HL
                  obtain ⟨L', cr', e', Ar', rest', rfl, rfl, hL1', hLc', hcr', heL, HL', Hf', HR', hbi⟩ := hrel
                  go_wp2_with fail
                  refine (cyclotomic_any n _ hn1 hn20).mono ?_
                  rintro e w3 ⟨vq, rfl, ownq, hb3⟩
                  have HR3 := Lib.hid (HR'.out.later hb3)
                  have hbi3 := hbi.trans (hb3.mono hbi.size)
                  have Hq := Lib.hid ownq.is
                  clear HR' ownq hb3 hbi
                  go_wp2_with fail
                  refine (divided_any w3.heap.size _ _ rest' (phi n) _ HR3.out.1 Hq.out (Nat.le_refl _) (by rw [HL'.out]; omega) (by rw [Hql.out]; omega) (by rw [Hql.out]; omega)).mono ?_
                  rintro e w4 ⟨v4, rfl, own4, hb4⟩
                  have Hown4 := Lib.hid own4
                  have HR4 := Lib.hid (HR3.out.later hb4)
                  have hbi4 := hbi3.trans (hb4.mono hbi3.size)
                  have Hs3 := Lib.hid hbi3.size
                  clear HR3 Hq own4 hb4 hbi3
                  cases hbq : (qwF rest' (phi n)).2
                  · have Hend := Lib.hid (show rest' = R ∧ e' = E by
                      obtain ⟨f, _, h5, h6⟩ := Hf'.out
                      rw [dvR_no hbq] at h5 h6
                      exact ⟨h5, h6⟩)
                    obtain ⟨rfl, rfl⟩ := Hend.out
                    clear Hend Hf' Hown4 hbq
                    have HO4 := Lib.hid ((HO2.out.later hbi4).wide (Nat.le_refl _) hbi4.size)
                    have hbe4 := hbe2.trans (hbi4.mono hbe2.size)
                    clear HO2 hbi4 hbe2 Hs3
                    have hLb : L' ≤ 51 := by
                      have h5 := HI2.out.len
                      rw [HL'.out, Hlen.out] at h5
                      omega
                    by_cases he0 : e' = 0
                    · have te : ¬ (0 : Int) < (e' : Int) := by omega
                      have Hcf := Lib.hid (show cfA n e' rows = rows by unfold cfA; rw [if_pos he0])
                      rw [Hcf.out] at Hst HI2
                      have Hf := Lib.hid (show ∃ f, f + (n + 1) = 2001 ∧ cfR f (n + 1) rest' rows = TOT from ⟨f', HfN.out, Hst.out⟩)
                      clear Hcf Hst
                      go_wp2_with fail
                      go_roundw
                      case rel => exact ⟨n + 1, m, L', c6, cr', A6, Ar', us, rest', rows, rfl, rfl, by go_num, by omega, by omega, hL1', hLb, hm51, hLc', hcr', HL', Hf, HI2, hm, HO4, HR4, hbe4⟩
                      case measure => first | (simp [intOf]; done) | (simp [intOf]; omega)
                    · have te : (0 : Int) < (e' : Int) := by omega
                      have Hcf := Lib.hid (show cfA n e' rows = rows ++ [(n, e')] by unfold cfA; rw [if_neg he0])
                      rw [Hcf.out] at Hst HI2
                      have Hf := Lib.hid (show ∃ f, f + (n + 1) = 2001 ∧ cfR f (n + 1) rest' (rows ++ [(n, e')]) = TOT from ⟨f', HfN.out, Hst.out⟩)
                      have hm50 : m + 1 ≤ 51 := by
                        have h5 := HI2.out.len
                        have h6 := hm.out
                        rw [rowsF_len] at h6
                        rw [List.length_append, Hlen.out] at h5
                        simp at h5; omega
                      clear Hcf Hst
                      have hrow : w4.ownsRow w.heap.size 24 1 (.slice A6 m c6) m us := by have h := HO4.out.row; rw [hm.out] at h; exact h
                      have hbs := hbe4.size
                      go_wp2_with (at_builtin; refine wp_append_row rfl _ _ rfl w.heap.size _ m us rfl ((hrow.alloc _).alloc _) (w4.heap.size + 1) (some ⟨w4.heap.size, 0, none⟩) 2 2 1 rfl (by simp) (by omega) (by have := hbe4.size; simp; omega) ?_)
                      intro v' w5 hown5 hgrow hat
                      have hal2 := ((Below.refl w4.heap.size w4).alloc (Nat.le_refl _) (.cells #[.int .i64 (n : Int), .int .i64 (e' : Int)] 2))
                      have how5 := Lib.hid (OwU.snoc (ys := [(n : Int), (e' : Int)]) HO4.out (Nat.le_refl _) hbs (((Below.refl _ _).alloc (Nat.le_refl _) _).alloc (by simp) _) (WA.ow_lit2 w4 _ _ _) (by rw [hm.out]; exact hown5) hgrow (by simp only [World.size_alloc]; exact hat))
                      have hbe5 : Below w.heap.size w w5 := (hbe4.trans ((((Below.refl _ _).alloc (Nat.le_refl _) _).alloc (by simp) _).mono hbs)).grown hgrow (by have := hbe4.size; simp; omega) (fun k' hk' => (hrow.lt k' hk').1)
                      have HR5 := Lib.hid ((HR4.out.later (((Below.refl _ _).alloc (Nat.le_refl _) _).alloc (by simp) _)).grown hgrow (b' := v'.ownBlock) (by simp only [World.size_alloc]; exact hat))
                      have HLr := Lib.hid (show (rowsF (rows ++ [(n, e')])).length = m + 1 by rw [rowsF_len, List.length_append, ← hm.out, rowsF_len]; rfl)
                      rw [← show rowsF (rows ++ [(n, e')]) = rowsF rows ++ [[(n : Int), (e' : Int)]] from rowsF_snoc rows (n, e')] at how5
                      obtain ⟨A7, c7, rfl, hnc7, hcm7⟩ := own_shape how5.out.row
                      rw [HLr.out] at how5 hnc7 HR5 ⊢
                      clear hown5 hgrow hat hrow HO4 HR4 hbe4 hm hal2
                      go_wp2_with fail
                      go_roundw
                      case rel => exact ⟨n + 1, m + 1, L', c7, cr', A7, Ar', _, rest', rows ++ [(n, e')], rfl, rfl, by go_num, by omega, by omega, hL1', hLb, hm50, hLc', hcr', HL', Hf, HI2, HLr, how5, HR5, hbe5⟩
                      case measure => first | (simp [intOf]; done) | (simp [intOf]; omega)
                  · have hql := qwF_len hbq
                    rw [HL'.out, Hql.out] at hql
                    obtain ⟨A4, c4, rfl, hnc4, hcm4⟩ := own_shape Hown4.out.1
                    have HR5 := Lib.hid (Rx.of_ow (b := (Value.slice A6 m c6).ownBlock) Hown4.out (fun k hk => Nat.lt_of_lt_of_le (Hlow.out k hk) Hs3.out))
                    have Hf2 := Lib.hid (show ∃ f, (qwF rest' (phi n)).1.length ≤ f ∧ (dvR f (phi n) (qwF rest' (phi n)).1).1 = R ∧ (e' + 1) + (dvR f (phi n) (qwF rest' (phi n)).1).2 = E by
                      obtain ⟨f, h4, h5, h6⟩ := Hf'.out
                      obtain ⟨g, rfl⟩ : ∃ g, f = g + 1 := ⟨f - 1, by omega⟩
                      rw [dvR_yes hbq] at h5 h6
                      exact ⟨g, by rw [hql.2]; omega, h5, by simp only at h6; omega⟩)
                    have Hrl := Lib.hid hql.2
                    obtain ⟨hq1, hq2⟩ := hql
                    clear Hown4 HR4 Hf' hbq
                    generalize (qwF rest' (phi n)).1 = rest2 at *
                    rw [hq2] at hnc4 HR5 ⊢
                    rw [hq2] at Hf2
                    have hL2 : 1 ≤ L' - (t + 1) + 1 ∧ L' - (t + 1) + 1 + 1 ≤ L' := by omega
                    generalize L' - (t + 1) + 1 = L2 at *
                    go_wp2_with fail
                    go_roundw
                    case rel => exact ⟨L2, c4, e' + 1, A4, rest2, rfl, by go_num, by omega, hnc4, hcm4, by omega, Hrl, Hf2, HR5, hbi4⟩
                    case measure => simp [lenOf]; omega
            · have HTe := Lib.hid (show (rest, rows) = TOT by
                obtain ⟨f, _, hf⟩ := Hf.out
                rw [← hf, cfR_stop (by rw [HL.out]; omega)])
              have tl1 : ¬ (1 : Int) < (L : Int) := by omega
              have tn : (n : Int) ≤ 2000 := by omega
              clear Hf
              by_cases hL1' : L = 1
              · by_cases hg : gx rest 0 = 1 ∨ gx rest 0 = -1
                · have tL : ((L : Int) != 1) = false := by simp; omega
                  obtain ⟨g0, hg0⟩ : ∃ g, gx rest 0 = g := ⟨_, rfl⟩
                  have hgb : -1000000000000 ≤ g0 ∧ g0 ≤ 1000000000000 := by
                    have h5 := HI.out.last
                    rw [HL.out, show L - 1 = 0 by omega, hg0] at h5
                    rw [h5]; exact isPoly_gx Hpo.out _
                  have hcell : ∃ ad : Addr, Ar = some ad ∧ wr.cell? ad = some (.int .i64 g0) := by
                    obtain ⟨A', n', c', e, _, _, h7⟩ := HR.out.1
                    cases e
                    obtain ⟨ad, e2, _, h8⟩ := h7.pos (by omega)
                    have h9 := h8 0 (by omega)
                    rw [hg0] at h9
                    exact ⟨ad, e2, by simpa [Addr.add] using h9⟩
                  obtain ⟨ad, rfl, hcell⟩ := hcell
                  have tA : (absI g0 != 1) = false := by unfold absI; rcases hg with e | e <;> rw [hg0] at e <;> subst e <;> rfl
                  have Hr2 := Lib.hid (show cfaF xs = (rowsF rows, 0) by rw [Hr.out, ← HTe.out]; unfold cfaE; rw [if_pos ⟨by show rest.length = 1; rw [HL.out]; omega, hg⟩])
                  clear HTe Hr HR HI hg0
                  go_wp2_with (go_at_call 30; refine (abs_any _ _ (by omega) (by omega)).mono ?_; rintro e w' ⟨rfl, rfl⟩)
                  go_ret2
                  exact ⟨_, by rw [Hr2.out]; rfl, by rw [Hr2.out]; exact ⟨us, HO.out⟩, hbe⟩
                · have tL : ((L : Int) != 1) = false := by simp; omega
                  obtain ⟨g0, hg0⟩ : ∃ g, gx rest 0 = g := ⟨_, rfl⟩
                  have hgb : -1000000000000 ≤ g0 ∧ g0 ≤ 1000000000000 := by
                    have h5 := HI.out.last
                    rw [HL.out, show L - 1 = 0 by omega, hg0] at h5
                    rw [h5]; exact isPoly_gx Hpo.out _
                  have hcell : ∃ ad : Addr, Ar = some ad ∧ wr.cell? ad = some (.int .i64 g0) := by
                    obtain ⟨A', n', c', e, _, _, h7⟩ := HR.out.1
                    cases e
                    obtain ⟨ad, e2, _, h8⟩ := h7.pos (by omega)
                    have h9 := h8 0 (by omega)
                    rw [hg0] at h9
                    exact ⟨ad, e2, by simpa [Addr.add] using h9⟩
                  obtain ⟨ad, rfl, hcell⟩ := hcell
                  have tA : (absI g0 != 1) = true := by
                    rw [bne_iff_ne]; unfold absI; rw [hg0] at hg; split <;> omega
                  have Hr2 := Lib.hid (show cfaF xs = ([], 5) by rw [Hr.out, ← HTe.out]; unfold cfaE; rw [if_neg (fun h => hg h.2)])
                  clear HTe Hr HR HI hg0
                  go_wp2_with (go_at_call 30; refine (abs_any _ _ (by omega) (by omega)).mono ?_; rintro e w' ⟨rfl, rfl⟩)
                  go_ret2
                  exact LiR2.nil Hr2.out hbe
              · omega
          · have HTe := Lib.hid (show (rest, rows) = TOT by
              obtain ⟨f, hfn, hf⟩ := Hf.out
              obtain rfl : f = 0 := by omega
              exact hf)
            have tn : ¬ (n : Int) ≤ 2000 := by omega
            clear Hf
            by_cases hL1' : L = 1
            · by_cases hg : gx rest 0 = 1 ∨ gx rest 0 = -1
              · have tL : ((L : Int) != 1) = false := by simp; omega
                obtain ⟨g0, hg0⟩ : ∃ g, gx rest 0 = g := ⟨_, rfl⟩
                have hgb : -1000000000000 ≤ g0 ∧ g0 ≤ 1000000000000 := by
                  have h5 := HI.out.last
                  rw [HL.out, show L - 1 = 0 by omega, hg0] at h5
                  rw [h5]; exact isPoly_gx Hpo.out _
                have hcell : ∃ ad : Addr, Ar = some ad ∧ wr.cell? ad = some (.int .i64 g0) := by
                  obtain ⟨A', n', c', e, _, _, h7⟩ := HR.out.1
                  cases e
                  obtain ⟨ad, e2, _, h8⟩ := h7.pos (by omega)
                  have h9 := h8 0 (by omega)
                  rw [hg0] at h9
                  exact ⟨ad, e2, by simpa [Addr.add] using h9⟩
                obtain ⟨ad, rfl, hcell⟩ := hcell
                have tA : (absI g0 != 1) = false := by unfold absI; rcases hg with e | e <;> rw [hg0] at e <;> subst e <;> rfl
                have Hr2 := Lib.hid (show cfaF xs = (rowsF rows, 0) by rw [Hr.out, ← HTe.out]; unfold cfaE; rw [if_pos ⟨by show rest.length = 1; rw [HL.out]; omega, hg⟩])
                clear HTe Hr HR HI hg0
                go_wp2_with (go_at_call 30; refine (abs_any _ _ (by omega) (by omega)).mono ?_; rintro e w' ⟨rfl, rfl⟩)
                go_ret2
                exact ⟨_, by rw [Hr2.out]; rfl, by rw [Hr2.out]; exact ⟨us, HO.out⟩, hbe⟩
              · have tL : ((L : Int) != 1) = false := by simp; omega
                obtain ⟨g0, hg0⟩ : ∃ g, gx rest 0 = g := ⟨_, rfl⟩
                have hgb : -1000000000000 ≤ g0 ∧ g0 ≤ 1000000000000 := by
                  have h5 := HI.out.last
                  rw [HL.out, show L - 1 = 0 by omega, hg0] at h5
                  rw [h5]; exact isPoly_gx Hpo.out _
                have hcell : ∃ ad : Addr, Ar = some ad ∧ wr.cell? ad = some (.int .i64 g0) := by
                  obtain ⟨A', n', c', e, _, _, h7⟩ := HR.out.1
                  cases e
                  obtain ⟨ad, e2, _, h8⟩ := h7.pos (by omega)
                  have h9 := h8 0 (by omega)
                  rw [hg0] at h9
                  exact ⟨ad, e2, by simpa [Addr.add] using h9⟩
                obtain ⟨ad, rfl, hcell⟩ := hcell
                have tA : (absI g0 != 1) = true := by
                  rw [bne_iff_ne]; unfold absI; rw [hg0] at hg; split <;> omega
                have Hr2 := Lib.hid (show cfaF xs = ([], 5) by rw [Hr.out, ← HTe.out]; unfold cfaE; rw [if_neg (fun h => hg h.2)])
                clear HTe Hr HR HI hg0
                go_wp2_with (go_at_call 30; refine (abs_any _ _ (by omega) (by omega)).mono ?_; rintro e w' ⟨rfl, rfl⟩)
                go_ret2
                exact LiR2.nil Hr2.out hbe
            · have tL : ((L : Int) != 1) = true := by simp; omega
              have Hr2 := Lib.hid (show cfaF xs = ([], 5) by rw [Hr.out, ← HTe.out]; unfold cfaE; rw [if_neg (by rw [HL.out]; omega)])
              clear HTe Hr HO HR HI
              go_wp2_with fail
              go_ret2
              exact LiR2.nil Hr2.out hbe
end WY
end Go.Proofs.Ytogkblncdpbhnaa
namespace Go.Proofs.Ytogkblncdpbhnaa
open Go.RowKit Go.ChangeShapes Go.WideShapes Go.Joins Go.Deep
set_option linter.unusedVariables false
namespace WY
open K Pl WA WL WB
theorem Rx.of_is {w : World} {B : Nat} {v : Value} {xs : List Int} (h : Is w B v xs) (hB : B ≤ w.heap.size) : Rx w (some w.heap.size) v xs := by
  refine ⟨h.more hB, ?_⟩
  intro A n c e ad e2 hn e3
  obtain ⟨A', n', c', e4, _, _, h7⟩ := h
  rw [e] at e4
  cases e4
  obtain ⟨ad', e5, hb, _⟩ := h7.pos hn
  rw [e2] at e5
  obtain rfl := Option.some.inj e5
  have := Option.some.inj e3
  omega
theorem cfaF_go2 {p : List Int} (h : isPoly p = true) (h2 : p.length ≤ 51) : cfaF p = cfaE (cfR 1000 1 p []) := by
  unfold cfaF; rw [if_neg (by rw [h]; decide), if_neg (by omega)]
set_option maxRecDepth 8192 in
set_option maxHeartbeats 16000000 in
theorem sCyclotomicFactors_any (B : Nat) (v : Value) (xs : List Int) (w : World) (h : Is w B v xs) (hB : B ≤ w.heap.size) :
    Calls Try.prog 7 #[v] w (LiR2 (cfaF xs) w) := by
  have Hp := Lib.hid h
  obtain ⟨A0, n00, c0, rfl, hnc, hcm, hrd⟩ := h
  have Hlen := Lib.hid hrd.len
  unfold maxLen at hcm
  clear hrd
  cases hpo : isPoly xs
  · have Hr := Lib.hid (show cfaF xs = ([], 1) by unfold cfaF; rw [if_pos hpo])
    go_enter Try.func7, Try.ntmps7
    go_wp2_with fail
    refine (l02Is_any B _ xs _ Hp.out hB).mono ?_
    rintro e w' ⟨rfl, rfl⟩
    rw [hpo]
    go_wp2_with fail
    go_ret2
    exact LiR2.nil Hr.out (Below.refl _ _)
  · by_cases h51 : 51 < n00
    · have Hr := Lib.hid (show cfaF xs = ([], 2) by unfold cfaF; rw [if_neg (by rw [hpo]; decide), if_pos (by rw [Hlen.out]; exact h51)])
      have t1 : (51 : Int) < (n00 : Int) := by omega
      go_enter Try.func7, Try.ntmps7
      go_wp2_with fail
      refine (l02Is_any B _ xs _ Hp.out hB).mono ?_
      rintro e w' ⟨rfl, rfl⟩
      rw [hpo]
      go_wp2_with fail
      go_ret2
      exact LiR2.nil Hr.out (Below.refl _ _)
    · have t1 : ¬ (51 : Int) < (n00 : Int) := by omega
      have hown0 := OwU.lit w (lo := w.heap.size) (Nat.le_refl _)
      have hbe0 : Below w.heap.size w (w.alloc (.cells #[] 24)) := (Below.refl _ _).alloc (Nat.le_refl _) _
      by_cases h0 : n00 = 0
      · subst h0
        have Hr := Lib.hid (show cfaF xs = ([], 5) by
          obtain rfl : xs = [] := List.eq_nil_of_length_eq_zero Hlen.out
          unfold cfaF; rw [if_neg (by rw [hpo]; decide), if_neg (by simp), cfR_nil]; rfl)
        clear hown0 hbe0
        go_enter Try.func7, Try.ntmps7
        go_wp2_with fail
        refine (l02Is_any B _ xs _ Hp.out hB).mono ?_
        rintro e w' ⟨rfl, rfl⟩
        rw [hpo]
        go_wp2_with fail
        go_ret2
        exact LiR2.nil Hr.out (Below.refl _ _)
      · obtain ⟨TOT, HT⟩ : ∃ T, Hid (cfR 1000 1 xs [] = T) := ⟨_, Lib.hid rfl⟩
        have Hr := Lib.hid (show cfaF xs = cfaE TOT by rw [cfaF_go2 hpo (by rw [Hlen.out]; omega), HT.out])
        have HI := Lib.hid (CfI.start (p := xs) (by rw [Hlen.out]; omega))
        have Hpo := Lib.hid hpo
        go_enter Try.func7, Try.ntmps7
        go_wp2_with fail
        refine (l02Is_any B _ xs _ Hp.out hB).mono ?_
        rintro e w' ⟨rfl, rfl⟩
        rw [hpo]
        clear hpo
        have te0 : ((n00 : Int) == 0) = false := by simp; omega
        go_wp2_with fail
        go_loopw [4, 5, 6] (fun a b c wr => ∃ (n m L c6 cr : Nat) (A6 Ar : Option Addr) (us : List Value) (rest : List Int) (rows : List (Nat × Nat)),
          a = .slice A6 m c6 ∧ b = .slice Ar L cr ∧ c = .int .i64 n ∧ 1 ≤ n ∧ n ≤ 1001 ∧ 1 ≤ L ∧ L ≤ 51 ∧ m ≤ 51 ∧ L ≤ cr ∧ cr ≤ 9223372036854775807 ∧ Hid (rest.length = L) ∧ Hid (∃ f, f + n = 1001 ∧ cfR f n rest rows = TOT) ∧ Hid (CfI xs rest rows) ∧ Hid ((rowsF rows).length = m) ∧
          Hid (OwU wr w.heap.size wr.heap.size (.slice A6 m c6) us (rowsF rows)) ∧ Hid (Rx wr (Value.slice A6 m c6).ownBlock (.slice Ar L cr) rest) ∧ Below w.heap.size w wr) (fun _ _ c _ => 1001 - (intOf c).toNat)
        case atStart => exact ⟨1, 0, n00, 0, c0, _, A0, [], xs, [], rfl, rfl, rfl, by omega, by omega, by omega, by omega, by omega, hnc, by omega, Hlen, Lib.hid ⟨1000, rfl, HT.out⟩, HI, Lib.hid rfl, Lib.hid (show OwU _ _ _ _ _ [] from by simpa using hown0), Lib.hid ((Rx.of_is Hp.out hB).later hbe0), hbe0⟩
        case round =>
          clear hown0 hbe0 HI HT
          obtain ⟨n, m, L, c6, cr, A6, Ar, us, rest, rows, rfl, rfl, rfl, hn1, hn2, hL1, hL2, hm51, hLc, hcr, HL, Hf, HI, hm, HO, HR, hbe⟩ := hrel
          by_cases hn20 : n ≤ 1000
          · by_cases hL : 1 < L
            · have HL1 := Lib.hid (show ¬ rest.length ≤ 1 by rw [HL.out]; omega)
              obtain ⟨f, hfn, hf⟩ := Hf.out
              obtain ⟨f', rfl⟩ : ∃ f', f = f' + 1 := ⟨f - 1, by omega⟩
              have HfN := Lib.hid (show f' + (n + 1) = 1001 by omega)
              have Hst := Lib.hid (show cfR f' (n + 1) (cfD n rest).1 (cfA n (cfD n rest).2 rows) = TOT by rw [← hf, cfR_go HL1.out])
              have HI2 := Lib.hid (HI.out.step (totN_pos n hn1 (by omega)))
              obtain ⟨t, Ht⟩ : ∃ t, Hid (totN n = t) := ⟨_, Lib.hid rfl⟩
              have htb : 1 ≤ t ∧ t ≤ 2000 := by
                have h5 := totN_pos n hn1 (by omega)
                have h6 := totN_le n
                rw [Ht.out] at h5 h6
                omega
              clear hf hfn Hf
              have tl1 : (1 : Int) < (L : Int) := by omega
              have tn : (n : Int) ≤ 1000 := by omega
              have hal := (Below.refl wr.heap.size wr).alloc (Nat.le_refl _) (.cells #[] 2)
              have HOa := Lib.hid ((HO.out.later hal).wide (Nat.le_refl _) hal.size)
              have HRa := Lib.hid (HR.out.later hal)
              have hbea := hbe.trans (hal.mono hbe.size)
              go_wp2_with fail
              refine (l02Totient_any n _ hn1 hn20).mono ?_
              rintro e w2 ⟨rfl, rfl⟩
              rw [Ht.out]
              clear HO HR hbe hal
              by_cases htl : t < L
              · have tt : (t : Int) < (L : Int) := by omega
                obtain ⟨R, HR0⟩ : ∃ R, Hid ((cfD n rest).1 = R) := ⟨_, Lib.hid rfl⟩
                obtain ⟨E, HE0⟩ : ∃ E, Hid ((cfD n rest).2 = E) := ⟨_, Lib.hid rfl⟩
                rw [HR0.out, HE0.out] at Hst HI2
                have HD := Lib.hid (show cfD n rest = dvR 60 (phi n) rest by unfold cfD; rw [if_pos (by rw [Ht.out, HL.out]; exact htl)])
                rw [HD.out] at HR0 HE0
                have HE1 := Lib.hid (show 0 + (dvR 60 (phi n) rest).2 = E by rw [Nat.zero_add]; exact HE0.out)
                have Hql := Lib.hid (show (phi n).length = t + 1 by rw [phi_len, Ht.out])
                clear HD HE0 HI
                go_wp2_with fail
                refine (l02Cyclotomic_any n _ hn1 (by omega)).mono ?_
                rintro e w3 ⟨vq, rfl, ownq, hb3⟩
                have Hs2 := hb3.size
                have HO2 := Lib.hid ((HOa.out.later hb3).wide (Nat.le_refl _) Hs2)
                have HR2 := Lib.hid (HRa.out.later hb3)
                have hbe2 := hbea.trans (hb3.mono hbea.size)
                have Hq := Lib.hid ownq.is
                obtain ⟨Aq, cq, rfl, hncq, hcmq⟩ := own_shape ownq.1
                rw [Hql.out] at hncq Hq ⊢
                have Hlow := Lib.hid (show ∀ k, (Value.slice A6 m c6).ownBlock = some k → k < w3.heap.size from fun k hk => (HO2.out.row.lt k hk).2)
                clear HOa HRa hbea ownq hb3 Hs2
                go_wp2_with fail
                go_loopw [5, 7] (fun b e wi => ∃ (L' cr' e' : Nat) (Ar' : Option Addr) (rest' : List Int), b = .slice Ar' L' cr' ∧ e = .int .i64 e' ∧ 1 ≤ L' ∧ L' ≤ cr' ∧ cr' ≤ 9223372036854775807 ∧ e' + L' ≤ 60 ∧ Hid (rest'.length = L') ∧
                  Hid (∃ f, L' ≤ f ∧ (dvR f (phi n) rest').1 = R ∧ e' + (dvR f (phi n) rest').2 = E) ∧ Hid (Rx wi (Value.slice A6 m c6).ownBlock (.slice Ar' L' cr') rest') ∧ Below w3.heap.size w3 wi) (fun b _ _ => lenOf b)
                case atStart => exact ⟨L, cr, 0, Ar, rest, rfl, rfl, hL1, hLc, hcr, by omega, HL, Lib.hid ⟨60, by omega, HR0.out, HE1.out⟩, HR2, Below.refl _ _⟩
                case round =>
                  clear HR2 HR0 HE1 HL1 HL
                  obtain ⟨L', cr', e', Ar', rest', rfl, rfl, hL1', hLc', hcr', heL, HL', Hf', HR', hbi⟩ := hrel
                  have tq : (0 : Int) < ((t + 1 : Nat) : Int) := by omega
                  go_wp2_with fail
                  have Hq3 := Lib.hid ((Hq.out.below hbi).more hbi.size)
                  refine (l02Quotient_any _ _ _ rest' (phi n) _ HR'.out.1 Hq3.out (Nat.le_refl _) (by rw [HL'.out]; omega) (by rw [Hql.out]; omega) (by rw [Hql.out]; omega)).mono ?_
                  rintro e w4 ⟨v4, rfl, own4, hb4⟩
                  have Hown4 := Lib.hid own4
                  have HR4 := Lib.hid (HR'.out.later hb4)
                  have hbi4 := hbi.trans (hb4.mono hbi.size)
                  have Hs3 := Lib.hid hbi.size
                  clear HR' Hq3 own4 hb4 hbi
                  cases hbq : (qwF rest' (phi n)).2
                  · have hqs : qwS rest' (phi n) = ([], false) := by unfold qwS; rw [hbq]; rfl
                    rw [hqs] at Hown4 ⊢
                    have Hend := Lib.hid (show rest' = R ∧ e' = E by
                      obtain ⟨f, _, h5, h6⟩ := Hf'.out
                      rw [dvR_no hbq] at h5 h6
                      exact ⟨h5, h6⟩)
                    obtain ⟨rfl, rfl⟩ := Hend.out
                    clear Hend Hf' Hown4 hbq
                    have HO4 := Lib.hid ((HO2.out.later hbi4).wide (Nat.le_refl _) hbi4.size)
                    have hbe4 := hbe2.trans (hbi4.mono hbe2.size)
                    clear HO2 hbi4 hbe2 Hs3
                    have hLb : L' ≤ 51 := by
                      have h5 := HI2.out.len
                      rw [HL'.out, Hlen.out] at h5
                      omega
                    by_cases he0 : e' = 0
                    · have te : ¬ (0 : Int) < (e' : Int) := by omega
                      have Hcf := Lib.hid (show cfA n e' rows = rows by unfold cfA; rw [if_pos he0])
                      rw [Hcf.out] at Hst HI2
                      have Hf := Lib.hid (show ∃ f, f + (n + 1) = 1001 ∧ cfR f (n + 1) rest' rows = TOT from ⟨f', HfN.out, Hst.out⟩)
                      clear Hcf Hst
                      go_wp2_with fail
                      go_roundw
                      case rel => exact ⟨n + 1, m, L', c6, cr', A6, Ar', us, rest', rows, rfl, rfl, by go_num, by omega, by omega, hL1', hLb, hm51, hLc', hcr', HL', Hf, HI2, hm, HO4, HR4, hbe4⟩
                      case measure => first | (simp [intOf]; done) | (simp [intOf]; omega)
                    · have te : (0 : Int) < (e' : Int) := by omega
                      have Hcf := Lib.hid (show cfA n e' rows = rows ++ [(n, e')] by unfold cfA; rw [if_neg he0])
                      rw [Hcf.out] at Hst HI2
                      have Hf := Lib.hid (show ∃ f, f + (n + 1) = 1001 ∧ cfR f (n + 1) rest' (rows ++ [(n, e')]) = TOT from ⟨f', HfN.out, Hst.out⟩)
                      have hm50 : m + 1 ≤ 51 := by
                        have h5 := HI2.out.len
                        have h6 := hm.out
                        rw [rowsF_len] at h6
                        rw [List.length_append, Hlen.out] at h5
                        simp at h5; omega
                      clear Hcf Hst
                      have hrow : w4.ownsRow w.heap.size 24 1 (.slice A6 m c6) m us := by have h := HO4.out.row; rw [hm.out] at h; exact h
                      have hbs := hbe4.size
                      go_wp2_with (at_builtin; refine wp_append_row rfl _ _ rfl w.heap.size _ m us rfl ((hrow.alloc _).alloc _) (w4.heap.size + 1) (some ⟨w4.heap.size, 0, none⟩) 2 2 1 rfl (by simp) (by omega) (by have := hbe4.size; simp; omega) ?_)
                      intro v' w5 hown5 hgrow hat
                      have hal2 := ((Below.refl w4.heap.size w4).alloc (Nat.le_refl _) (.cells #[.int .i64 (n : Int), .int .i64 (e' : Int)] 2))
                      have how5 := Lib.hid (OwU.snoc (ys := [(n : Int), (e' : Int)]) HO4.out (Nat.le_refl _) hbs (((Below.refl _ _).alloc (Nat.le_refl _) _).alloc (by simp) _) (WA.ow_lit2 w4 _ _ _) (by rw [hm.out]; exact hown5) hgrow (by simp only [World.size_alloc]; exact hat))
                      have hbe5 : Below w.heap.size w w5 := (hbe4.trans ((((Below.refl _ _).alloc (Nat.le_refl _) _).alloc (by simp) _).mono hbs)).grown hgrow (by have := hbe4.size; simp; omega) (fun k' hk' => (hrow.lt k' hk').1)
                      have HR5 := Lib.hid ((HR4.out.later (((Below.refl _ _).alloc (Nat.le_refl _) _).alloc (by simp) _)).grown hgrow (b' := v'.ownBlock) (by simp only [World.size_alloc]; exact hat))
                      have HLr := Lib.hid (show (rowsF (rows ++ [(n, e')])).length = m + 1 by rw [rowsF_len, List.length_append, ← hm.out, rowsF_len]; rfl)
                      rw [← show rowsF (rows ++ [(n, e')]) = rowsF rows ++ [[(n : Int), (e' : Int)]] from rowsF_snoc rows (n, e')] at how5
                      obtain ⟨A7, c7, rfl, hnc7, hcm7⟩ := own_shape how5.out.row
                      rw [HLr.out] at how5 hnc7 HR5 ⊢
                      clear hown5 hgrow hat hrow HO4 HR4 hbe4 hm hal2
                      go_wp2_with fail
                      go_roundw
                      case rel => exact ⟨n + 1, m + 1, L', c7, cr', A7, Ar', _, rest', rows ++ [(n, e')], rfl, rfl, by go_num, by omega, by omega, hL1', hLb, hm50, hLc', hcr', HL', Hf, HI2, HLr, how5, HR5, hbe5⟩
                      case measure => first | (simp [intOf]; done) | (simp [intOf]; omega)
                  · have hqs : qwS rest' (phi n) = qwF rest' (phi n) := by unfold qwS; rw [hbq]; rfl
                    rw [hqs, hbq]
                    rw [hqs] at Hown4
                    clear hqs
                    have hql := qwF_len hbq
                    rw [HL'.out, Hql.out] at hql
                    obtain ⟨A4, c4, rfl, hnc4, hcm4⟩ := own_shape Hown4.out.1
                    have HR5 := Lib.hid (Rx.of_ow (b := (Value.slice A6 m c6).ownBlock) Hown4.out (fun k hk => Nat.lt_of_lt_of_le (Hlow.out k hk) Hs3.out))
                    have Hf2 := Lib.hid (show ∃ f, (qwF rest' (phi n)).1.length ≤ f ∧ (dvR f (phi n) (qwF rest' (phi n)).1).1 = R ∧ (e' + 1) + (dvR f (phi n) (qwF rest' (phi n)).1).2 = E by
                      obtain ⟨f, h4, h5, h6⟩ := Hf'.out
                      obtain ⟨g, rfl⟩ : ∃ g, f = g + 1 := ⟨f - 1, by omega⟩
                      rw [dvR_yes hbq] at h5 h6
                      exact ⟨g, by rw [hql.2]; omega, h5, by simp only at h6; omega⟩)
                    have Hrl := Lib.hid hql.2
                    obtain ⟨hq1, hq2⟩ := hql
                    clear Hown4 HR4 Hf' hbq
                    generalize (qwF rest' (phi n)).1 = rest2 at *
                    rw [hq2] at hnc4 HR5 ⊢
                    rw [hq2] at Hf2
                    have hL2 : 1 ≤ L' - (t + 1) + 1 ∧ L' - (t + 1) + 1 + 1 ≤ L' := by omega
                    generalize L' - (t + 1) + 1 = L2 at *
                    go_wp2_with fail
                    go_roundw
                    case rel => exact ⟨L2, c4, e' + 1, A4, rest2, rfl, by go_num, by omega, hnc4, hcm4, by omega, Hrl, Hf2, HR5, hbi4⟩
                    case measure => simp [lenOf]; omega
              · have tt : ¬ (t : Int) < (L : Int) := by omega
                have HD := Lib.hid (show cfD n rest = (rest, 0) by unfold cfD; rw [if_neg (by rw [Ht.out, HL.out]; exact htl)])
                rw [HD.out] at Hst HI2
                have Hf := Lib.hid (show ∃ f, f + (n + 1) = 1001 ∧ cfR f (n + 1) rest rows = TOT from ⟨f', HfN.out, Hst.out⟩)
                have HI3 := Lib.hid (show CfI xs rest rows from HI2.out)
                clear Hst HI2 HI HD
                go_wp2_with fail
                refine wp_loop_rounds 1 ?_
                rw [rounds_succ]
                go_wp2_with fail
                go_roundw
                case rel => exact ⟨n + 1, m, L, c6, cr, A6, Ar, us, rest, rows, rfl, rfl, by go_num, by omega, by omega, hL1, hL2, hm51, hLc, hcr, HL, Hf, HI3, hm, HOa, HRa, hbea⟩
                case measure => first | (simp [intOf]; done) | (simp [intOf]; omega)
            · have HTe := Lib.hid (show (rest, rows) = TOT by
                obtain ⟨f, _, hf⟩ := Hf.out
                rw [← hf, cfR_stop (by rw [HL.out]; omega)])
              have tl1 : ¬ (1 : Int) < (L : Int) := by omega
              have tn : (n : Int) ≤ 1000 := by omega
              clear Hf
              by_cases hL1' : L = 1
              · by_cases hg : gx rest 0 = 1 ∨ gx rest 0 = -1
                · have tL : ((L : Int) != 1) = false := by simp; omega
                  obtain ⟨g0, hg0⟩ : ∃ g, gx rest 0 = g := ⟨_, rfl⟩
                  have hgb : -1000000000000 ≤ g0 ∧ g0 ≤ 1000000000000 := by
                    have h5 := HI.out.last
                    rw [HL.out, show L - 1 = 0 by omega, hg0] at h5
                    rw [h5]; exact isPoly_gx Hpo.out _
                  have hcell : ∃ ad : Addr, Ar = some ad ∧ wr.cell? ad = some (.int .i64 g0) := by
                    obtain ⟨A', n', c', e, _, _, h7⟩ := HR.out.1
                    cases e
                    obtain ⟨ad, e2, _, h8⟩ := h7.pos (by omega)
                    have h9 := h8 0 (by omega)
                    rw [hg0] at h9
                    exact ⟨ad, e2, by simpa [Addr.add] using h9⟩
                  obtain ⟨ad, rfl, hcell⟩ := hcell
                  have tA : g0 = 1 ∨ g0 = -1 := by rw [← hg0]; exact hg
                  have Hr2 := Lib.hid (show cfaF xs = (rowsF rows, 0) by rw [Hr.out, ← HTe.out]; unfold cfaE; rw [if_pos ⟨by show rest.length = 1; rw [HL.out]; omega, hg⟩])
                  clear HTe Hr HR HI hg0 hg
                  rcases tA with rfl | rfl
                  · go_wp2_with fail
                    go_ret2
                    exact ⟨_, by rw [Hr2.out]; rfl, by rw [Hr2.out]; exact ⟨us, HO.out⟩, hbe⟩
                  · go_wp2_with fail
                    go_ret2
                    exact ⟨_, by rw [Hr2.out]; rfl, by rw [Hr2.out]; exact ⟨us, HO.out⟩, hbe⟩
                · have tL : ((L : Int) != 1) = false := by simp; omega
                  obtain ⟨g0, hg0⟩ : ∃ g, gx rest 0 = g := ⟨_, rfl⟩
                  have hgb : -1000000000000 ≤ g0 ∧ g0 ≤ 1000000000000 := by
                    have h5 := HI.out.last
                    rw [HL.out, show L - 1 = 0 by omega, hg0] at h5
                    rw [h5]; exact isPoly_gx Hpo.out _
                  have hcell : ∃ ad : Addr, Ar = some ad ∧ wr.cell? ad = some (.int .i64 g0) := by
                    obtain ⟨A', n', c', e, _, _, h7⟩ := HR.out.1
                    cases e
                    obtain ⟨ad, e2, _, h8⟩ := h7.pos (by omega)
                    have h9 := h8 0 (by omega)
                    rw [hg0] at h9
                    exact ⟨ad, e2, by simpa [Addr.add] using h9⟩
                  obtain ⟨ad, rfl, hcell⟩ := hcell
                  have tA : ¬ (g0 = 1 ∨ g0 = -1) := by rw [← hg0]; exact hg
                  have tA1 : (g0 != 1) = true := by simp; omega
                  have tA2 : (g0 != -1) = true := by simp; omega
                  have Hr2 := Lib.hid (show cfaF xs = ([], 5) by rw [Hr.out, ← HTe.out]; unfold cfaE; rw [if_neg (fun h => hg h.2)])
                  clear HTe Hr HR HI hg0
                  go_wp2_with fail
                  go_ret2
                  exact LiR2.nil Hr2.out hbe
              · omega
          · have HTe := Lib.hid (show (rest, rows) = TOT by
              obtain ⟨f, hfn, hf⟩ := Hf.out
              obtain rfl : f = 0 := by omega
              exact hf)
            have tn : ¬ (n : Int) ≤ 1000 := by omega
            clear Hf
            by_cases hL1' : L = 1
            · by_cases hg : gx rest 0 = 1 ∨ gx rest 0 = -1
              · have tL : ((L : Int) != 1) = false := by simp; omega
                obtain ⟨g0, hg0⟩ : ∃ g, gx rest 0 = g := ⟨_, rfl⟩
                have hgb : -1000000000000 ≤ g0 ∧ g0 ≤ 1000000000000 := by
                  have h5 := HI.out.last
                  rw [HL.out, show L - 1 = 0 by omega, hg0] at h5
                  rw [h5]; exact isPoly_gx Hpo.out _
                have hcell : ∃ ad : Addr, Ar = some ad ∧ wr.cell? ad = some (.int .i64 g0) := by
                  obtain ⟨A', n', c', e, _, _, h7⟩ := HR.out.1
                  cases e
                  obtain ⟨ad, e2, _, h8⟩ := h7.pos (by omega)
                  have h9 := h8 0 (by omega)
                  rw [hg0] at h9
                  exact ⟨ad, e2, by simpa [Addr.add] using h9⟩
                obtain ⟨ad, rfl, hcell⟩ := hcell
                have tA : g0 = 1 ∨ g0 = -1 := by rw [← hg0]; exact hg
                have Hr2 := Lib.hid (show cfaF xs = (rowsF rows, 0) by rw [Hr.out, ← HTe.out]; unfold cfaE; rw [if_pos ⟨by show rest.length = 1; rw [HL.out]; omega, hg⟩])
                clear HTe Hr HR HI hg0 hg
                rcases tA with rfl | rfl
                · go_wp2_with fail
                  go_ret2
                  exact ⟨_, by rw [Hr2.out]; rfl, by rw [Hr2.out]; exact ⟨us, HO.out⟩, hbe⟩
                · go_wp2_with fail
                  go_ret2
                  exact ⟨_, by rw [Hr2.out]; rfl, by rw [Hr2.out]; exact ⟨us, HO.out⟩, hbe⟩
              · have tL : ((L : Int) != 1) = false := by simp; omega
                obtain ⟨g0, hg0⟩ : ∃ g, gx rest 0 = g := ⟨_, rfl⟩
                have hgb : -1000000000000 ≤ g0 ∧ g0 ≤ 1000000000000 := by
                  have h5 := HI.out.last
                  rw [HL.out, show L - 1 = 0 by omega, hg0] at h5
                  rw [h5]; exact isPoly_gx Hpo.out _
                have hcell : ∃ ad : Addr, Ar = some ad ∧ wr.cell? ad = some (.int .i64 g0) := by
                  obtain ⟨A', n', c', e, _, _, h7⟩ := HR.out.1
                  cases e
                  obtain ⟨ad, e2, _, h8⟩ := h7.pos (by omega)
                  have h9 := h8 0 (by omega)
                  rw [hg0] at h9
                  exact ⟨ad, e2, by simpa [Addr.add] using h9⟩
                obtain ⟨ad, rfl, hcell⟩ := hcell
                have tA : ¬ (g0 = 1 ∨ g0 = -1) := by rw [← hg0]; exact hg
                have tA1 : (g0 != 1) = true := by simp; omega
                have tA2 : (g0 != -1) = true := by simp; omega
                have Hr2 := Lib.hid (show cfaF xs = ([], 5) by rw [Hr.out, ← HTe.out]; unfold cfaE; rw [if_neg (fun h => hg h.2)])
                clear HTe Hr HR HI hg0
                go_wp2_with fail
                go_ret2
                exact LiR2.nil Hr2.out hbe
            · have tL : ((L : Int) != 1) = true := by simp; omega
              have Hr2 := Lib.hid (show cfaF xs = ([], 5) by rw [Hr.out, ← HTe.out]; unfold cfaE; rw [if_neg (by rw [HL.out]; omega)])
              clear HTe Hr HO HR HI
              go_wp2_with fail
              go_ret2
              exact LiR2.nil Hr2.out hbe
end WY
end Go.Proofs.Ytogkblncdpbhnaa
