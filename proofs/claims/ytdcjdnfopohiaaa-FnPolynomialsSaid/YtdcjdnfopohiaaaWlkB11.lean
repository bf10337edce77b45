/-
  WALKS, CHAPTER 2: the reference's quotients.
-/
import Derived.Test.YtdcjdnfopohiaaaWlkB10
import Derived.Deep.RegionHeld3
import Derived.Deep.OwnRows
import Derived.Deep.DeepCutAuto
namespace Go.Proofs.Ytdcjdnfopohiaaa
open Go.RowKit
set_option linter.unusedVariables false
namespace WB
open K Pl WA WL
theorem own_of_heap {w w' : World} {base : Nat} {e : TypeId} {s n : Nat} {v : Value} {xs : List Value} (h : w.ownsRow base e s v n xs) (e1 : w'.heap = w.heap) : w'.ownsRow base e s v n xs := by
  unfold World.ownsRow at h ⊢
  rw [e1]; exact h
theorem Qst.of_heap {w wr wr' : World} {lo g1 c1 n g2 N : Nat} {v6 : Value} {pl : List Nat} {rest out : List Int} (h : Qst w wr lo g1 c1 n g2 N v6 pl rest out) (e1 : wr'.heap = wr.heap) (e2 : wr'.os = wr.os) (e3 : wr'.tape = wr.tape) (e4 : wr'.output = wr.output) : Qst w wr' lo g1 c1 n g2 N v6 pl rest out :=
  ⟨own_of_heap h.pl e1, own_of_heap h.rest e1, own_of_heap h.out e1, h.ne1, h.ne2, h.ne3, ⟨e2.trans h.be.os, e3.trans h.be.tape, e4.trans h.be.output, by rw [e1]; exact h.be.size, by rw [e1]; exact h.be.block⟩⟩
theorem made_own {w : World} {lo : Nat} (N : Nat) (hlo : lo ≤ w.heap.size) (hN : N ≤ 1000000000) : (w.alloc (.cells (madeCells #[Value.int .i64 0] N) 2)).ownsRow lo 2 1 (.slice (some ⟨w.heap.size, 0, none⟩) N N) N ((List.replicate N (0 : Int)).map (Value.int .i64)) := by
  have e := World.ownsRow_lit (base := lo) (e := 2) (size := 1) w (madeCells #[Value.int .i64 0] N) N hlo (by unfold maxLen; omega) (by rw [size_madeCells, Nat.mul_one])
  rw [toList_madeCells_one] at e
  rw [List.map_replicate]; exact e
theorem max_abs (t : Int) (ts : Array TypeId) (ty : TypeId) (W : World) : (Builtin.max_ ts ty #[.int .i64 t, .int .i64 (-t)]).run Try.prog W = .ok (.int .i64 (absI t)) W := by
  rw [run_max_int2, show (if -t > t then -t else t) = absI t by unfold absI; split <;> split <;> omega]
set_option maxRecDepth 8192 in
set_option maxHeartbeats 8000000 in
theorem l02Divide_run (B : Nat) (A : Option Addr) (n c m : Nat) (ad : Addr) (c2 : Nat) (xs ys : List Int) (w : World) (Hp : Hid (Is w B (.slice A n c) xs)) (Hlen : Hid (xs.length = n)) (Hlen2 : Hid (ys.length = m)) (hB : B ≤ w.heap.size) (hab : ad.block < B) (Hc : Hid (∀ j, j < m → w.cell? (ad.add j) = some (.int .i64 (gx ys j))))
    (Hcy : Hid (∀ j, -1000000000000 ≤ gx ys j ∧ gx ys j ≤ 1000000000000)) (Hcx : Hid (∀ j, isCoef (gx xs j) = true)) (hl0 : ¬ gx ys (m - 1) = 0)
    (hm1 : 1 ≤ m) (hn1 : 1 ≤ n) (hnm : ¬ (n : Int) < (m : Int)) (hn' : n ≤ 2001) (hnc : n ≤ c) (hcm : c ≤ 9223372036854775807) (hmc : m ≤ c2) (hcm2 : c2 ≤ 9223372036854775807) (N : Nat) (HN : Hid ((n : Int) - (m : Int) + 1 = (N : Int))) (hN' : N ≤ 2001) (HNn : Hid (N + m = n + 1)) (Hr : Hid (quoP xs ys = dvOut ys N xs (List.replicate N 0))) :
    Calls Try.prog 33 #[.slice A n c, .slice (some ad) m c2] w (Li2 (quoP xs ys) w) := by
  have he : ((n : Int) == 0) = false := by simp; omega
  go_enter Try.func33, Try.ntmps33
  go_wp2
  go_cut [6, 7] (fun u v wr => ∃ g1 c1 g2 : Nat, u = .slice (some ⟨g1, 0, none⟩) n c1 ∧ v = .slice (some ⟨g2, 0, none⟩) N N ∧ Hid (Qst w wr w.heap.size g1 c1 n g2 N (.slice none 0 0) [] xs (List.replicate N 0)))
  case first =>
    have hmk := fun W : World => run_make_row' (P := Try.prog) 24 2 (.int .i64 0) 8 Try.underlying24 info64 rfl .i64 .i64 N (by omega) (by omega) W
    have hown := fun (W : World) (hW : Is W B (.slice A n c) xs) (hBW : B ≤ W.heap.size) => l01Own_any B (.slice A n c) xs W hW hBW (by rw [Hlen.out]; omega)
    have HN2 : IntKind.i64.wrap ((n : Int) - (m : Int)) = (N : Int) - 1 := by rw [show (n : Int) - (m : Int) = (N : Int) - 1 by have := HN.out; omega]; exact IntWalk.i64_in _ (by omega)
    have HN3 : IntKind.i64.wrap ((N : Int) - 1 + 1) = (N : Int) := by rw [show (N : Int) - 1 + 1 = (N : Int) by omega]; exact IntWalk.i64_in _ (by omega)
    have HN4 : IntKind.i64.wrap (N : Int) = (N : Int) := IntWalk.i64_in _ (by omega)
    have hal : ∀ o, Below w.heap.size w (w.alloc o) := fun o => (Below.refl _ _).alloc (Nat.le_refl _) o
    go_region_held3 (fun W => Below w.heap.size w W) (first | exact (Below.refl _ _).drew | exact (hal _).drew | exact (Below.drew (Below.refl _ _)).alloc (Nat.le_refl _) _ | exact qq.alloc qq.size _ | exact (qq.alloc qq.size _).drew | assumption) (first | (go_at_call 40; refine (hown _ (Hp.out.below (Below.mono ‹Below w.heap.size w _› hB)) (Nat.le_trans hB (Below.size ‹Below w.heap.size w _›))).mono ?_; rintro e w1 ⟨v1, rfl, own1, hb1⟩; have qq : Below w.heap.size w w1 := Below.trans ‹Below w.heap.size w _› (hb1.mono (Below.size ‹Below w.heap.size w _›))))
    all_goals
      have hs1 := qq.size
      obtain ⟨g1, c1, rfl⟩ := Go.Joins.ownsRow_form own1.1 (by rw [Hlen.out]; omega)
      have hg1 := own1.1.lt g1 rfl
      have Ho := Lib.hid own1
      have Hb := Lib.hid hb1
      have Hq := Lib.hid qq
      rw [Hlen.out] at Ho ⊢
      clear own1 hb1 qq hmk hown hal HN2 HN3 HN4
      go_wp2_with fail
      go_meet
    · have hr := Ho.out.1
      rw [Hlen.out] at hr
      exact ⟨g1, c1, w1.heap.size, rfl, rfl, Lib.hid {
        pl := World.ownsRow_nil _ _ _ _
        rest := own_later hr ((Below.refl _ _).alloc (Nat.le_refl _) _)
        out := made_own N hs1 (by omega)
        ne1 := by simp [Value.ownBlock]
        ne2 := by simp [Value.ownBlock]
        ne3 := by have := hg1.2; omega
        be := Hq.out.alloc hs1 _ }⟩
    · have hr := Ho.out.1
      rw [Hlen.out] at hr
      have hgb : w.heap.size + 1 ≤ g1 := by have := hg1.1; simp at this; omega
      exact ⟨g1, c1, w.heap.size, rfl, rfl, Lib.hid {
        pl := World.ownsRow_nil _ _ _ _
        rest := own_base hr (by simp)
        out := own_later (own_of_heap (w' := (w.alloc (.cells (madeCells #[Value.int .i64 0] N) 2)).drew) (made_own (w := w) N (Nat.le_refl _) (by omega)) rfl) Hb.out
        ne1 := by simp [Value.ownBlock]
        ne2 := by simp [Value.ownBlock]
        ne3 := by omega
        be := Hq.out }⟩
  case rest =>
    obtain ⟨g1, c1, g2, rfl, rfl, Q0⟩ := hcut
    have hcl : wc.cell? (ad.add (m - 1)) = some (.int .i64 (gx ys (m - 1))) := ((Q0.out.be.mono hB).cell (by rw [block_of_add]; omega)).trans (Hc.out (m - 1) (by omega))
    have hil : 0 ≤ (m : Int) - 1 ∧ (m : Int) - 1 < (m : Int) := by omega
    go_wp2
    go_loopw [9] (fun i wr => ∃ (z : Int) (k : Nat) (rest out : List Int), i = .int .i64 z ∧ Hid (z + 1 = k) ∧ k ≤ N ∧ Hid (Qst w wr w.heap.size g1 c1 n g2 N (.slice none 0 0) [] rest out) ∧ Hid (dvOut ys k rest out = quoP xs ys) ∧ Hid (∀ j, isCoef (gx rest j) = true)) (fun i _ => (intOf i + 1).toNat)
    case atStart => exact ⟨_, N, xs, _, rfl, Lib.hid (by omega), Nat.le_refl _, Q0, Lib.hid Hr.out.symm, Hcx⟩
    case round =>
      clear Q0 hcl hil
      obtain ⟨z, k, rest, out, rfl, hz, hk, hQ, hd, hco⟩ := hrel
      by_cases hk0 : 0 < k
      · obtain ⟨k', rfl⟩ : ∃ k', k = k' + 1 := ⟨k - 1, by omega⟩
        obtain rfl : z = (k' : Int) := by have := hz.out; omega
        obtain ⟨cc, Hcc⟩ : ∃ cc, Hid (gx rest (k' + (ys.length - 1)) = cc) := ⟨_, Lib.hid rfl⟩
        obtain ⟨la, Hla⟩ : ∃ la, Hid (gx ys (m - 1) = la) := ⟨_, Lib.hid rfl⟩
        have Hla2 := Lib.hid (show gx ys (ys.length - 1) = la by rw [Hlen2.out]; exact Hla.out)
        have hbc : -1000000000000 ≤ cc ∧ cc ≤ 1000000000000 := by rw [← Hcc.out]; exact isCoef_true.1 (hco.out _)
        have hkn : k' + m - 1 < n := by have := HNn.out; omega
        have hcr : wr.cell? ⟨g1, k' + m - 1, none⟩ = some (.int .i64 cc) := by
          rw [← Hcc.out, Hlen2.out, show k' + (m - 1) = k' + m - 1 by omega]; exact (hQ.out.cellRest hkn).1
        have hikj : 0 ≤ (k' : Int) + (m : Int) - 1 ∧ (k' : Int) + (m : Int) - 1 < (n : Int) := by omega
        rw [Hla.out] at hl0 ⊢
        by_cases hodd : cc.tmod la = 0
        · have hre : (cc.tmod la != 0) = false := by simp [hodd]
          have htb := tdiv_coef cc la hbc
          have hko : 0 ≤ (k' : Int) ∧ (k' : Int) < (N : Int) := by omega
          obtain ⟨hoc, hof⟩ := hQ.out.cellOut (j := k') (by omega)
          have Q1 := Lib.hid (hQ.out.setOut k' (cc.tdiv la))
          have hlo : k' < out.length := by have h := hQ.out.out.1; simp at h; omega
          by_cases h0 : cc.tdiv la = 0
          · have hte : (cc.tdiv la != 0) = false := by simp [h0]
            have Hd := Lib.hid (show dvOut ys k' rest (out.set k' (cc.tdiv la)) = quoP xs ys by
              rw [← hd.out, dvOut_skip (by rw [Hcc.out, Hla2.out]; exact hodd) (by rw [Hcc.out, Hla2.out]; exact h0), h0])
            have hm2 : (0 : Int) < (m : Int) := by omega
            clear h0 hodd hd hQ
            go_wp2
            refine wp_loop_rounds 1 ?_
            rw [rounds_succ]
            go_wp2
            go_roundw
            case rel => exact ⟨_, k', rest, _, rfl, Lib.hid (by omega), by omega, Q1, Hd, hco⟩
            case measure => first | (simp [intOf]; done) | (simp [intOf]; omega)
          · have hte : (cc.tdiv la != 0) = true := by simp [h0]
            obtain ⟨t, Ht⟩ : ∃ t, Hid (cc.tdiv la = t) := ⟨_, Lib.hid rfl⟩
            have Hd := Lib.hid (show dvThen ys k' (out.set k' t) (dvIn t k' ys m 0 rest) = quoP xs ys by
              rw [← hd.out, dvOut_go t (by rw [Hcc.out, Hla2.out]; exact Ht.out) (by rw [Hcc.out, Hla2.out]; exact hodd) (by rw [← Ht.out]; exact h0), Hlen2.out])
            have Hgo := Lib.hid (show gx (out.set k' t) k' = t by rw [gx_eq _ _ (by simpa using hlo)]; simp)
            obtain ⟨out', Hout'⟩ : ∃ o, Hid (out.set k' t = o) := ⟨_, Lib.hid rfl⟩
            have Hol := Lib.hid (show out'.length = N by rw [← Hout'.out]; have h := hQ.out.out.1; simp at h; simpa using h)
            have htb2 := htb
            rw [Ht.out] at Q1 htb hte
            rw [Hout'.out] at Q1 Hd Hgo
            clear h0 hodd hd hQ hlo
            go_wp2
            rw [Ht.out]
            clear htb2
            go_loopw [11] (fun i wr => ∃ (q s : Nat) (rest : List Int), q ≤ m ∧ i = .int .i64 q ∧ Hid (q + s = m) ∧ Hid (Qst w wr w.heap.size g1 c1 n g2 N (.slice none 0 0) [] rest out') ∧ Hid (dvThen ys k' out' (dvIn t k' ys s q rest) = quoP xs ys) ∧ Hid (∀ j, isCoef (gx rest j) = true)) (fun i _ => m - (intOf i).toNat)
            case atStart => exact ⟨0, m, rest, Nat.zero_le _, rfl, Lib.hid (by omega), Q1, Hd, hco⟩
            case round =>
              clear Q1 Hd hco hcr hoc hof
              obtain ⟨q, s, rest, hqm, rfl, hqs, hQ, hd, hco⟩ := hrel
              by_cases hlt : q < m
              · obtain ⟨s', rfl⟩ : ∃ s', s = s' + 1 := ⟨s - 1, by have := hqs.out; omega⟩
                have hct : wr.cell? ⟨g2, k', none⟩ = some (.int .i64 t) := by rw [(hQ.out.cellOut (j := k') (by omega)).1, Hgo.out]
                have hcp : wr.cell? (ad.add q) = some (.int .i64 (gx ys q)) := ((hQ.out.be.mono hB).cell (by rw [block_of_add]; omega)).trans (Hc.out q hlt)
                have hkp : k' + q < n := by have := HNn.out; omega
                obtain ⟨hcr2, hfr2⟩ := hQ.out.cellRest hkp
                have hikp : 0 ≤ (k' : Int) + (q : Int) ∧ (k' : Int) + (q : Int) < (n : Int) := by omega
                have hiq : 0 ≤ (q : Int) ∧ (q : Int) < (m : Int) := by omega
                have hbo := isCoef_true.1 (hco.out (k' + q))
                have hby := Hcy.out q
                have hta := absI_bd t (by omega) (by omega)
                have hya := absI_bd (gx ys q) (by omega) (by omega)
                have hmx1 := max_abs t
                have hmx2 := max_abs (gx ys q)
                have Hneg := Lib.hid (show gx rest (k' + q) + -t * gx ys q = gx rest (k' + q) - t * gx ys q by rw [Int.neg_mul]; omega)
                have Habs := Lib.hid (show absI (-t) = absI t by unfold absI; split <;> split <;> omega)
                by_cases hy0 : gx ys q = 0
                · have hb0 : decide (0 < absI (gx ys q)) = false := by rw [hy0]; rfl
                  have hpz := pp_zero (s := gx rest (k' + q)) (a := -t) (b := gx ys q) (.inr hy0)
                  have hprod : t * gx ys q = 0 := by rw [hy0]; omega
                  have hR' : inR (gx rest (k' + q)) (-1000000000000) 1000000000000 = true := hco.out (k' + q)
                  have Hd2 := Lib.hid (show dvThen ys k' out' (dvIn t k' ys s' (q + 1) (rest.set (k' + q) (gx rest (k' + q)))) = quoP xs ys by rw [← hd.out, dvIn_some s' rest hpz.1, hpz.2])
                  have Hq2 := Lib.hid (hQ.out.setRest (k' + q) (gx rest (k' + q)))
                  have Hco2 := Lib.hid (coef_set (q := k' + q) hco.out (hco.out (k' + q)))
                  clear hpz hd hco hy0
                  go_wp2
                  go_quiet (fail)
                  go_wp2
                  go_region
                  go_wp2_with (go_at_call 35; refine (l01In_any _ _ _ _).mono ?_; rintro e w' ⟨rfl, rfl⟩)
                  go_roundw
                  case rel => exact ⟨q + 1, s', _, by omega, by go_num, Lib.hid (by have := hqs.out; omega), Lib.hid (Hq2.out.of_heap rfl rfl rfl rfl), Hd2, Hco2⟩
                  case measure => first | (simp [intOf]; done) | (simp [intOf]; omega)
                · have hb0 : 0 < absI (gx ys q) := by have := absI_ge_one hy0; omega
                  by_cases hbig : 2000000000000 / absI (gx ys q) < absI t
                  · have hR := pp_spec_big (s := gx rest (k' + q)) (a := -t) (b := gx ys q) hy0 (by rw [Habs.out]; exact hbig)
                    have Hr2 := Lib.hid (show quoP xs ys = ([], 3) by rw [← hd.out, dvIn_none s' rest hR]; rfl)
                    have Hbe := Lib.hid hQ.out.be
                    clear hd hco hQ hR hy0
                    go_wp2
                    go_quiet (fail)
                    go_wp2
                    go_ret2
                    exact Li2.nil Hr2.out (below_drewN Hbe.out _)
                  · have hpp := pp_spec (s := gx rest (k' + q)) (a := -t) (b := gx ys q) hy0 (hco.out (k' + q)) (by rw [Habs.out]; exact hbig)
                    rw [Hneg.out] at hpp
                    have hms := mul_small (a := t) hy0 hbig
                    have Hq2 := Lib.hid (hQ.out.setRest (k' + q) (gx rest (k' + q) - t * gx ys q))
                    cases hR : isCoef (gx rest (k' + q) - t * gx ys q)
                    · have Hr2 := Lib.hid (show quoP xs ys = ([], 3) by rw [← hd.out, dvIn_none s' rest (by rw [hpp.1]; exact hR)]; rfl)
                      have hR' : inR (gx rest (k' + q) - t * gx ys q) (-1000000000000) 1000000000000 = false := hR
                      clear hpp hR hd hco hy0
                      go_wp2
                      go_quiet (fail)
                      go_wp2
                      go_region
                      go_wp2_with (go_at_call 35; refine (l01In_any _ _ _ _).mono ?_; rintro e w' ⟨rfl, rfl⟩)
                      go_ret2
                      exact Li2.nil Hr2.out ⟨Hq2.out.be.os, Hq2.out.be.tape, Hq2.out.be.output, Hq2.out.be.size, Hq2.out.be.block⟩
                    · have Hd2 := Lib.hid (show dvThen ys k' out' (dvIn t k' ys s' (q + 1) (rest.set (k' + q) (gx rest (k' + q) - t * gx ys q))) = quoP xs ys by rw [← hd.out, dvIn_some s' rest (by rw [hpp.1]; exact hR), hpp.2])
                      have hR' : inR (gx rest (k' + q) - t * gx ys q) (-1000000000000) 1000000000000 = true := hR
                      have Hco2 := Lib.hid (coef_set (q := k' + q) hco.out hR)
                      clear hpp hR hd hco hy0
                      go_wp2
                      go_quiet (fail)
                      go_wp2
                      go_region
                      go_wp2_with (go_at_call 35; refine (l01In_any _ _ _ _).mono ?_; rintro e w' ⟨rfl, rfl⟩)
                      go_roundw
                      case rel => exact ⟨q + 1, s', _, by omega, by go_num, Lib.hid (by have := hqs.out; omega), Lib.hid (Hq2.out.of_heap rfl rfl rfl rfl), Hd2, Hco2⟩
                      case measure => first | (simp [intOf]; done) | (simp [intOf]; omega)
              · obtain rfl : s = 0 := by have := hqs.out; omega
                have Hd2 := Lib.hid (show dvOut ys k' rest out' = quoP xs ys by rw [← hd.out]; rfl)
                clear hd
                go_wp2
                go_roundw
                case rel => exact ⟨_, k', rest, _, rfl, Lib.hid (by omega), by omega, hQ, Hd2, hco⟩
                case measure => first | (simp [intOf]; done) | (simp [intOf]; omega)
        · have hre : (cc.tmod la != 0) = true := by simp [hodd]
          have Hr2 := Lib.hid (show quoP xs ys = ([], 5) by rw [← hd.out]; exact dvOut_odd (by rw [Hcc.out, Hla2.out]; exact hodd))
          have Hbe := Lib.hid hQ.out.be
          clear hodd hco hd
          go_wp2
          go_ret2
          exact Li2.nil Hr2.out Hbe.out
      · obtain rfl : k = 0 := by omega
        obtain rfl : z = -1 := by have := hz.out; omega
        have Hd := Lib.hid (show (if trimL rest = [] then (out, 0) else ([], 5)) = quoP xs ys by rw [← hd.out, dvOut])
        have Hrl := Lib.hid (show rest.length = n by have h := hQ.out.rest.1; simpa using h)
        clear hd hco
        go_wp2
        go_loop [14] (fun i => ∃ q : Nat, q ≤ n ∧ i = .int .i64 q ∧ Hid (∀ j, j < q → gx rest j = 0)) (fun i => n - (intOf i).toNat)
        case atStart => exact ⟨0, Nat.zero_le _, rfl, Lib.hid (fun j hj => by omega)⟩
        case round =>
          obtain ⟨q, hqn, rfl, hpre⟩ := hrel
          by_cases hlt : q < n
          · obtain ⟨hcr2, hfr2⟩ := hQ.out.cellRest hlt
            have hiq : 0 ≤ (q : Int) ∧ (q : Int) < (n : Int) := by omega
            by_cases h0 : gx rest q = 0
            · have hte : (gx rest q != 0) = false := by simp [h0]
              have Hpre2 := Lib.hid (show ∀ j, j < q + 1 → gx rest j = 0 from fun j hj => by
                rcases Nat.lt_or_ge j q with h1 | h1
                · exact hpre.out j h1
                · obtain rfl : j = q := by omega
                  exact h0)
              clear h0
              go_wp2
              go_round
              case rel => exact ⟨q + 1, by omega, by go_num, Hpre2⟩
              case measure => first | (simp [intOf]; done) | (simp [intOf]; omega)
            · have hte : (gx rest q != 0) = true := by simp [h0]
              have Hr2 := Lib.hid (show quoP xs ys = ([], 5) by
                rw [← Hd.out, if_neg]; intro e; exact h0 ((trimL_eq_nil rest).1 e q))
              have Hbe := Lib.hid hQ.out.be
              clear h0
              go_wp2
              go_ret2
              exact Li2.nil Hr2.out Hbe.out
          · obtain rfl : q = n := by omega
            have Hr2 := Lib.hid (show quoP xs ys = (out, 0) by
              rw [← Hd.out, if_pos]
              refine (trimL_eq_nil rest).2 fun j => ?_
              rcases Nat.lt_or_ge j q with h1 | h1
              · exact hpre.out j h1
              · exact gx_out rest j (by rw [Hrl.out]; exact h1))
            have Hbe := Lib.hid hQ.out.be
            go_wp2
            go_ret2
            exact ⟨_, by rw [Hr2.out]; rfl, by rw [Hr2.out]; exact Ow.of_own hQ.out.out, Hbe.out⟩
theorem l02Divide_any (B : Nat) (v v2 : Value) (xs ys : List Int) (w : World) (h : Is w B v xs) (h2 : Is w B v2 ys) (hB : B ≤ w.heap.size) (hp : isPoly xs = true) (hq : isPoly ys = true) (hm : 0 < ys.length) :
    Calls Try.prog 33 #[v, v2] w (Li2 (quoP xs ys) w) := by
  have Hcy := Lib.hid (fun j => isPoly_gx hq j)
  have Hcx := Lib.hid (show ∀ j, isCoef (gx xs j) = true from fun j => isCoef_true.2 (isPoly_gx hp j))
  have Hp := Lib.hid h
  obtain ⟨A, n, c, rfl, hnc, hcm, hrd⟩ := h
  obtain ⟨A2, m, c2, rfl, hmc, hcm2, hrd2⟩ := h2
  have Hlen := Lib.hid hrd.len
  have Hlen2 := Lib.hid hrd2.len
  have hn' : n ≤ 2001 := by rw [← hrd.len]; exact (isPoly_true.1 hp).1
  have hm' : m ≤ 2001 := by rw [← hrd2.len]; exact (isPoly_true.1 hq).1
  have Hlast := Lib.hid (isPoly_true.1 hq).2.1
  rw [Hlen2.out] at hm
  unfold maxLen at hcm hcm2
  obtain ⟨ad, rfl, hab, hc⟩ := hrd2.pos hm
  have Hc := Lib.hid hc
  clear hp hq hrd hrd2 hc
  by_cases hn0 : n = 0
  · have he2 : ((n : Int) == 0) = true := by simp; omega
    have Hr := Lib.hid (show quoP xs ys = ([], 0) by unfold quoP; rw [if_neg (by rw [Hlen2.out]; omega), if_pos (by rw [Hlen.out]; exact hn0)])
    have hown0 : (w.alloc (.cells #[] 2)).ownsRow w.heap.size 2 1 (.slice (some ⟨w.heap.size, 0, none⟩) 0 0) 0 (([] : List Int).map (Value.int .i64)) := World.ownsRow_lit w #[] 0 (Nat.le_refl _) (by decide) rfl
    clear hn0
    go_enter Try.func33, Try.ntmps33
    go_wp2
    go_ret2
    exact ⟨_, by rw [Hr.out]; rfl, by rw [Hr.out]; exact Ow.of_own hown0, (Below.refl _ _).alloc (Nat.le_refl _) _⟩
  · have he2 : ((n : Int) == 0) = false := by simp; omega
    by_cases hnm : n < m
    · have hnm2 : (n : Int) < (m : Int) := by omega
      have Hr := Lib.hid (show quoP xs ys = ([], 5) by unfold quoP; rw [if_neg (by rw [Hlen2.out]; omega), if_neg (by rw [Hlen.out]; exact hn0), if_pos (by rw [Hlen.out, Hlen2.out]; exact hnm)])
      clear hn0
      go_enter Try.func33, Try.ntmps33
      go_wp2
      go_ret2
      exact Li2.nil Hr.out (Below.refl _ _)
    · refine l02Divide_run B A n c m ad c2 xs ys w Hp Hlen Hlen2 hB hab Hc Hcy Hcx ?_ hm (by omega) (by omega) hn' hnc hcm hmc hcm2 (n - m + 1) (Lib.hid (by omega)) (by omega) (Lib.hid (by omega)) (Lib.hid ?_)
      · rcases Hlast.out with e | e
        · rw [Hlen2.out] at e; omega
        · rw [Hlen2.out] at e; exact e
      · unfold quoP; rw [if_neg (by rw [Hlen2.out]; omega), if_neg (by rw [Hlen.out]; exact hn0), if_neg (by rw [Hlen.out, Hlen2.out]; exact hnm), Hlen.out, Hlen2.out]
/-- A quotient's two forms: a list and nought, or nothing and a code that is not nought. -/
theorem quoP_form (p q : List Int) : (quoP p q).2 = 0 ∨ ((quoP p q).2 ≠ 0 ∧ (quoP p q).1 = []) := by
  have key : ∀ (k : Nat) (rest out : List Int), (dvOut q k rest out).2 = 0 ∨ ((dvOut q k rest out).2 ≠ 0 ∧ (dvOut q k rest out).1 = []) := by
    intro k
    induction k with
    | zero => intro rest out; rw [dvOut]; split <;> simp
    | succ k ih =>
      intro rest out
      rw [dvOut]
      split
      · simp
      · split
        · exact ih _ _
        · cases dvIn ((gx rest (k + (q.length - 1))).tdiv (gx q (q.length - 1))) k q q.length 0 rest with
          | none => simp
          | some r' => exact ih _ _
  unfold quoP
  split
  · simp
  · split
    · simp
    · split
      · simp
      · exact key _ _ _
set_option maxHeartbeats 800000 in
theorem sDividePolynomials_any (B : Nat) (v v2 : Value) (xs ys : List Int) (w : World) (h : Is w B v xs) (h2 : Is w B v2 ys) (hB : B ≤ w.heap.size) : Calls Try.prog 20 #[v, v2] w (Li2 (divP xs ys) w) := by
  have Hp := Lib.hid h
  have Hq := Lib.hid h2
  clear h
  cases hP : isPoly xs
  · have Hr := Lib.hid (show divP xs ys = ([], 1) by unfold divP; rw [hP]; rfl)
    go_enter Try.func20, Try.ntmps20
    go_wp2_with fail
    refine (l02Is_any B v xs _ Hp.out hB).mono ?_
    rintro e w' ⟨rfl, rfl⟩
    rw [hP]
    go_wp2_with fail
    go_ret2
    exact Li2.nil Hr.out (Below.refl _ _)
  · cases hQ : isPoly ys
    · have Hr := Lib.hid (show divP xs ys = ([], 1) by unfold divP; rw [hP, hQ]; rfl)
      go_enter Try.func20, Try.ntmps20
      go_wp2_with fail
      refine (l02Is_any B v xs _ Hp.out hB).mono ?_
      rintro e w' ⟨rfl, rfl⟩
      rw [hP]
      go_wp2_with fail
      refine (l02Is_any B v2 ys _ Hq.out hB).mono ?_
      rintro e w' ⟨rfl, rfl⟩
      rw [hQ]
      go_wp2_with fail
      go_ret2
      exact Li2.nil Hr.out (Below.refl _ _)
    · have Hr := Lib.hid (show divP xs ys = quoP xs ys by unfold divP; rw [hP, hQ]; rfl)
      have HP := Lib.hid hP
      have HQ := Lib.hid hQ
      obtain ⟨A2, m, c2, rfl, hmc, hcm2, hrd2⟩ := h2
      have Hlen2 := Lib.hid hrd2.len
      clear hrd2
      by_cases hm0 : m = 0
      · have he : ((m : Int) == 0) = true := by simp; omega
        have Hr2 := Lib.hid (show divP xs ys = ([], 5) by rw [Hr.out]; unfold quoP; rw [if_pos (by rw [Hlen2.out]; exact hm0)])
        clear hm0
        go_enter Try.func20, Try.ntmps20
        go_wp2_with fail
        refine (l02Is_any B v xs _ Hp.out hB).mono ?_
        rintro e w' ⟨rfl, rfl⟩
        rw [hP]
        go_wp2_with fail
        refine (l02Is_any B _ ys _ Hq.out hB).mono ?_
        rintro e w' ⟨rfl, rfl⟩
        rw [hQ]
        go_wp2_with fail
        go_ret2
        exact Li2.nil Hr2.out (Below.refl _ _)
      · have he : ((m : Int) == 0) = false := by simp; omega
        rcases quoP_form xs ys with h5 | ⟨h5, h6⟩
        · have hc : ((quoP xs ys).2 != 0) = false := by simp [h5]
          have Hr2 := Lib.hid (show divP xs ys = ((quoP xs ys).1, 0) by rw [Hr.out, ← h5])
          have Hm := Lib.hid (show 0 < ys.length by rw [Hlen2.out]; omega)
          clear hm0 h5
          go_enter Try.func20, Try.ntmps20
          go_wp2_with fail
          refine (l02Is_any B v xs _ Hp.out hB).mono ?_
          rintro e w' ⟨rfl, rfl⟩
          rw [hP]
          go_wp2_with fail
          refine (l02Is_any B _ ys _ Hq.out hB).mono ?_
          rintro e w' ⟨rfl, rfl⟩
          rw [hQ]
          clear hP hQ
          go_wp2_with fail
          refine (l02Divide_any B v _ xs ys _ Hp.out Hq.out hB HP.out HQ.out Hm.out).mono ?_
          rintro e w1 ⟨v1, rfl, own1, hb1⟩
          go_wp2_with fail
          go_ret2
          exact ⟨v1, by rw [Hr2.out]; rfl, by rw [Hr2.out]; exact own1, hb1⟩
        · have hc : ((quoP xs ys).2 != 0) = true := by simp [h5]
          have Hr2 := Lib.hid (show divP xs ys = ([], (quoP xs ys).2) by rw [Hr.out, ← h6])
          have Hm := Lib.hid (show 0 < ys.length by rw [Hlen2.out]; omega)
          clear hm0 h5 h6
          go_enter Try.func20, Try.ntmps20
          go_wp2_with fail
          refine (l02Is_any B v xs _ Hp.out hB).mono ?_
          rintro e w' ⟨rfl, rfl⟩
          rw [hP]
          go_wp2_with fail
          refine (l02Is_any B _ ys _ Hq.out hB).mono ?_
          rintro e w' ⟨rfl, rfl⟩
          rw [hQ]
          clear hP hQ
          go_wp2_with fail
          refine (l02Divide_any B v _ xs ys _ Hp.out Hq.out hB HP.out HQ.out Hm.out).mono ?_
          rintro e w1 ⟨v1, rfl, own1, hb1⟩
          go_wp2_with fail
          go_ret2
          exact Li2.nil Hr2.out hb1
end WB
end Go.Proofs.Ytdcjdnfopohiaaa
