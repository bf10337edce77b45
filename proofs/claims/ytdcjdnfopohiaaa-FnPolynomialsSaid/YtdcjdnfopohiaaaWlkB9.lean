/-
  WALKS, CHAPTER 2: quotients.
-/
import Derived.Test.YtdcjdnfopohiaaaWlkB8
import Derived.Test.YtdcjdnfopohiaaaPlD
namespace Go.Proofs.Ytdcjdnfopohiaaa
open Go.RowKit
set_option linter.unusedVariables false
namespace WB
open K Pl WA WL
def ixs (is : List Nat) : List Value := is.map fun (i : Nat) => Value.int .i64 ((i : Nat) : Int)
theorem ixs_len (is : List Nat) : (ixs is).length = is.length := by simp [ixs]
theorem ixs_snoc (is : List Nat) (i : Nat) : ixs (is ++ [i]) = ixs is ++ [.int .i64 (i : Int)] := by simp [ixs]
theorem infoInt : (Try.prog.info? 3).map (fun i => (i.zero, i.size, i.bytes)) = some (some (.int .i64 0), 1, 8) := by kernel_rfl
/-- 'places = append(places, i)'. -/
theorem wp_append_ix {w : World} {ops : Array Oper} {rest : List Oper} {o : Oper} {a : Act} {Q : Exit → Act → World → Prop} (hgd : o.guard = none) (s x : Operand)
    (ho : o.op = .call { callee := .builtin .append, args := #[s, x], argTypes := #[53, 53] })
    (lo : Nat) (v : Value) (n : Nat) (xs : List Value) (hs : a.eval s = v) (hown : w.ownsRow lo 3 1 v n xs)
    (g : Nat) (y : Int) (c : Nat) (hx : a.eval x = .slice (some ⟨g, 0, none⟩) 1 c) (hc : w.cell? ⟨g, 0, none⟩ = some (.int .i64 y)) (hn : n < 1000000000000) (hbase : lo ≤ w.heap.size)
    (h : ∀ v' w', w'.ownsRow lo 3 1 v' (n + 1) (xs ++ [.int .i64 y]) → w.grownBy w' v.ownBlock → wpList Try.prog ops Q rest (a.put o.dst v') w') : wpList Try.prog ops Q (o :: rest) a w := by
  obtain ⟨i0, hi, hz0, hz1, hz2⟩ := info_parts infoInt
  refine wpList_append_own (P := Try.prog) w hgd s x 53 ho lo 3 i0 (.int .i64 0) 1 8 Try.underlying53 hi hz0 hz1 hz2 rfl (by decide) v n _ hs hown ⟨g, 0, none⟩ 1 c [.int .i64 y] hx rfl ?_ ?_ (by unfold maxLen; omega) (by omega) hbase ?_
  · intro j u hj
    match j, hj with
    | 0, hj => simp at hj; subst hj; simpa [Addr.add] using hc
  · intro u hu; simp at hu; subst hu; rfl
  · intro v' w' h1 h2 _
    exact h v' w' h1 h2
/-- A store into another row. -/
theorem own_other {w : World} {base base' : Nat} {e : TypeId} {s n m cap : Nat} {v : Value} {xs ys : List Value} {g : Nat} {e' : TypeId} (h : w.ownsRow base e s v n xs) (h' : w.ownsRow base' e' 1 (.slice (some ⟨g, 0, none⟩) m cap) m ys) (hne : v.ownBlock ≠ some g) (j : Nat) (u : Value) :
    (w.setCell ⟨g, j, none⟩ u).ownsRow base e s v n xs := h.kept (h'.stored j u).2 (.inr hne)
/-- The three rows of the quotient's loop. -/
structure Qst (w0 wr : World) (lo g1 c1 n g2 N : Nat) (v6 : Value) (pl : List Nat) (rest out : List Int) : Prop where
  pl : wr.ownsRow lo 3 1 v6 pl.length (ixs pl)
  rest : wr.ownsRow lo 2 1 (.slice (some ⟨g1, 0, none⟩) n c1) n (rest.map (Value.int .i64))
  out : wr.ownsRow lo 2 1 (.slice (some ⟨g2, 0, none⟩) N N) N (out.map (Value.int .i64))
  ne1 : v6.ownBlock ≠ some g1
  ne2 : v6.ownBlock ≠ some g2
  ne3 : g1 ≠ g2
  be : Below lo w0 wr
section
variable {w0 wr : World} {lo g1 c1 n g2 N : Nat} {v6 : Value} {pl : List Nat} {rest out : List Int}
theorem Qst.setOut (h : Qst w0 wr lo g1 c1 n g2 N v6 pl rest out) (j : Nat) (u : Int) : Qst w0 (wr.setCell ⟨g2, j, none⟩ (.int .i64 u)) lo g1 c1 n g2 N v6 pl rest (out.set j u) where
  pl := own_other h.pl h.out h.ne2 j _
  rest := own_other h.rest h.out (by simp [Value.ownBlock]; exact h.ne3) j _
  out := by have e := (h.out.stored j (.int .i64 u)).1; rw [← List.map_set] at e; exact e
  ne1 := h.ne1
  ne2 := h.ne2
  ne3 := h.ne3
  be := h.be.setCell (p := ⟨g2, j, none⟩) (h.out.lt g2 rfl).1 _
theorem Qst.setRest (h : Qst w0 wr lo g1 c1 n g2 N v6 pl rest out) (j : Nat) (u : Int) : Qst w0 (wr.setCell ⟨g1, j, none⟩ (.int .i64 u)) lo g1 c1 n g2 N v6 pl (rest.set j u) out where
  pl := own_other h.pl h.rest h.ne1 j _
  rest := by have e := (h.rest.stored j (.int .i64 u)).1; rw [← List.map_set] at e; exact e
  out := own_other h.out h.rest (by simp [Value.ownBlock]; exact fun e => h.ne3 e.symm) j _
  ne1 := h.ne1
  ne2 := h.ne2
  ne3 := h.ne3
  be := h.be.setCell (p := ⟨g1, j, none⟩) (h.rest.lt g1 rfl).1 _
theorem Qst.drewN (h : Qst w0 wr lo g1 c1 n g2 N v6 pl rest out) (k : Nat) : Qst w0 (wr.drewN k) lo g1 c1 n g2 N v6 pl rest out where
  pl := h.pl
  rest := h.rest
  out := h.out
  ne1 := h.ne1
  ne2 := h.ne2
  ne3 := h.ne3
  be := below_drewN h.be k
theorem Qst.cellRest (h : Qst w0 wr lo g1 c1 n g2 N v6 pl rest out) {j : Nat} (hj : j < n) : wr.cell? ⟨g1, j, none⟩ = some (.int .i64 (gx rest j)) ∧ wr.frozen? ⟨g1, j, none⟩ = false := by
  have hl : rest.length = n := by have := h.rest.1; simpa using this
  exact ⟨by rw [h.rest.cellAt j (by omega), map_gx _ j (by omega)], h.rest.frozenAt j⟩
theorem Qst.cellOut (h : Qst w0 wr lo g1 c1 n g2 N v6 pl rest out) {j : Nat} (hj : j < N) : wr.cell? ⟨g2, j, none⟩ = some (.int .i64 (gx out j)) ∧ wr.frozen? ⟨g2, j, none⟩ = false := by
  have hl : out.length = N := by have := h.out.1; simpa using this
  exact ⟨by rw [h.out.cellAt j (by omega), map_gx _ j (by omega)], h.out.frozenAt j⟩
/-- A place. -/
theorem Qst.cellPl (h : Qst w0 wr lo g1 c1 n g2 N v6 pl rest out) {j : Nat} (hj : j < pl.length) : ∃ g c, v6 = .slice (some ⟨g, 0, none⟩) pl.length c ∧ wr.cell? ⟨g, j, none⟩ = some (.int .i64 ((pl[j]'hj : Nat) : Int)) := by
  obtain ⟨g, c, e⟩ := Go.Joins.ownsRow_form h.pl (by omega)
  have h2 := h.pl
  rw [e] at h2
  refine ⟨g, c, e, ?_⟩
  rw [h2.cellAt j (by omega)]
  simp [ixs, hj]
end
set_option maxRecDepth 8192 in
set_option maxHeartbeats 4000000 in
theorem quotientOf_any (B : Nat) (v v2 : Value) (xs ys : List Int) (w : World) (h : Is w B v xs) (h2 : Is w B v2 ys) (hB : B ≤ w.heap.size) (hp : isPoly xs = true) (hq : isPoly ys = true) :
    Calls Try.prog 25 #[v, v2] w (Li2 (quoP xs ys) w) := by
  have Hcy := Lib.hid (fun j => isPoly_gx hq j)
  have Hcx := Lib.hid (show ∀ j, isCoef (gx xs j) = true from fun j => isCoef_true.2 (isPoly_gx hp j))
  have Hp := Lib.hid h
  obtain ⟨A, n, c, rfl, hnc, hcm, hrd⟩ := h
  obtain ⟨A2, m, c2, rfl, hmc, hcm2, hrd2⟩ := h2
  have Hlen := Lib.hid hrd.len
  have Hlen2 := Lib.hid hrd2.len
  have hn' : n ≤ 2001 := by rw [← hrd.len]; exact (isPoly_true.1 hp).1
  have hm' : m ≤ 2001 := by rw [← hrd2.len]; exact (isPoly_true.1 hq).1
  have Hlast := Lib.hid (isPoly_true.1 hq).2.1
  unfold maxLen at hcm hcm2
  clear hp hq hrd
  by_cases hm0 : m = 0
  · have he : ((m : Int) == 0) = true := by simp; omega
    have Hr := Lib.hid (show quoP xs ys = ([], 5) by unfold quoP; rw [if_pos (by rw [Hlen2.out]; exact hm0)])
    clear hm0
    go_enter Try.func25, Try.ntmps25
    go_wp2
    go_ret2
    exact Li2.nil Hr.out (Below.refl _ _)
  · have he : ((m : Int) == 0) = false := by simp; omega
    by_cases hn0 : n = 0
    · have he2 : ((n : Int) == 0) = true := by simp; omega
      have hg : ¬ (0 : Int) < (n : Int) := by omega
      have Hr := Lib.hid (show quoP xs ys = ([], 0) by unfold quoP; rw [if_neg (by rw [Hlen2.out]; exact hm0), if_pos (by rw [Hlen.out]; exact hn0)])
      have hown0 : (w.alloc (.cells #[] 2)).ownsRow w.heap.size 2 1 (.slice (some ⟨w.heap.size, 0, none⟩) 0 0) 0 (([] : List Int).map (Value.int .i64)) := World.ownsRow_lit w #[] 0 (Nat.le_refl _) (by decide) rfl
      clear hm0 hn0
      go_enter Try.func25, Try.ntmps25
      go_wp2
      go_ret2
      exact ⟨_, by rw [Hr.out]; rfl, by rw [Hr.out]; exact Ow.of_own hown0, (Below.refl _ _).alloc (Nat.le_refl _) _⟩
    · have he2 : ((n : Int) == 0) = false := by simp; omega
      have hg : (0 : Int) < (n : Int) := by omega
      by_cases hnm : n < m
      · have hnm2 : (n : Int) < (m : Int) := by omega
        have Hr := Lib.hid (show quoP xs ys = ([], 5) by unfold quoP; rw [if_neg (by rw [Hlen2.out]; exact hm0), if_neg (by rw [Hlen.out]; exact hn0), if_pos (by rw [Hlen.out, Hlen2.out]; exact hnm)])
        clear hm0 hn0
        go_enter Try.func25, Try.ntmps25
        go_wp2
        go_ret2
        exact Li2.nil Hr.out (Below.refl _ _)
      · have hnm2 : ¬ (n : Int) < (m : Int) := by omega
        obtain ⟨N, hN⟩ : ∃ N, N = n - m + 1 := ⟨_, rfl⟩
        have HN := Lib.hid (show (n : Int) - (m : Int) + 1 = (N : Int) by omega)
        have Hr := Lib.hid (show quoP xs ys = dvOut ys N xs (List.replicate N 0) by
          unfold quoP; rw [if_neg (by rw [Hlen2.out]; exact hm0), if_neg (by rw [Hlen.out]; exact hn0), if_neg (by rw [Hlen.out, Hlen2.out]; exact hnm), Hlen.out, Hlen2.out, ← hN])
        have hN' : N ≤ 2001 := by omega
        have hNn : N + m = n + 1 := by omega
        have HNn := Lib.hid hNn
        have hm1 : 1 ≤ m := by omega
        have hN1 : 1 ≤ N := by omega
        have hl0 : ¬ gx ys (m - 1) = 0 := by
          rcases Hlast.out with e | e
          · rw [Hlen2.out] at e; omega
          · rw [Hlen2.out] at e; exact e
        obtain ⟨ad, rfl, hab, hc⟩ := hrd2.pos (by omega)
        have Hc := Lib.hid hc
        have hown0 : (w.alloc (.cells #[] 3)).ownsRow w.heap.size 3 1 (.slice (some ⟨w.heap.size, 0, none⟩) 0 0) 0 (ixs []) := World.ownsRow_lit w #[] 0 (Nat.le_refl _) (by decide) rfl
        have hbe0 : Below w.heap.size w (w.alloc (.cells #[] 3)) := (Below.refl _ _).alloc (Nat.le_refl _) _
        clear hm0 hn0 hnm hN hNn hrd2 hc
        go_enter Try.func25, Try.ntmps25
        go_wp2
        go_loopw [6, 41] (fun u i wr => ∃ (A : Option Addr) (c l j : Nat), u = .slice A l c ∧ l ≤ c ∧ c ≤ 9223372036854775807 ∧ j ≤ m ∧ i = .int .i64 j ∧ l ≤ j ∧ Hid (l = (plc ys 0 j).length) ∧ Hid (wr.ownsRow w.heap.size 3 1 (.slice A l c) l (ixs (plc ys 0 j))) ∧ Below w.heap.size w wr) (fun _ i _ => m - (intOf i).toNat)
        case atStart => exact ⟨_, 0, 0, 0, rfl, by omega, by omega, by omega, rfl, by omega, Lib.hid rfl, Lib.hid hown0, hbe0⟩
        case round =>
          clear hown0 hbe0
          obtain ⟨A6, c6, l, j, rfl, hlc, hc6, hjm, rfl, hlj, hl, hown, hbe⟩ := hrel
          by_cases hlt : j < m
          · have hc1 : wr.cell? (ad.add j) = some (.int .i64 (gx ys j)) := ((hbe.mono hB).cell (by rw [block_of_add]; omega)).trans (Hc.out j hlt)
            have hsz := hbe.size
            by_cases hz : gx ys j = 0
            · have hze : (gx ys j != 0) = false := by simp [hz]
              have Hpl := Lib.hid (plc_step_zero hz)
              clear hz
              go_wp2
              go_roundw
              case rel => exact ⟨A6, c6, l, j + 1, rfl, hlc, hc6, by omega, by go_num, by omega, Lib.hid (by rw [Hpl.out]; exact hl.out), Lib.hid (by rw [Hpl.out]; exact hown.out), hbe⟩
              case measure => first | (simp [intOf]; done) | (simp [intOf]; omega)
            · have hze : (gx ys j != 0) = true := by simp [hz]
              have Hpl := Lib.hid (plc_step hz)
              clear hz
              go_wp2_with (at_builtin; refine wp_append_ix rfl _ _ rfl w.heap.size _ l _ rfl (hown.out.alloc _) wr.heap.size (j : Int) 1 rfl (by simp) (by omega) (by simp; omega) ?_)
              intro v' w2 hown2 hgrow
              have hbe2 := below_append hbe hbe.size hown.out (Nat.le_refl _) hgrow
              obtain ⟨A', c', rfl, hlc', hcm'⟩ := own_shape hown2
              have Hown2 := Lib.hid hown2
              clear hown2 hgrow hown
              go_wp2
              go_roundw
              case rel => exact ⟨A', c', l + 1, j + 1, rfl, hlc', hcm', by omega, by go_num, by omega, Lib.hid (by rw [Hpl.out, List.length_append, ← hl.out]; rfl), Lib.hid (by rw [Hpl.out, ixs_snoc]; exact Hown2.out), hbe2⟩
              case measure => first | (simp [intOf]; done) | (simp [intOf]; omega)
          · obtain rfl : j = m := by omega
            obtain ⟨pl, Hpl⟩ : ∃ pl, Hid (plc ys 0 j = pl) := ⟨_, Lib.hid rfl⟩
            have hl2 : Hid (l = pl.length) := Lib.hid (by rw [← Hpl.out]; exact hl.out)
            have Hown6 : Hid (wr.ownsRow w.heap.size 3 1 (.slice A6 l c6) pl.length (ixs pl)) := Lib.hid (by rw [← Hpl.out, ← hl.out]; exact hown.out)
            have hs0 := hbe.size
            obtain ⟨i0, hi, hz0, hz1, hz2⟩ := info_parts info64
            have Hi := Lib.hid hi; have Hz0 := Lib.hid hz0; have Hz1 := Lib.hid hz1; have Hz2 := Lib.hid hz2
            clear hi hz0 hz1 hz2 hown hl he he2 hg hnm2
            go_wp2_with fail
            refine (Clone_any B _ xs _ (Hp.out.below (hbe.mono hB)) (Nat.le_trans hB hs0) (by rw [Hlen.out]; omega)).mono ?_
            rintro e w1 ⟨v9, rfl, own9, hb9⟩
            obtain ⟨g1, c1, rfl⟩ := Go.Joins.ownsRow_form own9.1 (by rw [Hlen.out]; omega)
            have hg1 := own9.1.lt g1 rfl
            have Hown9 := Lib.hid own9.1
            rw [Hlen.out] at Hown9 ⊢
            have hs9 := hb9.size
            have Hb9 := Lib.hid hb9
            clear own9 hb9
            go_wp2_with (at_make; refine wpList_make_full _ rfl _ _ 24 rfl w1.heap.size 2 i0 (.int .i64 0) 1 Try.underlying24 Hi.out Hz0.out Hz1.out _ _ _ _ N rfl rfl HN.out HN.out ?mkb ?mkc ?mkd ?_)
            case mkb => rw [Hz2.out]; omega
            case mkc => unfold maxLen; omega
            try (case mkd => simp)
            intro w3 hown hgrow
            have hb3 : Below w1.heap.size w1 w3 := (Below.refl _ _).grown hgrow (Nat.le_refl _) (by simp)
            have Q0 := Lib.hid (show Qst w w3 w.heap.size g1 c1 n w1.heap.size N (.slice A6 l c6) pl xs (List.replicate N 0) from {
              pl := own_later (own_later Hown6.out Hb9.out) hb3
              rest := own_base (own_later Hown9.out hb3) hs0
              out := by
                rw [List.map_replicate]
                have e : (madeCells (Value.int IntKind.i64 0).cells (N * 1)).toList = List.replicate N (Value.int .i64 0) := by
                  rw [Nat.mul_one]; exact toList_madeCells_one _ N
                refine own_base (base := w1.heap.size) ?_ (by omega)
                rw [← e, Nat.mul_one]; exact hown
              ne1 := fun e => by have := (Hown6.out.lt g1 e).2; omega
              ne2 := fun e => by have := (Hown6.out.lt _ e).2; omega
              ne3 := by omega
              be := (hbe.trans (Hb9.out.mono hs0)).trans (hb3.mono (by omega)) })
            have hcl : w3.cell? (ad.add (j - 1)) = some (.int .i64 (gx ys (j - 1))) := ((Q0.out.be.mono hB).cell (by rw [block_of_add]; omega)).trans (Hc.out (j - 1) (by omega))
            have hil : 0 ≤ (j : Int) - 1 ∧ (j : Int) - 1 < (j : Int) := by omega
            generalize hg2 : w1.heap.size = g2 at *
            clear hown hgrow hb3 Hown9 Hb9 Hown6 hbe hs0 hs9 hg1 hg2
            go_wp2
            go_loopw [12] (fun i wr => ∃ (z : Int) (k : Nat) (rest out : List Int), i = .int .i64 z ∧ Hid (z + 1 = k) ∧ k ≤ N ∧ Hid (Qst w wr w.heap.size g1 c1 n g2 N (.slice A6 l c6) pl rest out) ∧ Hid (dvOut ys k rest out = quoP xs ys) ∧ Hid (∀ j, isCoef (gx rest j) = true)) (fun i _ => (intOf i + 1).toNat)
            case atStart => exact ⟨_, N, xs, _, rfl, Lib.hid (by omega), Nat.le_refl _, Q0, Lib.hid Hr.out.symm, Hcx⟩
            case round =>
              clear Q0 hcl hil
              obtain ⟨z, k, rest, out, rfl, hz, hk, hQ, hd, hco⟩ := hrel
              by_cases hk0 : 0 < k
              · obtain ⟨k', rfl⟩ : ∃ k', k = k' + 1 := ⟨k - 1, by omega⟩
                obtain rfl : z = (k' : Int) := by have := hz.out; omega
                obtain ⟨cc, Hcc⟩ : ∃ cc, Hid (gx rest (k' + (ys.length - 1)) = cc) := ⟨_, Lib.hid rfl⟩
                obtain ⟨la, Hla⟩ : ∃ la, Hid (gx ys (j - 1) = la) := ⟨_, Lib.hid rfl⟩
                have Hla2 := Lib.hid (show gx ys (ys.length - 1) = la by rw [Hlen2.out]; exact Hla.out)
                have hbc : -1000000000000 ≤ cc ∧ cc ≤ 1000000000000 := by rw [← Hcc.out]; exact isCoef_true.1 (hco.out _)
                have hkn : k' + j - 1 < n := by have := HNn.out; omega
                have hcr : wr.cell? ⟨g1, k' + j - 1, none⟩ = some (.int .i64 cc) := by
                  rw [← Hcc.out, Hlen2.out, show k' + (j - 1) = k' + j - 1 by omega]; exact (hQ.out.cellRest hkn).1
                have hikj : 0 ≤ (k' : Int) + (j : Int) - 1 ∧ (k' : Int) + (j : Int) - 1 < (n : Int) := by omega
                rw [Hla.out] at hl0 ⊢
                by_cases hodd : cc.tmod la = 0
                · have hre : (cc.tmod la != 0) = false := by simp [hodd]
                  obtain ⟨t, Ht⟩ : ∃ t, Hid (cc.tdiv la = t) := ⟨_, Lib.hid rfl⟩
                  have htb := tdiv_coef cc la hbc
                  have hko : 0 ≤ (k' : Int) ∧ (k' : Int) < (N : Int) := by omega
                  obtain ⟨hoc, hof⟩ := hQ.out.cellOut (j := k') (by omega)
                  have Q1 := Lib.hid (hQ.out.setOut k' (cc.tdiv la))
                  by_cases h0 : cc.tdiv la = 0
                  · have hte : (cc.tdiv la == 0) = true := by simp [h0]
                    have Hd := Lib.hid (show dvOut ys k' rest (out.set k' (cc.tdiv la)) = quoP xs ys by
                      rw [← hd.out, dvOut_skip (by rw [Hcc.out, Hla2.out]; exact hodd) (by rw [Hcc.out, Hla2.out]; exact h0), h0])
                    clear h0 hodd hd hQ
                    go_wp2
                    go_roundw
                    case rel => exact ⟨_, k', rest, _, rfl, Lib.hid (by omega), by omega, Q1, Hd, hco⟩
                    case measure => first | (simp [intOf]; done) | (simp [intOf]; omega)
                  · have hte : (cc.tdiv la == 0) = false := by simp [h0]
                    have Hd := Lib.hid (show dvThen ys k' (out.set k' (cc.tdiv la)) (dvPl (cc.tdiv la) k' ys (pl.drop 0) rest) = quoP xs ys by
                      rw [← hd.out, dvOut_go (cc.tdiv la) (by rw [Hcc.out, Hla2.out]) (by rw [Hcc.out, Hla2.out]; exact hodd) h0, dvIn_pl, Hlen2.out, Hpl.out, List.drop_zero])
                    obtain ⟨out', Hout'⟩ : ∃ o, Hid (out.set k' (cc.tdiv la) = o) := ⟨_, Lib.hid rfl⟩
                    rw [Hout'.out] at Q1 Hd
                    clear h0 hodd hd hQ
                    go_wp2
                    go_loopw [98] (fun i wr => ∃ (q : Nat) (rest : List Int), q ≤ l ∧ i = .int .i64 q ∧ Hid (Qst w wr w.heap.size g1 c1 n g2 N (.slice A6 l c6) pl rest out') ∧ Hid (dvThen ys k' out' (dvPl (cc.tdiv la) k' ys (pl.drop q) rest) = quoP xs ys) ∧ Hid (∀ j, isCoef (gx rest j) = true)) (fun i _ => l - (intOf i).toNat)
                    case atStart => exact ⟨0, rest, Nat.zero_le _, rfl, Q1, Hd, hco⟩
                    case round =>
                      clear Q1 Hd hco hcr hoc hof
                      obtain ⟨q, rest, hql, rfl, hQ, hd, hco⟩ := hrel
                      by_cases hlt2 : q < l
                      · have hq2 : q < pl.length := by rw [← hl2.out]; exact hlt2
                        obtain ⟨g6, c6', e6, hc6⟩ := hQ.out.cellPl (j := q) hq2
                        rw [← hl2.out] at e6
                        obtain ⟨pp, Hpp⟩ : ∃ pp, Hid (pl[q] = pp) := ⟨_, Lib.hid rfl⟩
                        rw [Hpp.out] at hc6
                        have hpm := plc_mem (q := ys) (r := j) (j := pp) (by rw [Hpl.out, ← Hpp.out]; exact List.getElem_mem _)
                        have hpj := hpm.1
                        have Hdr := Lib.hid (show pl.drop q = pp :: pl.drop (q + 1) by rw [List.drop_eq_getElem_cons hq2, Hpp.out])
                        cases e6
                        have hcp : wr.cell? (ad.add pp) = some (.int .i64 (gx ys pp)) := ((hQ.out.be.mono hB).cell (by rw [block_of_add]; omega)).trans (Hc.out pp hpj)
                        have hkp : k' + pp < n := by have := HNn.out; omega
                        obtain ⟨hcr2, hfr2⟩ := hQ.out.cellRest hkp
                        have hikp : 0 ≤ (k' : Int) + (pp : Int) ∧ (k' : Int) + (pp : Int) < (n : Int) := by omega
                        have hipj : 0 ≤ (pp : Int) ∧ (pp : Int) < (j : Int) := by omega
                        have hbo := isCoef_true.1 (hco.out (k' + pp))
                        have hby := Hcy.out pp
                        have hbt : -1000000000000 ≤ -(cc.tdiv la) ∧ -(cc.tdiv la) ≤ 1000000000000 := by omega
                        cases hR : ppB (gx rest (k' + pp)) (-(cc.tdiv la)) (gx ys pp)
                        · have Hr2 := Lib.hid (show quoP xs ys = ([], 3) by rw [← hd.out, Hdr.out, dvPl_none rest hR]; rfl)
                          have Hbe := Lib.hid hQ.out.be
                          clear hd hco hQ hpm
                          go_wp2
                          go_quiet ((go_at_call 34; exact Calls.quiet_of_same ((plusProduct_any _ _ _ _ hbo hbt hby).mono fun _ _ h => ⟨h.1, h.2.symm⟩)))
                          rw [hR]
                          go_wp2
                          go_ret2
                          exact Li2.nil Hr2.out (below_drewN Hbe.out _)
                        · have Hd2 := Lib.hid (show dvThen ys k' out' (dvPl (cc.tdiv la) k' ys (pl.drop (q + 1)) (rest.set (k' + pp) (ppV (gx rest (k' + pp)) (-(cc.tdiv la)) (gx ys pp)))) = quoP xs ys by rw [← hd.out, Hdr.out, dvPl_some rest hR])
                          have Hco2 := Lib.hid (coef_set (q := k' + pp) hco.out (pp_coef (hco.out (k' + pp)) hR))
                          clear hd hco hpm
                          go_wp2
                          go_quiet ((go_at_call 34; exact Calls.quiet_of_same ((plusProduct_any _ _ _ _ hbo hbt hby).mono fun _ _ h => ⟨h.1, h.2.symm⟩)))
                          rw [hR]
                          go_wp2
                          go_roundw
                          case rel => exact ⟨q + 1, _, by omega, by go_num, Lib.hid ((hQ.out.drewN _).setRest _ _), Hd2, Hco2⟩
                          case measure => first | (simp [intOf]; done) | (simp [intOf]; omega)
                      · have Hd2 := Lib.hid (show dvOut ys k' rest out' = quoP xs ys by
                          rw [← hd.out, List.drop_eq_nil_of_le (by rw [← hl2.out]; omega)]; rfl)
                        clear hd
                        go_wp2
                        go_roundw
                        case rel => exact ⟨_, k', rest, _, rfl, Lib.hid (by omega), by omega, hQ, Hd2, hco⟩
                        case measure => first | (simp [intOf]; done) | (simp [intOf]; omega)
                · have hre : (cc.tmod la != 0) = true := by simp [hodd]
                  have Hr2 := Lib.hid (show quoP xs ys = ([], 5) by rw [← hd.out]; exact dvOut_odd (by rw [Hcc.out, Hla2.out]; exact hodd))
                  have Hbe := Lib.hid hQ.out.be
                  clear hodd hco hd
                  go_wp2
                  go_ret2
                  exact Li2.nil Hr2.out Hbe.out
              · obtain rfl : k = 0 := by omega
                obtain rfl : z = -1 := by have := hz.out; omega
                have Ho := Lib.hid (show Ow wr w.heap.size wr.heap.size (.slice (some ⟨g1, 0, none⟩) n c1) rest from Ow.of_own hQ.out.rest)
                have Hd := Lib.hid (show (if trimL rest = [] then (out, 0) else ([], 5)) = quoP xs ys by rw [← hd.out, dvOut])
                have Hbe := Lib.hid hQ.out.be
                go_wp2_with fail
                refine (trimmed_any _ _ _ _ _ Ho.out).mono ?_
                rintro e w' ⟨v', rfl, own', rfl⟩
                obtain ⟨A', c', rfl, _, _⟩ := own_shape own'.1
                obtain ⟨L, HL⟩ : ∃ L, Hid ((trimL rest).length = L) := ⟨_, Lib.hid rfl⟩
                rw [HL.out]
                clear own'
                by_cases hL : L = 0
                · have hL2 : ¬ (0 : Int) < (L : Int) := by omega
                  have Hr2 := Lib.hid (show quoP xs ys = (out, 0) by rw [← Hd.out, if_pos (List.eq_nil_of_length_eq_zero (by rw [HL.out]; exact hL))])
                  clear hL
                  go_wp2_with fail
                  go_ret2
                  exact ⟨_, by rw [Hr2.out]; rfl, by rw [Hr2.out]; exact Ow.of_own hQ.out.out, Hbe.out⟩
                · have hL2 : (0 : Int) < (L : Int) := by omega
                  have Hr2 := Lib.hid (show quoP xs ys = ([], 5) by
                    rw [← Hd.out, if_neg]; intro e; rw [e] at HL; exact hL (by have := HL.out; simpa using this.symm))
                  clear hL
                  go_wp2_with fail
                  go_ret2
                  exact Li2.nil Hr2.out Hbe.out
end WB
end Go.Proofs.Ytdcjdnfopohiaaa
