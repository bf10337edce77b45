/-
  WALKS, CHAPTER 2: quotients.
  WALKS, CHAPTER 2: quotients, the callers.
  WALKS, CHAPTER 2: the reference's quotients.
-/
import Derived.Test.YtogkblncdpbhnaaWlkBC
import Derived.Test.YtogkblncdpbhnaaPlD
import Derived.Deep.RegionHeld3
import Derived.Deep.OwnRows
import Derived.Deep.DeepCutAuto
namespace Go.Proofs.Ytogkblncdpbhnaa
open Go.RowKit
set_option linter.unusedVariables false
namespace WB
open K Pl WA WL
def ixs (is : List Nat) : List Value := is.map fun (i : Nat) => Value.int .i64 ((i : Nat) : Int)
theorem ixs_len (is : List Nat) : (ixs is).length = is.length := by simp [ixs]
theorem ixs_snoc (is : List Nat) (i : Nat) : ixs (is ++ [i]) = ixs is ++ [.int .i64 (i : Int)] := by simp [ixs]
theorem infoInt : (Try.prog.info? 3).map (fun i => (i.zero, i.size, i.bytes)) = some (some (.int .i64 0), 1, 8) := by kernel_rfl
/-- 'places = append(places, i)'. -/
theorem wp_append_ix {w : World} {ops : Array Oper} {rest : List Oper} {o : Oper} {a : Act} {Q : Exit → Act → World → Prop} (hgd : o.guard = none) (s x : Operand)
    (ho : o.op = .call { callee := .builtin .append, args := #[s, x], argTypes := #[66, 66] })
    (lo : Nat) (v : Value) (n : Nat) (xs : List Value) (hs : a.eval s = v) (hown : w.ownsRow lo 3 1 v n xs)
    (g : Nat) (y : Int) (c : Nat) (hx : a.eval x = .slice (some ⟨g, 0, none⟩) 1 c) (hc : w.cell? ⟨g, 0, none⟩ = some (.int .i64 y)) (hn : n < 1000000000000) (hbase : lo ≤ w.heap.size)
    (h : ∀ v' w', w'.ownsRow lo 3 1 v' (n + 1) (xs ++ [.int .i64 y]) → w.grownBy w' v.ownBlock → wpList Try.prog ops Q rest (a.put o.dst v') w') : wpList Try.prog ops Q (o :: rest) a w := by
  obtain ⟨i0, hi, hz0, hz1, hz2⟩ := info_parts infoInt
  refine wpList_append_own (P := Try.prog) w hgd s x 66 ho lo 3 i0 (.int .i64 0) 1 8 Try.underlying66 hi hz0 hz1 hz2 rfl (by decide) v n _ hs hown ⟨g, 0, none⟩ 1 c [.int .i64 y] hx rfl ?_ ?_ (by unfold maxLen; omega) (by omega) hbase ?_
  · intro j u hj
    match j, hj with
    | 0, hj => simp at hj; subst hj; simpa [Addr.add] using hc
  · intro u hu; simp at hu; subst hu; rfl
  · intro v' w' h1 h2 _
    exact h v' w' h1 h2
/-- A store into another row. -/
theorem own_other {w : World} {base base' : Nat} {e : TypeId} {s n m cap : Nat} {v : Value} {xs ys : List Value} {g : Nat} {e' : TypeId} (h : w.ownsRow base e s v n xs) (h' : w.ownsRow base' e' 1 (.slice (some ⟨g, 0, none⟩) m cap) m ys) (hne : v.ownBlock ≠ some g) (j : Nat) (u : Value) :
    (w.setCell ⟨g, j, none⟩ u).ownsRow base e s v n xs := h.kept (h'.stored j u).2 (.inr hne)
/-- The three rows of the quotient's loop. -/
structure Qst (w0 wr : World) (lo g1 c1 n g2 N : Nat) (v6 : Value) (pl : List Nat) (rest out : List Int) : Prop where
  pl : wr.ownsRow lo 3 1 v6 pl.length (ixs pl)
  rest : wr.ownsRow lo 2 1 (.slice (some ⟨g1, 0, none⟩) n c1) n (rest.map (Value.int .i64))
  out : wr.ownsRow lo 2 1 (.slice (some ⟨g2, 0, none⟩) N N) N (out.map (Value.int .i64))
  ne1 : v6.ownBlock ≠ some g1
  ne2 : v6.ownBlock ≠ some g2
  ne3 : g1 ≠ g2
  be : Below lo w0 wr
section
variable {w0 wr : World} {lo g1 c1 n g2 N : Nat} {v6 : Value} {pl : List Nat} {rest out : List Int}
theorem Qst.setOut (h : Qst w0 wr lo g1 c1 n g2 N v6 pl rest out) (j : Nat) (u : Int) : Qst w0 (wr.setCell ⟨g2, j, none⟩ (.int .i64 u)) lo g1 c1 n g2 N v6 pl rest (out.set j u) where
  pl := own_other h.pl h.out h.ne2 j _
  rest := own_other h.rest h.out (by simp [Value.ownBlock]; exact h.ne3) j _
  out := by have e := (h.out.stored j (.int .i64 u)).1; rw [← List.map_set] at e; exact e
  ne1 := h.ne1
  ne2 := h.ne2
  ne3 := h.ne3
  be := h.be.setCell (p := ⟨g2, j, none⟩) (h.out.lt g2 rfl).1 _
theorem Qst.setRest (h : Qst w0 wr lo g1 c1 n g2 N v6 pl rest out) (j : Nat) (u : Int) : Qst w0 (wr.setCell ⟨g1, j, none⟩ (.int .i64 u)) lo g1 c1 n g2 N v6 pl (rest.set j u) out where
  pl := own_other h.pl h.rest h.ne1 j _
  rest := by have e := (h.rest.stored j (.int .i64 u)).1; rw [← List.map_set] at e; exact e
  out := own_other h.out h.rest (by simp [Value.ownBlock]; exact fun e => h.ne3 e.symm) j _
  ne1 := h.ne1
  ne2 := h.ne2
  ne3 := h.ne3
  be := h.be.setCell (p := ⟨g1, j, none⟩) (h.rest.lt g1 rfl).1 _
theorem Qst.drewN (h : Qst w0 wr lo g1 c1 n g2 N v6 pl rest out) (k : Nat) : Qst w0 (wr.drewN k) lo g1 c1 n g2 N v6 pl rest out where
  pl := h.pl
  rest := h.rest
  out := h.out
  ne1 := h.ne1
  ne2 := h.ne2
  ne3 := h.ne3
  be := below_drewN h.be k
theorem Qst.cellRest (h : Qst w0 wr lo g1 c1 n g2 N v6 pl rest out) {j : Nat} (hj : j < n) : wr.cell? ⟨g1, j, none⟩ = some (.int .i64 (gx rest j)) ∧ wr.frozen? ⟨g1, j, none⟩ = false := by
  have hl : rest.length = n := by have := h.rest.1; simpa using this
  exact ⟨by rw [h.rest.cellAt j (by omega), map_gx _ j (by omega)], h.rest.frozenAt j⟩
theorem Qst.cellOut (h : Qst w0 wr lo g1 c1 n g2 N v6 pl rest out) {j : Nat} (hj : j < N) : wr.cell? ⟨g2, j, none⟩ = some (.int .i64 (gx out j)) ∧ wr.frozen? ⟨g2, j, none⟩ = false := by
  have hl : out.length = N := by have := h.out.1; simpa using this
  exact ⟨by rw [h.out.cellAt j (by omega), map_gx _ j (by omega)], h.out.frozenAt j⟩
/-- A place. -/
theorem Qst.cellPl (h : Qst w0 wr lo g1 c1 n g2 N v6 pl rest out) {j : Nat} (hj : j < pl.length) : ∃ g c, v6 = .slice (some ⟨g, 0, none⟩) pl.length c ∧ wr.cell? ⟨g, j, none⟩ = some (.int .i64 ((pl[j]'hj : Nat) : Int)) := by
  obtain ⟨g, c, e⟩ := Go.Joins.ownsRow_form h.pl (by omega)
  have h2 := h.pl
  rw [e] at h2
  refine ⟨g, c, e, ?_⟩
  rw [h2.cellAt j (by omega)]
  simp [ixs, hj]
end
set_option maxRecDepth 8192 in
set_option maxHeartbeats 4000000 in
theorem quotientOf_any (B : Nat) (v v2 : Value) (xs ys : List Int) (w : World) (h : Is w B v xs) (h2 : Is w B v2 ys) (hB : B ≤ w.heap.size) (hp : isPoly xs = true) (hq : isPoly ys = true) :
    Calls Try.prog 38 #[v, v2] w (Li2 (quoP xs ys) w) := by
  have Hcy := Lib.hid (fun j => isPoly_gx hq j)
  have Hcx := Lib.hid (show ∀ j, isCoef (gx xs j) = true from fun j => isCoef_true.2 (isPoly_gx hp j))
  have Hp := Lib.hid h
  obtain ⟨A, n, c, rfl, hnc, hcm, hrd⟩ := h
  obtain ⟨A2, m, c2, rfl, hmc, hcm2, hrd2⟩ := h2
  have Hlen := Lib.hid hrd.len
  have Hlen2 := Lib.hid hrd2.len
  have hn' : n ≤ 2001 := by rw [← hrd.len]; exact (isPoly_true.1 hp).1
  have hm' : m ≤ 2001 := by rw [← hrd2.len]; exact (isPoly_true.1 hq).1
  have Hlast := Lib.hid (isPoly_true.1 hq).2.1
  unfold maxLen at hcm hcm2
  clear hp hq hrd
  by_cases hm0 : m = 0
  · have he : ((m : Int) == 0) = true := by simp; omega
    have Hr := Lib.hid (show quoP xs ys = ([], 5) by unfold quoP; rw [if_pos (by rw [Hlen2.out]; exact hm0)])
    clear hm0
    go_enter Try.func38, Try.ntmps38
    go_wp2
    go_ret2
    exact Li2.nil Hr.out (Below.refl _ _)
  · have he : ((m : Int) == 0) = false := by simp; omega
    by_cases hn0 : n = 0
    · have he2 : ((n : Int) == 0) = true := by simp; omega
      have hg : ¬ (0 : Int) < (n : Int) := by omega
      have Hr := Lib.hid (show quoP xs ys = ([], 0) by unfold quoP; rw [if_neg (by rw [Hlen2.out]; exact hm0), if_pos (by rw [Hlen.out]; exact hn0)])
      have hown0 : (w.alloc (.cells #[] 2)).ownsRow w.heap.size 2 1 (.slice (some ⟨w.heap.size, 0, none⟩) 0 0) 0 (([] : List Int).map (Value.int .i64)) := World.ownsRow_lit w #[] 0 (Nat.le_refl _) (by decide) rfl
      clear hm0 hn0
      go_enter Try.func38, Try.ntmps38
      go_wp2
      go_ret2
      exact ⟨_, by rw [Hr.out]; rfl, by rw [Hr.out]; exact Ow.of_own hown0, (Below.refl _ _).alloc (Nat.le_refl _) _⟩
    · have he2 : ((n : Int) == 0) = false := by simp; omega
      have hg : (0 : Int) < (n : Int) := by omega
      by_cases hnm : n < m
      · have hnm2 : (n : Int) < (m : Int) := by omega
        have Hr := Lib.hid (show quoP xs ys = ([], 5) by unfold quoP; rw [if_neg (by rw [Hlen2.out]; exact hm0), if_neg (by rw [Hlen.out]; exact hn0), if_pos (by rw [Hlen.out, Hlen2.out]; exact hnm)])
        clear hm0 hn0
        go_enter Try.func38, Try.ntmps38
        go_wp2
        go_ret2
        exact Li2.nil Hr.out (Below.refl _ _)
      · have hnm2 : ¬ (n : Int) < (m : Int) := by omega
        obtain ⟨N, hN⟩ : ∃ N, N = n - m + 1 := ⟨_, rfl⟩
        have HN := Lib.hid (show (n : Int) - (m : Int) + 1 = (N : Int) by omega)
        have Hr := Lib.hid (show quoP xs ys = dvOut ys N xs (List.replicate N 0) by
          unfold quoP; rw [if_neg (by rw [Hlen2.out]; exact hm0), if_neg (by rw [Hlen.out]; exact hn0), if_neg (by rw [Hlen.out, Hlen2.out]; exact hnm), Hlen.out, Hlen2.out, ← hN])
        have hN' : N ≤ 2001 := by omega
        have hNn : N + m = n + 1 := by omega
        have HNn := Lib.hid hNn
        have hm1 : 1 ≤ m := by omega
        have hN1 : 1 ≤ N := by omega
        have hl0 : ¬ gx ys (m - 1) = 0 := by
          rcases Hlast.out with e | e
          · rw [Hlen2.out] at e; omega
          · rw [Hlen2.out] at e; exact e
        obtain ⟨ad, rfl, hab, hc⟩ := hrd2.pos (by omega)
        have Hc := Lib.hid hc
        have hown0 : (w.alloc (.cells #[] 3)).ownsRow w.heap.size 3 1 (.slice (some ⟨w.heap.size, 0, none⟩) 0 0) 0 (ixs []) := World.ownsRow_lit w #[] 0 (Nat.le_refl _) (by decide) rfl
        have hbe0 : Below w.heap.size w (w.alloc (.cells #[] 3)) := (Below.refl _ _).alloc (Nat.le_refl _) _
        clear hm0 hn0 hnm hN hNn hrd2 hc
        go_enter Try.func38, Try.ntmps38
        go_wp2
        go_loopw [6, 41] (fun u i wr => ∃ (A : Option Addr) (c l j : Nat), u = .slice A l c ∧ l ≤ c ∧ c ≤ 9223372036854775807 ∧ j ≤ m ∧ i = .int .i64 j ∧ l ≤ j ∧ Hid (l = (plc ys 0 j).length) ∧ Hid (wr.ownsRow w.heap.size 3 1 (.slice A l c) l (ixs (plc ys 0 j))) ∧ Below w.heap.size w wr) (fun _ i _ => m - (intOf i).toNat)
        case atStart => exact ⟨_, 0, 0, 0, rfl, by omega, by omega, by omega, rfl, by omega, Lib.hid rfl, Lib.hid hown0, hbe0⟩
        case round =>
          clear hown0 hbe0
          obtain ⟨A6, c6, l, j, rfl, hlc, hc6, hjm, rfl, hlj, hl, hown, hbe⟩ := hrel
          by_cases hlt : j < m
          · have hc1 : wr.cell? (ad.add j) = some (.int .i64 (gx ys j)) := ((hbe.mono hB).cell (by rw [block_of_add]; omega)).trans (Hc.out j hlt)
            have hsz := hbe.size
            by_cases hz : gx ys j = 0
            · have hze : (gx ys j != 0) = false := by simp [hz]
              have Hpl := Lib.hid (plc_step_zero hz)
              clear hz
              go_wp2
              go_roundw
              case rel => exact ⟨A6, c6, l, j + 1, rfl, hlc, hc6, by omega, by go_num, by omega, Lib.hid (by rw [Hpl.out]; exact hl.out), Lib.hid (by rw [Hpl.out]; exact hown.out), hbe⟩
              case measure => first | (simp [intOf]; done) | (simp [intOf]; omega)
            · have hze : (gx ys j != 0) = true := by simp [hz]
              have Hpl := Lib.hid (plc_step hz)
              clear hz
              go_wp2_with (at_builtin; refine wp_append_ix rfl _ _ rfl w.heap.size _ l _ rfl (hown.out.alloc _) wr.heap.size (j : Int) 1 rfl (by simp) (by omega) (by simp; omega) ?_)
              intro v' w2 hown2 hgrow
              have hbe2 := below_append hbe hbe.size hown.out (Nat.le_refl _) hgrow
              obtain ⟨A', c', rfl, hlc', hcm'⟩ := own_shape hown2
              have Hown2 := Lib.hid hown2
              clear hown2 hgrow hown
              go_wp2
              go_roundw
              case rel => exact ⟨A', c', l + 1, j + 1, rfl, hlc', hcm', by omega, by go_num, by omega, Lib.hid (by rw [Hpl.out, List.length_append, ← hl.out]; rfl), Lib.hid (by rw [Hpl.out, ixs_snoc]; exact Hown2.out), hbe2⟩
              case measure => first | (simp [intOf]; done) | (simp [intOf]; omega)
          · obtain rfl : j = m := by omega
            obtain ⟨pl, Hpl⟩ : ∃ pl, Hid (plc ys 0 j = pl) := ⟨_, Lib.hid rfl⟩
            have hl2 : Hid (l = pl.length) := Lib.hid (by rw [← Hpl.out]; exact hl.out)
            have Hown6 : Hid (wr.ownsRow w.heap.size 3 1 (.slice A6 l c6) pl.length (ixs pl)) := Lib.hid (by rw [← Hpl.out, ← hl.out]; exact hown.out)
            have hs0 := hbe.size
            obtain ⟨i0, hi, hz0, hz1, hz2⟩ := info_parts info64
            have Hi := Lib.hid hi; have Hz0 := Lib.hid hz0; have Hz1 := Lib.hid hz1; have Hz2 := Lib.hid hz2
            clear hi hz0 hz1 hz2 hown hl he he2 hg hnm2
            go_wp2_with fail
            refine (Clone_any B _ xs _ (Hp.out.below (hbe.mono hB)) (Nat.le_trans hB hs0) (by rw [Hlen.out]; omega)).mono ?_
            rintro e w1 ⟨v9, rfl, own9, hb9⟩
            obtain ⟨g1, c1, rfl⟩ := Go.Joins.ownsRow_form own9.1 (by rw [Hlen.out]; omega)
            have hg1 := own9.1.lt g1 rfl
            have Hown9 := Lib.hid own9.1
            rw [Hlen.out] at Hown9 ⊢
            have hs9 := hb9.size
            have Hb9 := Lib.hid hb9
            clear own9 hb9
            go_wp2_with (at_make; refine wpList_make_full _ rfl _ _ 24 rfl w1.heap.size 2 i0 (.int .i64 0) 1 Try.underlying24 Hi.out Hz0.out Hz1.out _ _ _ _ N rfl rfl HN.out HN.out ?mkb ?mkc ?mkd ?_)
            case mkb => rw [Hz2.out]; omega
            case mkc => unfold maxLen; omega
            try (case mkd => simp)
            intro w3 hown hgrow
            have hb3 : Below w1.heap.size w1 w3 := (Below.refl _ _).grown hgrow (Nat.le_refl _) (by simp)
            have Q0 := Lib.hid (show Qst w w3 w.heap.size g1 c1 n w1.heap.size N (.slice A6 l c6) pl xs (List.replicate N 0) from {
              pl := own_later (own_later Hown6.out Hb9.out) hb3
              rest := own_base (own_later Hown9.out hb3) hs0
              out := by
                rw [List.map_replicate]
                have e : (madeCells (Value.int IntKind.i64 0).cells (N * 1)).toList = List.replicate N (Value.int .i64 0) := by
                  rw [Nat.mul_one]; exact toList_madeCells_one _ N
                refine own_base (base := w1.heap.size) ?_ (by omega)
                rw [← e, Nat.mul_one]; exact hown
              ne1 := fun e => by have := (Hown6.out.lt g1 e).2; omega
              ne2 := fun e => by have := (Hown6.out.lt _ e).2; omega
              ne3 := by omega
              be := (hbe.trans (Hb9.out.mono hs0)).trans (hb3.mono (by omega)) })
            have hcl : w3.cell? (ad.add (j - 1)) = some (.int .i64 (gx ys (j - 1))) := ((Q0.out.be.mono hB).cell (by rw [block_of_add]; omega)).trans (Hc.out (j - 1) (by omega))
            have hil : 0 ≤ (j : Int) - 1 ∧ (j : Int) - 1 < (j : Int) := by omega
            generalize hg2 : w1.heap.size = g2 at *
            clear hown hgrow hb3 Hown9 Hb9 Hown6 hbe hs0 hs9 hg1 hg2
            go_wp2
            go_loopw [12] (fun i wr => ∃ (z : Int) (k : Nat) (rest out : List Int), i = .int .i64 z ∧ Hid (z + 1 = k) ∧ k ≤ N ∧ Hid (Qst w wr w.heap.size g1 c1 n g2 N (.slice A6 l c6) pl rest out) ∧ Hid (dvOut ys k rest out = quoP xs ys) ∧ Hid (∀ j, isCoef (gx rest j) = true)) (fun i _ => (intOf i + 1).toNat)
            case atStart => exact ⟨_, N, xs, _, rfl, Lib.hid (by omega), Nat.le_refl _, Q0, Lib.hid Hr.out.symm, Hcx⟩
            case round =>
              clear Q0 hcl hil
              obtain ⟨z, k, rest, out, rfl, hz, hk, hQ, hd, hco⟩ := hrel
              by_cases hk0 : 0 < k
              · obtain ⟨k', rfl⟩ : ∃ k', k = k' + 1 := ⟨k - 1, by omega⟩
                obtain rfl : z = (k' : Int) := by have := hz.out; omega
                obtain ⟨cc, Hcc⟩ : ∃ cc, Hid (gx rest (k' + (ys.length - 1)) = cc) := ⟨_, Lib.hid rfl⟩
                obtain ⟨la, Hla⟩ : ∃ la, Hid (gx ys (j - 1) = la) := ⟨_, Lib.hid rfl⟩
                have Hla2 := Lib.hid (show gx ys (ys.length - 1) = la by rw [Hlen2.out]; exact Hla.out)
                have hbc : -1000000000000 ≤ cc ∧ cc ≤ 1000000000000 := by rw [← Hcc.out]; exact isCoef_true.1 (hco.out _)
                have hkn : k' + j - 1 < n := by have := HNn.out; omega
                have hcr : wr.cell? ⟨g1, k' + j - 1, none⟩ = some (.int .i64 cc) := by
                  rw [← Hcc.out, Hlen2.out, show k' + (j - 1) = k' + j - 1 by omega]; exact (hQ.out.cellRest hkn).1
                have hikj : 0 ≤ (k' : Int) + (j : Int) - 1 ∧ (k' : Int) + (j : Int) - 1 < (n : Int) := by omega
                rw [Hla.out] at hl0 ⊢
                by_cases hodd : cc.tmod la = 0
                · have hre : (cc.tmod la != 0) = false := by simp [hodd]
                  obtain ⟨t, Ht⟩ : ∃ t, Hid (cc.tdiv la = t) := ⟨_, Lib.hid rfl⟩
                  have htb := tdiv_coef cc la hbc
                  have hko : 0 ≤ (k' : Int) ∧ (k' : Int) < (N : Int) := by omega
                  obtain ⟨hoc, hof⟩ := hQ.out.cellOut (j := k') (by omega)
                  have Q1 := Lib.hid (hQ.out.setOut k' (cc.tdiv la))
                  by_cases h0 : cc.tdiv la = 0
                  · have hte : (cc.tdiv la == 0) = true := by simp [h0]
                    have Hd := Lib.hid (show dvOut ys k' rest (out.set k' (cc.tdiv la)) = quoP xs ys by
                      rw [← hd.out, dvOut_skip (by rw [Hcc.out, Hla2.out]; exact hodd) (by rw [Hcc.out, Hla2.out]; exact h0), h0])
                    clear h0 hodd hd hQ
                    go_wp2
                    go_roundw
                    case rel => exact ⟨_, k', rest, _, rfl, Lib.hid (by omega), by omega, Q1, Hd, hco⟩
                    case measure => first | (simp [intOf]; done) | (simp [intOf]; omega)
                  · have hte : (cc.tdiv la == 0) = false := by simp [h0]
                    have Hd := Lib.hid (show dvThen ys k' (out.set k' (cc.tdiv la)) (dvPl (cc.tdiv la) k' ys (pl.drop 0) rest) = quoP xs ys by
                      rw [← hd.out, dvOut_go (cc.tdiv la) (by rw [Hcc.out, Hla2.out]) (by rw [Hcc.out, Hla2.out]; exact hodd) h0, dvIn_pl, Hlen2.out, Hpl.out, List.drop_zero])
                    obtain ⟨out', Hout'⟩ : ∃ o, Hid (out.set k' (cc.tdiv la) = o) := ⟨_, Lib.hid rfl⟩
                    rw [Hout'.out] at Q1 Hd
                    clear h0 hodd hd hQ
                    go_wp2
                    go_loopw [98] (fun i wr => ∃ (q : Nat) (rest : List Int), q ≤ l ∧ i = .int .i64 q ∧ Hid (Qst w wr w.heap.size g1 c1 n g2 N (.slice A6 l c6) pl rest out') ∧ Hid (dvThen ys k' out' (dvPl (cc.tdiv la) k' ys (pl.drop q) rest) = quoP xs ys) ∧ Hid (∀ j, isCoef (gx rest j) = true)) (fun i _ => l - (intOf i).toNat)
                    case atStart => exact ⟨0, rest, Nat.zero_le _, rfl, Q1, Hd, hco⟩
                    case round =>
                      clear Q1 Hd hco hcr hoc hof
                      obtain ⟨q, rest, hql, rfl, hQ, hd, hco⟩ := hrel
                      by_cases hlt2 : q < l
                      · have hq2 : q < pl.length := by rw [← hl2.out]; exact hlt2
                        obtain ⟨g6, c6', e6, hc6⟩ := hQ.out.cellPl (j := q) hq2
                        rw [← hl2.out] at e6
                        obtain ⟨pp, Hpp⟩ : ∃ pp, Hid (pl[q] = pp) := ⟨_, Lib.hid rfl⟩
                        rw [Hpp.out] at hc6
                        have hpm := plc_mem (q := ys) (r := j) (j := pp) (by rw [Hpl.out, ← Hpp.out]; exact List.getElem_mem _)
                        have hpj := hpm.1
                        have Hdr := Lib.hid (show pl.drop q = pp :: pl.drop (q + 1) by rw [List.drop_eq_getElem_cons hq2, Hpp.out])
                        cases e6
                        have hcp : wr.cell? (ad.add pp) = some (.int .i64 (gx ys pp)) := ((hQ.out.be.mono hB).cell (by rw [block_of_add]; omega)).trans (Hc.out pp hpj)
                        have hkp : k' + pp < n := by have := HNn.out; omega
                        obtain ⟨hcr2, hfr2⟩ := hQ.out.cellRest hkp
                        have hikp : 0 ≤ (k' : Int) + (pp : Int) ∧ (k' : Int) + (pp : Int) < (n : Int) := by omega
                        have hipj : 0 ≤ (pp : Int) ∧ (pp : Int) < (j : Int) := by omega
                        have hbo := isCoef_true.1 (hco.out (k' + pp))
                        have hby := Hcy.out pp
                        have hbt : -1000000000000 ≤ -(cc.tdiv la) ∧ -(cc.tdiv la) ≤ 1000000000000 := by omega
                        cases hR : ppB (gx rest (k' + pp)) (-(cc.tdiv la)) (gx ys pp)
                        · have Hr2 := Lib.hid (show quoP xs ys = ([], 3) by rw [← hd.out, Hdr.out, dvPl_none rest hR]; rfl)
                          have Hbe := Lib.hid hQ.out.be
                          clear hd hco hQ hpm
                          go_wp2
                          go_quiet ((go_at_call 55; exact Calls.quiet_of_same ((plusProduct_any _ _ _ _ hbo hbt hby).mono fun _ _ h => ⟨h.1, h.2.symm⟩)))
                          rw [hR]
                          go_wp2
                          go_ret2
                          exact Li2.nil Hr2.out (below_drewN Hbe.out _)
                        · have Hd2 := Lib.hid (show dvThen ys k' out' (dvPl (cc.tdiv la) k' ys (pl.drop (q + 1)) (rest.set (k' + pp) (ppV (gx rest (k' + pp)) (-(cc.tdiv la)) (gx ys pp)))) = quoP xs ys by rw [← hd.out, Hdr.out, dvPl_some rest hR])
                          have Hco2 := Lib.hid (coef_set (q := k' + pp) hco.out (pp_coef (hco.out (k' + pp)) hR))
                          clear hd hco hpm
                          go_wp2
                          go_quiet ((go_at_call 55; exact Calls.quiet_of_same ((plusProduct_any _ _ _ _ hbo hbt hby).mono fun _ _ h => ⟨h.1, h.2.symm⟩)))
                          rw [hR]
                          go_wp2
                          go_roundw
                          case rel => exact ⟨q + 1, _, by omega, by go_num, Lib.hid ((hQ.out.drewN _).setRest _ _), Hd2, Hco2⟩
                          case measure => first | (simp [intOf]; done) | (simp [intOf]; omega)
                      · have Hd2 := Lib.hid (show dvOut ys k' rest out' = quoP xs ys by
                          rw [← hd.out, List.drop_eq_nil_of_le (by rw [← hl2.out]; omega)]; rfl)
                        clear hd
                        go_wp2
                        go_roundw
                        case rel => exact ⟨_, k', rest, _, rfl, Lib.hid (by omega), by omega, hQ, Hd2, hco⟩
                        case measure => first | (simp [intOf]; done) | (simp [intOf]; omega)
                · have hre : (cc.tmod la != 0) = true := by simp [hodd]
                  have Hr2 := Lib.hid (show quoP xs ys = ([], 5) by rw [← hd.out]; exact dvOut_odd (by rw [Hcc.out, Hla2.out]; exact hodd))
                  have Hbe := Lib.hid hQ.out.be
                  clear hodd hco hd
                  go_wp2
                  go_ret2
                  exact Li2.nil Hr2.out Hbe.out
              · obtain rfl : k = 0 := by omega
                obtain rfl : z = -1 := by have := hz.out; omega
                have Ho := Lib.hid (show Ow wr w.heap.size wr.heap.size (.slice (some ⟨g1, 0, none⟩) n c1) rest from Ow.of_own hQ.out.rest)
                have Hd := Lib.hid (show (if trimL rest = [] then (out, 0) else ([], 5)) = quoP xs ys by rw [← hd.out, dvOut])
                have Hbe := Lib.hid hQ.out.be
                go_wp2_with fail
                refine (trimmed_any _ _ _ _ _ Ho.out).mono ?_
                rintro e w' ⟨v', rfl, own', rfl⟩
                obtain ⟨A', c', rfl, _, _⟩ := own_shape own'.1
                obtain ⟨L, HL⟩ : ∃ L, Hid ((trimL rest).length = L) := ⟨_, Lib.hid rfl⟩
                rw [HL.out]
                clear own'
                by_cases hL : L = 0
                · have hL2 : ¬ (0 : Int) < (L : Int) := by omega
                  have Hr2 := Lib.hid (show quoP xs ys = (out, 0) by rw [← Hd.out, if_pos (List.eq_nil_of_length_eq_zero (by rw [HL.out]; exact hL))])
                  clear hL
                  go_wp2_with fail
                  go_ret2
                  exact ⟨_, by rw [Hr2.out]; rfl, by rw [Hr2.out]; exact Ow.of_own hQ.out.out, Hbe.out⟩
                · have hL2 : (0 : Int) < (L : Int) := by omega
                  have Hr2 := Lib.hid (show quoP xs ys = ([], 5) by
                    rw [← Hd.out, if_neg]; intro e; rw [e] at HL; exact hL (by have := HL.out; simpa using this.symm))
                  clear hL
                  go_wp2_with fail
                  go_ret2
                  exact Li2.nil Hr2.out Hbe.out
end WB
end Go.Proofs.Ytogkblncdpbhnaa
namespace Go.Proofs.Ytogkblncdpbhnaa
open Go.RowKit
set_option linter.unusedVariables false
namespace WB
open K Pl WA WL
end WB
end Go.Proofs.Ytogkblncdpbhnaa
namespace Go.Proofs.Ytogkblncdpbhnaa
open Go.RowKit
set_option linter.unusedVariables false
namespace WB
open K Pl WA WL
theorem own_of_heap {w w' : World} {base : Nat} {e : TypeId} {s n : Nat} {v : Value} {xs : List Value} (h : w.ownsRow base e s v n xs) (e1 : w'.heap = w.heap) : w'.ownsRow base e s v n xs := by
  unfold World.ownsRow at h ⊢
  rw [e1]; exact h
theorem Qst.of_heap {w wr wr' : World} {lo g1 c1 n g2 N : Nat} {v6 : Value} {pl : List Nat} {rest out : List Int} (h : Qst w wr lo g1 c1 n g2 N v6 pl rest out) (e1 : wr'.heap = wr.heap) (e2 : wr'.os = wr.os) (e3 : wr'.tape = wr.tape) (e4 : wr'.output = wr.output) : Qst w wr' lo g1 c1 n g2 N v6 pl rest out :=
  ⟨own_of_heap h.pl e1, own_of_heap h.rest e1, own_of_heap h.out e1, h.ne1, h.ne2, h.ne3, ⟨e2.trans h.be.os, e3.trans h.be.tape, e4.trans h.be.output, by rw [e1]; exact h.be.size, by rw [e1]; exact h.be.block⟩⟩
theorem made_own {w : World} {lo : Nat} (N : Nat) (hlo : lo ≤ w.heap.size) (hN : N ≤ 1000000000) : (w.alloc (.cells (madeCells #[Value.int .i64 0] N) 2)).ownsRow lo 2 1 (.slice (some ⟨w.heap.size, 0, none⟩) N N) N ((List.replicate N (0 : Int)).map (Value.int .i64)) := by
  have e := World.ownsRow_lit (base := lo) (e := 2) (size := 1) w (madeCells #[Value.int .i64 0] N) N hlo (by unfold maxLen; omega) (by rw [size_madeCells, Nat.mul_one])
  rw [toList_madeCells_one] at e
  rw [List.map_replicate]; exact e
theorem max_abs (t : Int) (ts : Array TypeId) (ty : TypeId) (W : World) : (Builtin.max_ ts ty #[.int .i64 t, .int .i64 (-t)]).run Try.prog W = .ok (.int .i64 (absI t)) W := by
  rw [run_max_int2, show (if -t > t then -t else t) = absI t by unfold absI; split <;> split <;> omega]
set_option maxRecDepth 8192 in
set_option maxHeartbeats 8000000 in
theorem l02Divide_run (B : Nat) (A : Option Addr) (n c m : Nat) (ad : Addr) (c2 : Nat) (xs ys : List Int) (w : World) (Hp : Hid (Is w B (.slice A n c) xs)) (Hlen : Hid (xs.length = n)) (Hlen2 : Hid (ys.length = m)) (hB : B ≤ w.heap.size) (hab : ad.block < B) (Hc : Hid (∀ j, j < m → w.cell? (ad.add j) = some (.int .i64 (gx ys j))))
    (Hcy : Hid (∀ j, -1000000000000 ≤ gx ys j ∧ gx ys j ≤ 1000000000000)) (Hcx : Hid (∀ j, isCoef (gx xs j) = true)) (hl0 : ¬ gx ys (m - 1) = 0)
    (hm1 : 1 ≤ m) (hn1 : 1 ≤ n) (hnm : ¬ (n : Int) < (m : Int)) (hn' : n ≤ 2001) (hnc : n ≤ c) (hcm : c ≤ 9223372036854775807) (hmc : m ≤ c2) (hcm2 : c2 ≤ 9223372036854775807) (N : Nat) (HN : Hid ((n : Int) - (m : Int) + 1 = (N : Int))) (hN' : N ≤ 2001) (HNn : Hid (N + m = n + 1)) (Hr : Hid (quoP xs ys = dvOut ys N xs (List.replicate N 0))) :
    Calls Try.prog 45 #[.slice A n c, .slice (some ad) m c2] w (Li2 (quoP xs ys) w) := by
  have he : ((n : Int) == 0) = false := by simp; omega
  go_enter Try.func45, Try.ntmps45
  go_wp2
  go_cut [6, 7] (fun u v wr => ∃ g1 c1 g2 : Nat, u = .slice (some ⟨g1, 0, none⟩) n c1 ∧ v = .slice (some ⟨g2, 0, none⟩) N N ∧ Hid (Qst w wr w.heap.size g1 c1 n g2 N (.slice none 0 0) [] xs (List.replicate N 0)))
  case first =>
    have hmk := fun W : World => run_make_row' (P := Try.prog) 24 2 (.int .i64 0) 8 Try.underlying24 info64 rfl .i64 .i64 N (by omega) (by omega) W
    have hown := fun (W : World) (hW : Is W B (.slice A n c) xs) (hBW : B ≤ W.heap.size) => l01Own_any B (.slice A n c) xs W hW hBW (by rw [Hlen.out]; omega)
    have HN2 : IntKind.i64.wrap ((n : Int) - (m : Int)) = (N : Int) - 1 := by rw [show (n : Int) - (m : Int) = (N : Int) - 1 by have := HN.out; omega]; exact IntWalk.i64_in _ (by omega)
    have HN3 : IntKind.i64.wrap ((N : Int) - 1 + 1) = (N : Int) := by rw [show (N : Int) - 1 + 1 = (N : Int) by omega]; exact IntWalk.i64_in _ (by omega)
    have HN4 : IntKind.i64.wrap (N : Int) = (N : Int) := IntWalk.i64_in _ (by omega)
    have hal : ∀ o, Below w.heap.size w (w.alloc o) := fun o => (Below.refl _ _).alloc (Nat.le_refl _) o
    go_region_held3 (fun W => Below w.heap.size w W) (first | exact (Below.refl _ _).drew | exact (hal _).drew | exact (Below.drew (Below.refl _ _)).alloc (Nat.le_refl _) _ | exact qq.alloc qq.size _ | exact (qq.alloc qq.size _).drew | assumption) (first | (go_at_call 49; refine (hown _ (Hp.out.below (Below.mono ‹Below w.heap.size w _› hB)) (Nat.le_trans hB (Below.size ‹Below w.heap.size w _›))).mono ?_; rintro e w1 ⟨v1, rfl, own1, hb1⟩; have qq : Below w.heap.size w w1 := Below.trans ‹Below w.heap.size w _› (hb1.mono (Below.size ‹Below w.heap.size w _›))))
    all_goals
      have hs1 := qq.size
      obtain ⟨g1, c1, rfl⟩ := Go.Joins.ownsRow_form own1.1 (by rw [Hlen.out]; omega)
      have hg1 := own1.1.lt g1 rfl
      have Ho := Lib.hid own1
      have Hb := Lib.hid hb1
      have Hq := Lib.hid qq
      rw [Hlen.out] at Ho ⊢
      clear own1 hb1 qq hmk hown hal HN2 HN3 HN4
      go_wp2_with fail
      go_meet
    · have hr := Ho.out.1
      rw [Hlen.out] at hr
      exact ⟨g1, c1, w1.heap.size, rfl, rfl, Lib.hid {
        pl := World.ownsRow_nil _ _ _ _
        rest := own_later hr ((Below.refl _ _).alloc (Nat.le_refl _) _)
        out := made_own N hs1 (by omega)
        ne1 := by simp [Value.ownBlock]
        ne2 := by simp [Value.ownBlock]
        ne3 := by have := hg1.2; omega
        be := Hq.out.alloc hs1 _ }⟩
    · have hr := Ho.out.1
      rw [Hlen.out] at hr
      have hgb : w.heap.size + 1 ≤ g1 := by have := hg1.1; simp at this; omega
      exact ⟨g1, c1, w.heap.size, rfl, rfl, Lib.hid {
        pl := World.ownsRow_nil _ _ _ _
        rest := own_base hr (by simp)
        out := own_later (own_of_heap (w' := (w.alloc (.cells (madeCells #[Value.int .i64 0] N) 2)).drew) (made_own (w := w) N (Nat.le_refl _) (by omega)) rfl) Hb.out
        ne1 := by simp [Value.ownBlock]
        ne2 := by simp [Value.ownBlock]
        ne3 := by omega
        be := Hq.out }⟩
  case rest =>
    obtain ⟨g1, c1, g2, rfl, rfl, Q0⟩ := hcut
    have hcl : wc.cell? (ad.add (m - 1)) = some (.int .i64 (gx ys (m - 1))) := ((Q0.out.be.mono hB).cell (by rw [block_of_add]; omega)).trans (Hc.out (m - 1) (by omega))
    have hil : 0 ≤ (m : Int) - 1 ∧ (m : Int) - 1 < (m : Int) := by omega
    go_wp2
    go_loopw [9] (fun i wr => ∃ (z : Int) (k : Nat) (rest out : List Int), i = .int .i64 z ∧ Hid (z + 1 = k) ∧ k ≤ N ∧ Hid (Qst w wr w.heap.size g1 c1 n g2 N (.slice none 0 0) [] rest out) ∧ Hid (dvOut ys k rest out = quoP xs ys) ∧ Hid (∀ j, isCoef (gx rest j) = true)) (fun i _ => (intOf i + 1).toNat)
    case atStart => exact ⟨_, N, xs, _, rfl, Lib.hid (by omega), Nat.le_refl _, Q0, Lib.hid Hr.out.symm, Hcx⟩
    case round =>
      clear Q0 hcl hil
      obtain ⟨z, k, rest, out, rfl, hz, hk, hQ, hd, hco⟩ := hrel
      by_cases hk0 : 0 < k
      · obtain ⟨k', rfl⟩ : ∃ k', k = k' + 1 := ⟨k - 1, by omega⟩
        obtain rfl : z = (k' : Int) := by have := hz.out; omega
        obtain ⟨cc, Hcc⟩ : ∃ cc, Hid (gx rest (k' + (ys.length - 1)) = cc) := ⟨_, Lib.hid rfl⟩
        obtain ⟨la, Hla⟩ : ∃ la, Hid (gx ys (m - 1) = la) := ⟨_, Lib.hid rfl⟩
        have Hla2 := Lib.hid (show gx ys (ys.length - 1) = la by rw [Hlen2.out]; exact Hla.out)
        have hbc : -1000000000000 ≤ cc ∧ cc ≤ 1000000000000 := by rw [← Hcc.out]; exact isCoef_true.1 (hco.out _)
        have hkn : k' + m - 1 < n := by have := HNn.out; omega
        have hcr : wr.cell? ⟨g1, k' + m - 1, none⟩ = some (.int .i64 cc) := by
          rw [← Hcc.out, Hlen2.out, show k' + (m - 1) = k' + m - 1 by omega]; exact (hQ.out.cellRest hkn).1
        have hikj : 0 ≤ (k' : Int) + (m : Int) - 1 ∧ (k' : Int) + (m : Int) - 1 < (n : Int) := by omega
        rw [Hla.out] at hl0 ⊢
        by_cases hodd : cc.tmod la = 0
        · have hre : (cc.tmod la != 0) = false := by simp [hodd]
          have htb := tdiv_coef cc la hbc
          have hko : 0 ≤ (k' : Int) ∧ (k' : Int) < (N : Int) := by omega
          obtain ⟨hoc, hof⟩ := hQ.out.cellOut (j := k') (by omega)
          have Q1 := Lib.hid (hQ.out.setOut k' (cc.tdiv la))
          have hlo : k' < out.length := by have h := hQ.out.out.1; simp at h; omega
          by_cases h0 : cc.tdiv la = 0
          · have hte : (cc.tdiv la != 0) = false := by simp [h0]
            have Hd := Lib.hid (show dvOut ys k' rest (out.set k' (cc.tdiv la)) = quoP xs ys by
              rw [← hd.out, dvOut_skip (by rw [Hcc.out, Hla2.out]; exact hodd) (by rw [Hcc.out, Hla2.out]; exact h0), h0])
            have hm2 : (0 : Int) < (m : Int) := by omega
            clear h0 hodd hd hQ
            go_wp2
            refine wp_loop_rounds 1 ?_
            rw [rounds_succ]
            go_wp2
            go_roundw
            case rel => exact ⟨_, k', rest, _, rfl, Lib.hid (by omega), by omega, Q1, Hd, hco⟩
            case measure => first | (simp [intOf]; done) | (simp [intOf]; omega)
          · have hte : (cc.tdiv la != 0) = true := by simp [h0]
            obtain ⟨t, Ht⟩ : ∃ t, Hid (cc.tdiv la = t) := ⟨_, Lib.hid rfl⟩
            have Hd := Lib.hid (show dvThen ys k' (out.set k' t) (dvIn t k' ys m 0 rest) = quoP xs ys by
              rw [← hd.out, dvOut_go t (by rw [Hcc.out, Hla2.out]; exact Ht.out) (by rw [Hcc.out, Hla2.out]; exact hodd) (by rw [← Ht.out]; exact h0), Hlen2.out])
            have Hgo := Lib.hid (show gx (out.set k' t) k' = t by rw [gx_eq _ _ (by simpa using hlo)]; simp)
            obtain ⟨out', Hout'⟩ : ∃ o, Hid (out.set k' t = o) := ⟨_, Lib.hid rfl⟩
            have Hol := Lib.hid (show out'.length = N by rw [← Hout'.out]; have h := hQ.out.out.1; simp at h; simpa using h)
            have htb2 := htb
            rw [Ht.out] at Q1 htb hte
            rw [Hout'.out] at Q1 Hd Hgo
            clear h0 hodd hd hQ hlo
            go_wp2
            rw [Ht.out]
            clear htb2
            go_loopw [11] (fun i wr => ∃ (q s : Nat) (rest : List Int), q ≤ m ∧ i = .int .i64 q ∧ Hid (q + s = m) ∧ Hid (Qst w wr w.heap.size g1 c1 n g2 N (.slice none 0 0) [] rest out') ∧ Hid (dvThen ys k' out' (dvIn t k' ys s q rest) = quoP xs ys) ∧ Hid (∀ j, isCoef (gx rest j) = true)) (fun i _ => m - (intOf i).toNat)
            case atStart => exact ⟨0, m, rest, Nat.zero_le _, rfl, Lib.hid (by omega), Q1, Hd, hco⟩
            case round =>
              clear Q1 Hd hco hcr hoc hof
              obtain ⟨q, s, rest, hqm, rfl, hqs, hQ, hd, hco⟩ := hrel
              by_cases hlt : q < m
              · obtain ⟨s', rfl⟩ : ∃ s', s = s' + 1 := ⟨s - 1, by have := hqs.out; omega⟩
                have hct : wr.cell? ⟨g2, k', none⟩ = some (.int .i64 t) := by rw [(hQ.out.cellOut (j := k') (by omega)).1, Hgo.out]
                have hcp : wr.cell? (ad.add q) = some (.int .i64 (gx ys q)) := ((hQ.out.be.mono hB).cell (by rw [block_of_add]; omega)).trans (Hc.out q hlt)
                have hkp : k' + q < n := by have := HNn.out; omega
                obtain ⟨hcr2, hfr2⟩ := hQ.out.cellRest hkp
                have hikp : 0 ≤ (k' : Int) + (q : Int) ∧ (k' : Int) + (q : Int) < (n : Int) := by omega
                have hiq : 0 ≤ (q : Int) ∧ (q : Int) < (m : Int) := by omega
                have hbo := isCoef_true.1 (hco.out (k' + q))
                have hby := Hcy.out q
                have hta := absI_bd t (by omega) (by omega)
                have hya := absI_bd (gx ys q) (by omega) (by omega)
                have hmx1 := max_abs t
                have hmx2 := max_abs (gx ys q)
                have Hneg := Lib.hid (show gx rest (k' + q) + -t * gx ys q = gx rest (k' + q) - t * gx ys q by rw [Int.neg_mul]; omega)
                have Habs := Lib.hid (show absI (-t) = absI t by unfold absI; split <;> split <;> omega)
                by_cases hy0 : gx ys q = 0
                · have hb0 : decide (0 < absI (gx ys q)) = false := by rw [hy0]; rfl
                  have hpz := pp_zero (s := gx rest (k' + q)) (a := -t) (b := gx ys q) (.inr hy0)
                  have hprod : t * gx ys q = 0 := by rw [hy0]; omega
                  have hR' : inR (gx rest (k' + q)) (-1000000000000) 1000000000000 = true := hco.out (k' + q)
                  have Hd2 := Lib.hid (show dvThen ys k' out' (dvIn t k' ys s' (q + 1) (rest.set (k' + q) (gx rest (k' + q)))) = quoP xs ys by rw [← hd.out, dvIn_some s' rest hpz.1, hpz.2])
                  have Hq2 := Lib.hid (hQ.out.setRest (k' + q) (gx rest (k' + q)))
                  have Hco2 := Lib.hid (coef_set (q := k' + q) hco.out (hco.out (k' + q)))
                  clear hpz hd hco hy0
                  go_wp2
                  go_quiet (fail)
                  go_wp2
                  go_region
                  go_wp2_with (go_at_call 36; refine (l01In_any _ _ _ _).mono ?_; rintro e w' ⟨rfl, rfl⟩)
                  go_roundw
                  case rel => exact ⟨q + 1, s', _, by omega, by go_num, Lib.hid (by have := hqs.out; omega), Lib.hid (Hq2.out.of_heap rfl rfl rfl rfl), Hd2, Hco2⟩
                  case measure => first | (simp [intOf]; done) | (simp [intOf]; omega)
                · have hb0 : 0 < absI (gx ys q) := by have := absI_ge_one hy0; omega
                  by_cases hbig : 2000000000000 / absI (gx ys q) < absI t
                  · have hR := pp_spec_big (s := gx rest (k' + q)) (a := -t) (b := gx ys q) hy0 (by rw [Habs.out]; exact hbig)
                    have Hr2 := Lib.hid (show quoP xs ys = ([], 3) by rw [← hd.out, dvIn_none s' rest hR]; rfl)
                    have Hbe := Lib.hid hQ.out.be
                    clear hd hco hQ hR hy0
                    go_wp2
                    go_quiet (fail)
                    go_wp2
                    go_ret2
                    exact Li2.nil Hr2.out (below_drewN Hbe.out _)
                  · have hpp := pp_spec (s := gx rest (k' + q)) (a := -t) (b := gx ys q) hy0 (hco.out (k' + q)) (by rw [Habs.out]; exact hbig)
                    rw [Hneg.out] at hpp
                    have hms := mul_small (a := t) hy0 hbig
                    have Hq2 := Lib.hid (hQ.out.setRest (k' + q) (gx rest (k' + q) - t * gx ys q))
                    cases hR : isCoef (gx rest (k' + q) - t * gx ys q)
                    · have Hr2 := Lib.hid (show quoP xs ys = ([], 3) by rw [← hd.out, dvIn_none s' rest (by rw [hpp.1]; exact hR)]; rfl)
                      have hR' : inR (gx rest (k' + q) - t * gx ys q) (-1000000000000) 1000000000000 = false := hR
                      clear hpp hR hd hco hy0
                      go_wp2
                      go_quiet (fail)
                      go_wp2
                      go_region
                      go_wp2_with (go_at_call 36; refine (l01In_any _ _ _ _).mono ?_; rintro e w' ⟨rfl, rfl⟩)
                      go_ret2
                      exact Li2.nil Hr2.out ⟨Hq2.out.be.os, Hq2.out.be.tape, Hq2.out.be.output, Hq2.out.be.size, Hq2.out.be.block⟩
                    · have Hd2 := Lib.hid (show dvThen ys k' out' (dvIn t k' ys s' (q + 1) (rest.set (k' + q) (gx rest (k' + q) - t * gx ys q))) = quoP xs ys by rw [← hd.out, dvIn_some s' rest (by rw [hpp.1]; exact hR), hpp.2])
                      have hR' : inR (gx rest (k' + q) - t * gx ys q) (-1000000000000) 1000000000000 = true := hR
                      have Hco2 := Lib.hid (coef_set (q := k' + q) hco.out hR)
                      clear hpp hR hd hco hy0
                      go_wp2
                      go_quiet (fail)
                      go_wp2
                      go_region
                      go_wp2_with (go_at_call 36; refine (l01In_any _ _ _ _).mono ?_; rintro e w' ⟨rfl, rfl⟩)
                      go_roundw
                      case rel => exact ⟨q + 1, s', _, by omega, by go_num, Lib.hid (by have := hqs.out; omega), Lib.hid (Hq2.out.of_heap rfl rfl rfl rfl), Hd2, Hco2⟩
                      case measure => first | (simp [intOf]; done) | (simp [intOf]; omega)
              · obtain rfl : s = 0 := by have := hqs.out; omega
                have Hd2 := Lib.hid (show dvOut ys k' rest out' = quoP xs ys by rw [← hd.out]; rfl)
                clear hd
                go_wp2
                go_roundw
                case rel => exact ⟨_, k', rest, _, rfl, Lib.hid (by omega), by omega, hQ, Hd2, hco⟩
                case measure => first | (simp [intOf]; done) | (simp [intOf]; omega)
        · have hre : (cc.tmod la != 0) = true := by simp [hodd]
          have Hr2 := Lib.hid (show quoP xs ys = ([], 5) by rw [← hd.out]; exact dvOut_odd (by rw [Hcc.out, Hla2.out]; exact hodd))
          have Hbe := Lib.hid hQ.out.be
          clear hodd hco hd
          go_wp2
          go_ret2
          exact Li2.nil Hr2.out Hbe.out
      · obtain rfl : k = 0 := by omega
        obtain rfl : z = -1 := by have := hz.out; omega
        have Hd := Lib.hid (show (if trimL rest = [] then (out, 0) else ([], 5)) = quoP xs ys by rw [← hd.out, dvOut])
        have Hrl := Lib.hid (show rest.length = n by have h := hQ.out.rest.1; simpa using h)
        clear hd hco
        go_wp2
        go_loop [14] (fun i => ∃ q : Nat, q ≤ n ∧ i = .int .i64 q ∧ Hid (∀ j, j < q → gx rest j = 0)) (fun i => n - (intOf i).toNat)
        case atStart => exact ⟨0, Nat.zero_le _, rfl, Lib.hid (fun j hj => by omega)⟩
        case round =>
          obtain ⟨q, hqn, rfl, hpre⟩ := hrel
          by_cases hlt : q < n
          · obtain ⟨hcr2, hfr2⟩ := hQ.out.cellRest hlt
            have hiq : 0 ≤ (q : Int) ∧ (q : Int) < (n : Int) := by omega
            by_cases h0 : gx rest q = 0
            · have hte : (gx rest q != 0) = false := by simp [h0]
              have Hpre2 := Lib.hid (show ∀ j, j < q + 1 → gx rest j = 0 from fun j hj => by
                rcases Nat.lt_or_ge j q with h1 | h1
                · exact hpre.out j h1
                · obtain rfl : j = q := by omega
                  exact h0)
              clear h0
              go_wp2
              go_round
              case rel => exact ⟨q + 1, by omega, by go_num, Hpre2⟩
              case measure => first | (simp [intOf]; done) | (simp [intOf]; omega)
            · have hte : (gx rest q != 0) = true := by simp [h0]
              have Hr2 := Lib.hid (show quoP xs ys = ([], 5) by
                rw [← Hd.out, if_neg]; intro e; exact h0 ((trimL_eq_nil rest).1 e q))
              have Hbe := Lib.hid hQ.out.be
              clear h0
              go_wp2
              go_ret2
              exact Li2.nil Hr2.out Hbe.out
          · obtain rfl : q = n := by omega
            have Hr2 := Lib.hid (show quoP xs ys = (out, 0) by
              rw [← Hd.out, if_pos]
              refine (trimL_eq_nil rest).2 fun j => ?_
              rcases Nat.lt_or_ge j q with h1 | h1
              · exact hpre.out j h1
              · exact gx_out rest j (by rw [Hrl.out]; exact h1))
            have Hbe := Lib.hid hQ.out.be
            go_wp2
            go_ret2
            exact ⟨_, by rw [Hr2.out]; rfl, by rw [Hr2.out]; exact Ow.of_own hQ.out.out, Hbe.out⟩
theorem l02Divide_any (B : Nat) (v v2 : Value) (xs ys : List Int) (w : World) (h : Is w B v xs) (h2 : Is w B v2 ys) (hB : B ≤ w.heap.size) (hp : isPoly xs = true) (hq : isPoly ys = true) (hm : 0 < ys.length) :
    Calls Try.prog 45 #[v, v2] w (Li2 (quoP xs ys) w) := by
  have Hcy := Lib.hid (fun j => isPoly_gx hq j)
  have Hcx := Lib.hid (show ∀ j, isCoef (gx xs j) = true from fun j => isCoef_true.2 (isPoly_gx hp j))
  have Hp := Lib.hid h
  obtain ⟨A, n, c, rfl, hnc, hcm, hrd⟩ := h
  obtain ⟨A2, m, c2, rfl, hmc, hcm2, hrd2⟩ := h2
  have Hlen := Lib.hid hrd.len
  have Hlen2 := Lib.hid hrd2.len
  have hn' : n ≤ 2001 := by rw [← hrd.len]; exact (isPoly_true.1 hp).1
  have hm' : m ≤ 2001 := by rw [← hrd2.len]; exact (isPoly_true.1 hq).1
  have Hlast := Lib.hid (isPoly_true.1 hq).2.1
  rw [Hlen2.out] at hm
  unfold maxLen at hcm hcm2
  obtain ⟨ad, rfl, hab, hc⟩ := hrd2.pos hm
  have Hc := Lib.hid hc
  clear hp hq hrd hrd2 hc
  by_cases hn0 : n = 0
  · have he2 : ((n : Int) == 0) = true := by simp; omega
    have Hr := Lib.hid (show quoP xs ys = ([], 0) by unfold quoP; rw [if_neg (by rw [Hlen2.out]; omega), if_pos (by rw [Hlen.out]; exact hn0)])
    have hown0 : (w.alloc (.cells #[] 2)).ownsRow w.heap.size 2 1 (.slice (some ⟨w.heap.size, 0, none⟩) 0 0) 0 (([] : List Int).map (Value.int .i64)) := World.ownsRow_lit w #[] 0 (Nat.le_refl _) (by decide) rfl
    clear hn0
    go_enter Try.func45, Try.ntmps45
    go_wp2
    go_ret2
    exact ⟨_, by rw [Hr.out]; rfl, by rw [Hr.out]; exact Ow.of_own hown0, (Below.refl _ _).alloc (Nat.le_refl _) _⟩
  · have he2 : ((n : Int) == 0) = false := by simp; omega
    by_cases hnm : n < m
    · have hnm2 : (n : Int) < (m : Int) := by omega
      have Hr := Lib.hid (show quoP xs ys = ([], 5) by unfold quoP; rw [if_neg (by rw [Hlen2.out]; omega), if_neg (by rw [Hlen.out]; exact hn0), if_pos (by rw [Hlen.out, Hlen2.out]; exact hnm)])
      clear hn0
      go_enter Try.func45, Try.ntmps45
      go_wp2
      go_ret2
      exact Li2.nil Hr.out (Below.refl _ _)
    · refine l02Divide_run B A n c m ad c2 xs ys w Hp Hlen Hlen2 hB hab Hc Hcy Hcx ?_ hm (by omega) (by omega) hn' hnc hcm hmc hcm2 (n - m + 1) (Lib.hid (by omega)) (by omega) (Lib.hid (by omega)) (Lib.hid ?_)
      · rcases Hlast.out with e | e
        · rw [Hlen2.out] at e; omega
        · rw [Hlen2.out] at e; exact e
      · unfold quoP; rw [if_neg (by rw [Hlen2.out]; omega), if_neg (by rw [Hlen.out]; exact hn0), if_neg (by rw [Hlen.out, Hlen2.out]; exact hnm), Hlen.out, Hlen2.out]
end WB
end Go.Proofs.Ytogkblncdpbhnaa
