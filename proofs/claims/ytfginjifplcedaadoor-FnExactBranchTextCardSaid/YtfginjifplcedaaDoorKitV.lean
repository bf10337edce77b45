/-
  WORDS FOR MEMORY: how an argument that is a branch, or a list of lists, opens.
-/
import Derived.Test.YtfginjifplcedaaDoorKitR
import Derived.Deep.Matrix
namespace Go.Proofs.YtfginjifplcedaaDoor
open Go.RowKit Go.ChangeShapes Go.WideShapes Go.Joins Go.Deep
set_option linter.unusedVariables false
namespace K
open Pl
theorem view_ints_cs {H : Type} {enc : TypeId × Value → H} {P : Program} {W : World} {t e : TypeId} {v : Value} {d : DataW H} {p : List MemPlace} {n : Nat}
    (ht : P.underlying t = some (.slice e)) (he : P.underlying e = some (.int .i64)) (hc : P.cellsOf e = 1)
    (h : DataW.trod enc P W 0 (fun _ => true) true n t [v] = some (d, p)) (hlt : ∀ x ∈ p, x.block < W.heap.size) :
    ∃ xs : List Int, Is W W.heap.size v xs ∧ (∀ n ∈ xs, (Lit.int .i64 n).wf = true) ∧ (d = .nil ∧ xs = [] ∨ ∃ es sp, d = .slice es sp ∧ xs.length ≤ es.length + sp.length) := by
  rcases open_ints ht he hc h with ⟨hcs, hx⟩ | ⟨a, len', cap', zs, hcs, _, hl, hm, hz, hx, hcell, hwz⟩
  · simp at hcs
    subst hcs
    simp only [Prod.mk.injEq] at hx
    exact ⟨[], ⟨none, 0, 0, rfl, by omega, by omega, ⟨rfl, fun h => absurd h (by omega)⟩⟩, by simp, .inl ⟨hx.1, rfl⟩⟩
  · simp at hcs
    subst hcs
    simp only [Prod.mk.injEq] at hx
    simp only [if_true] at hz
    have hlen : (zs.take len').length = len' := by simp; omega
    refine ⟨zs.take len', ⟨some a, len', cap', rfl, hl, hm, ⟨hlen, fun hn => ⟨a, rfl, ?_, fun j hj => ?_⟩⟩⟩, fun n hn => hwz n (List.mem_of_mem_take hn), .inr ⟨_, _, hx.1, ?_⟩⟩
    · have := hlt (.cell a.block a.off) (by rw [hx.2]; exact MemPlace.mem_row.2 ⟨0, by omega, by simp⟩)
      exact this
    · rw [hcell j (by omega)]
      simp [gx, List.getD, hj]
    · simp [lits]
/-- An argument that is a struct of one slice of int64, by value. -/
theorem view_branch {H : Type} {enc : TypeId × Value → H} {P : Program} {W : World} {base : Nat} {ts : List TypeId} {ds : List (DataW H)} {j : Nat} {t s e : TypeId} {f0 : Field} {v : Value} {d : DataW H} {p : List MemPlace}
    (hsz : (DataW.weightsEach P ts ds).all (· ≤ reachBytes) = true) (hts : ts[j]? = some t) (hds : ds[j]? = some d) (hs : P.underlying t = some (.struct #[f0])) (hone : oneCellFields P #[f0] = true) (hC : P.cellsOf t = 1)
    (hu : P.underlying s = some (.slice e)) (he : P.underlying e = some (.int .i64)) (hc : P.cellsOf e = 1) (hby : P.bytesOf e = 8) (hok : Value.okWide P W .any base t v)
    (h : DataW.Trod enc P W 0 (fun _ => true) true t v d p) (hlt : ∀ x ∈ p, x.block < W.heap.size) (h0 : f0.type = s := by rfl) :
    ∃ u xs, v = .agg #[u] ∧ Is W W.heap.size u xs ∧ (∀ n ∈ xs, (Lit.int .i64 n).wf = true) ∧ xs.length * 8 ≤ 140737488351232 := by
  obtain ⟨cs, rfl, hcs⟩ := okWide_struct hs hok
  rw [hC] at hcs
  obtain ⟨u, rfl⟩ : ∃ u, cs = #[u] := by
    obtain ⟨l⟩ := cs
    match l, hcs with
    | [u], _ => exact ⟨u, rfl⟩
  obtain ⟨fuel, hf⟩ := h
  obtain ⟨y0, n, hx, _, hy⟩ := trod_struct1 hs hf
  obtain ⟨o0, k0⟩ := hone_of hone 0 f0 rfl
  have hy2 : DataW.trod enc P W 0 (fun _ => true) true n s [u] = some (y0.1, y0.2) := by
    rw [← h0]; simpa [Value.cells, o0, k0] using hy
  simp only [Prod.mk.injEq] at hx
  obtain ⟨xs, h1, h2, h3⟩ := view_ints_cs hu he hc hy2 (by rw [← hx.2]; exact hlt)
  refine ⟨u, xs, rfl, h1, h2, ?_⟩
  rcases h3 with ⟨_, rfl⟩ | ⟨es, sp, hd, hl⟩
  · simp
  · have := List.all_eq_true.1 hsz _ (DataW.weights_mem_each hts hds ((es.length + sp.length) * P.bytesOf e) (by
      rw [hx.1, hd]; simp [DataW.weights, DataW.weightsEach, hs, h0, hu]))
    simp only [decide_eq_true_eq, hby] at this
    unfold reachBytes at this
    omega
theorem weightsAll_mem {H : Type} {P : Program} {e : TypeId} : ∀ {l : List (DataW H)} {d : DataW H}, d ∈ l → ∀ n ∈ d.weights P e, n ∈ DataW.weightsAll P e l
  | d' :: r, d, hd, n, hn => by
    simp only [DataW.weightsAll, List.mem_append]
    rcases List.mem_cons.1 hd with rfl | h
    · exact Or.inl hn
    · exact Or.inr (weightsAll_mem h n hn)
/-- An argument '[][]int64'. -/
theorem view_rows {H : Type} {enc : TypeId × Value → H} {P : Program} {W : World} {base : Nat} {ts : List TypeId} {ds : List (DataW H)} {j : Nat} {t e q : TypeId} {v : Value} {d : DataW H} {p : List MemPlace}
    (hsz : (DataW.weightsEach P ts ds).all (· ≤ reachBytes) = true) (hts : ts[j]? = some t) (hds : ds[j]? = some d) (ht : P.underlying t = some (.slice e)) (he : P.underlying e = some (.slice q)) (hq : P.underlying q = some (.int .i64))
    (ce : P.cellsOf e = 1) (cq : P.cellsOf q = 1) (hbe : P.bytesOf e = 24) (hby : P.bytesOf q = 8) (hok : Value.okWide P W .any base t v)
    (h : DataW.Trod enc P W 0 (fun _ => true) true t v d p) (hlt : ∀ x ∈ p, x.block < W.heap.size) :
    ∃ xss : List (List Int), IsR W W.heap.size v xss ∧ (∀ xs ∈ xss, ∀ n ∈ xs, (Lit.int .i64 n).wf = true) ∧ xss.length * 24 ≤ 140737488351232 ∧ ∀ xs ∈ xss, xs.length * 8 ≤ 140737488351232 := by
  obtain ⟨a0, len, cap, rfl⟩ := okWide_slice ht hok
  obtain ⟨fuel, hf⟩ := h
  rcases open_int_rows ht he hq ce cq hf with ⟨hcs, hx⟩ | ⟨a, len', cap', A, L, C, Z, hcs, _, hl, hm, hx, hr⟩
  · simp [Value.cells] at hcs
    obtain ⟨rfl, rfl, rfl⟩ := hcs
    exact ⟨[], ⟨[], rfl, ⟨none, 0, rfl, by simp, by simp, fun h => by simp at h⟩, fun i h => by simp at h⟩, by simp, by simp, by simp⟩
  · simp [Value.cells] at hcs
    obtain ⟨rfl, rfl, rfl⟩ := hcs
    simp only [Prod.mk.injEq] at hx
    have hL : ((List.range len).map fun r => (Z r).take (L r)).length = len := by simp
    have hux : ∀ i, i < len → ux ((List.range len).map fun r => Value.slice (A r) (L r) (C r)) i = .slice (A i) (L i) (C i) := fun i hi => by
      rw [ux_eq _ _ (by simpa using hi)]; simp
    have hgx : ∀ i, i < len → gxx ((List.range len).map fun r => (Z r).take (L r)) i = (Z i).take (L i) := fun i hi => by
      rw [gxx_eq _ _ (by simpa using hi)]; simp
    have hmem : ∀ {Q : List Int → Prop}, (∀ i, i < len → Q ((Z i).take (L i))) → ∀ xs ∈ (List.range len).map fun r => (Z r).take (L r), Q xs := by
      intro Q hQ xs hxs
      obtain ⟨i, hi, rfl⟩ := List.mem_map.1 hxs
      exact hQ i (List.mem_range.1 hi)
    have hw0 := List.all_eq_true.1 hsz
    refine ⟨(List.range len).map fun r => (Z r).take (L r), ⟨(List.range len).map fun r => .slice (A r) (L r) (C r), by simp, ⟨some a, cap, by rw [hL], by rw [hL]; exact hl, hm, fun hn => ⟨a, rfl, ?_, fun i hi => ?_⟩⟩, fun i hi => ?_⟩, hmem fun i hi n hn => ?_, ?_, hmem fun i hi => ?_⟩
    · rw [hL] at hn
      exact hlt (.cell a.block a.off) (by rw [hx.2]; exact List.mem_append.2 (.inl (MemPlace.mem_row.2 ⟨0, by omega, by simp⟩)))
    · rw [hL] at hi
      rw [hux i hi]; exact (hr i (by omega)).1
    · rw [hL] at hi
      obtain ⟨_, r1, r2, r3, r4, r5, r6⟩ := hr i (by omega)
      rw [hux i hi, hgx i hi]
      have hlen : ((Z i).take (L i)).length = L i := by simp; omega
      refine ⟨A i, L i, C i, rfl, r1, r2, hlen, fun hp => ?_⟩
      cases hA : A i with
      | none => have := r5 hA; omega
      | some a' =>
        refine ⟨a', rfl, ?_, fun k hk => ?_⟩
        · refine hlt (.cell a'.block a'.off) ?_
          rw [hx.2]
          refine List.mem_append.2 (.inr (List.mem_flatMap.2 ⟨i, List.mem_range.2 (by omega), ?_⟩))
          rw [hA]
          exact MemPlace.mem_row.2 ⟨0, by omega, by simp⟩
        · rw [(r6 a' hA).2 k (by omega)]
          simp [gx, List.getD, hk]
    · exact (hr i (by omega)).2.2.2.2.1 n (List.mem_of_mem_take hn)
    · have := sized_slice hsz hts (hds.trans (by rw [hx.1])) ht
      rw [hbe] at this
      unfold reachBytes at this
      simp at this ⊢; omega
    · obtain ⟨_, r1, r2, r3, r4, r5, r6⟩ := hr i (by omega)
      cases hA : A i with
      | none =>
        have := r5 hA
        simp; omega
      | some a' =>
        have hin : DataW.slice (lits .i64 ((Z i).take (L i))) (lits .i64 ((Z i).drop (L i))) ∈ ((List.range len).map fun r => intRow (H := H) .i64 (A r) (L r) (Z r)) :=
          List.mem_map.2 ⟨i, List.mem_range.2 hi, by rw [hA]; rfl⟩
        have := hw0 _ (DataW.weights_mem_each hts hds (((lits (H := H) .i64 ((Z i).take (L i))).length + (lits (H := H) .i64 ((Z i).drop (L i))).length) * P.bytesOf q) (by
          rw [hx.1]
          simp only [DataW.weights, ht, List.mem_cons, List.mem_append]
          exact Or.inr (Or.inl (weightsAll_mem hin _ (by simp [DataW.weights, he])))))
        simp only [decide_eq_true_eq, hby] at this
        unfold reachBytes at this
        simp [lits] at this ⊢
        omega
end K
end Go.Proofs.YtfginjifplcedaaDoor
