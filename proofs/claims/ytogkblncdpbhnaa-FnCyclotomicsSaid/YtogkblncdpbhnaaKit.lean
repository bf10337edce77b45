/-
  WORDS FOR MEMORY, used by all texts of this claim: a slice of int64 that reads as a list; what a call owns; how an argument opens into these words; how a row's proof ends where the world has only grown.
-/
import Derived.Test.YtogkblncdpbhnaaRows
import Derived.Test.YtogkblncdpbhnaaPlA
import Derived.WalkKit
import Derived.Handy
import Derived.ProofKit
import Derived.OpenShut
import Derived.SizedLaws
import Derived.Lib.SmallJoins
import Derived.Lib.Hide
import Derived.Deep.Draws
import Derived.Deep.AppendLies
import Derived.WalkSpells
namespace Go.Proofs.Ytogkblncdpbhnaa
open Go.RowKit Go.ChangeShapes Go.WideShapes Go.Joins Go.Deep
set_option linter.unusedVariables false
namespace K
open Pl

theorem ret_i {k : IntKind} {a b : Int} (h : a = b) : Ending.returned (.int k a) = .returned (.int k b) := by rw [h]
theorem ret_b {a b : Bool} (h : a = b) : Ending.returned (.bool a) = .returned (.bool b) := by rw [h]
theorem ret_ii {k : IntKind} {a b c d : Int} (h : a = b) (h' : c = d) : Ending.returned (.tuple #[.int k a, .int k c]) = .returned (.tuple #[.int k b, .int k d]) := by rw [h, h']
theorem block_of_add (a : Addr) (n : Nat) : (a.add n).block = a.block := by unfold Addr.add; split <;> rfl
theorem add_of_add (a : Addr) (i j : Nat) : (a.add i).add j = a.add (i + j) := by
  unfold Addr.add
  by_cases hi : i = 0 <;> by_cases hj : j = 0 <;> simp [hi, hj, Nat.add_assoc]

theorem gx_map (xs : List Int) (j : Nat) (u : Value) (h : (xs.map (Value.int .i64))[j]? = some u) : u = .int .i64 (gx xs j) ∧ j < xs.length := by
  rw [List.getElem?_map] at h
  rcases hx : xs[j]? with _ | x
  · rw [hx] at h; cases h
  · rw [hx] at h
    have hl := (List.getElem?_eq_some_iff.1 hx).1
    simp at h; subst h
    exact ⟨by simp [gx, List.getD, hx], hl⟩
theorem map_gx (xs : List Int) (j : Nat) (h : j < xs.length) : (xs.map (Value.int .i64))[j]? = some (.int .i64 (gx xs j)) := by
  simp [gx, List.getD, h]

/-- A slice's address, its length n: it reads as the numbers xs, in a block below B. -/
structure Rd (w : World) (B : Nat) (A : Option Addr) (n : Nat) (xs : List Int) : Prop where
  len : xs.length = n
  pos : 0 < n → ∃ ad, A = some ad ∧ ad.block < B ∧ ∀ j, j < n → w.cell? (ad.add j) = some (.int .i64 (gx xs j))
/-- A value that is a slice of int64 which reads as xs. -/
def Is (w : World) (B : Nat) (v : Value) (xs : List Int) : Prop := ∃ A n c, v = .slice A n c ∧ n ≤ c ∧ c ≤ maxLen ∧ Rd w B A n xs

section
variable {w w' : World} {B B' : Nat} {v : Value} {xs : List Int} {A : Option Addr} {n : Nat}
theorem Rd.keep (h : Rd w B A n xs) (hk : ∀ p : Addr, p.block < B → w'.cell? p = w.cell? p) : Rd w' B A n xs :=
  ⟨h.len, fun hn => by
    obtain ⟨ad, e, hb, hc⟩ := h.pos hn
    exact ⟨ad, e, hb, fun j hj => (hk _ (by rw [block_of_add]; exact hb)).trans (hc j hj)⟩⟩
theorem Rd.below (h : Rd w B A n xs) (hb : Below B w w') : Rd w' B A n xs := h.keep fun _ hp => hb.cell hp
theorem Rd.more (h : Rd w B A n xs) (hB : B ≤ B') : Rd w B' A n xs :=
  ⟨h.len, fun hn => by
    obtain ⟨ad, e, hb, hc⟩ := h.pos hn
    exact ⟨ad, e, by omega, hc⟩⟩
theorem Is.below (h : Is w B v xs) (hb : Below B w w') : Is w' B v xs := by
  obtain ⟨A, n, c, e, h1, h2, h3⟩ := h
  exact ⟨A, n, c, e, h1, h2, h3.below hb⟩
theorem Is.more (h : Is w B v xs) (hB : B ≤ B') : Is w B' v xs := by
  obtain ⟨A, n, c, e, h1, h2, h3⟩ := h
  exact ⟨A, n, c, e, h1, h2, h3.more hB⟩
theorem Is.later (h : Is w B v xs) (hb : Below w.heap.size w w') (hB : B ≤ w.heap.size) : Is w' B v xs := h.below (hb.mono hB)

theorem below_drewN {a : World} (h : Below B a w) (k : Nat) : Below B a (w.drewN k) := ⟨h.os, h.tape, h.output, h.size, h.block⟩
end

/-- Old cells and old marks read as before: two rules for the walk. -/
theorem bcell {W w1 : World} (hb : Below W.heap.size W w1) : (∀ b o, b < W.heap.size → w1.cell? ⟨b, o, none⟩ = W.cell? ⟨b, o, none⟩) ∧ (∀ b o, b < W.heap.size → w1.frozen? ⟨b, o, none⟩ = W.frozen? ⟨b, o, none⟩) :=
  ⟨fun b o h => hb.cell (p := ⟨b, o, none⟩) h, fun b o h => hb.frozen (p := ⟨b, o, none⟩) h⟩

/-- A store elsewhere. -/
theorem cell_far {W : World} {p q : Addr} {u v : Value} (h : W.cell? q = some v) (hne : q.block ≠ p.block) : (W.setCell p u).cell? q = some v :=
  (World.cell?_setCell_other W p q u (fun e => hne (by rw [e]))).trans h
/-- An owned row, shortened. -/
theorem own_short {w : World} {base : Nat} {e : TypeId} {g n cap k : Nat} {xs : List Int} (h : w.ownsRow base e 1 (.slice (some ⟨g, 0, none⟩) n cap) n (xs.map (Value.int .i64))) (hk : k ≤ n) :
    w.ownsRow base e 1 (.slice (some ⟨g, 0, none⟩) k cap) k ((xs.take k).map (Value.int .i64)) := by
  have hl : xs.length = n := by have := h.1; simpa using this
  rcases h.2 with ⟨h', _⟩ | ⟨g', cap', cur, h', hb, hg, hnc, hcm, hcs, htake⟩
  · simp at h'
  · simp only [Value.slice.injEq, Option.some.injEq, Addr.mk.injEq, and_true, true_and] at h'
    obtain ⟨rfl, rfl⟩ := h'
    refine ⟨by simp; omega, .inr ⟨g, cap, cur, rfl, hb, hg, by omega, hcm, hcs, ?_⟩⟩
    rw [List.map_take, ← htake, List.take_take]
    congr 1; omega

/-- What is owned is owned later, as long as nothing that was there has turned. -/
theorem own_later {w w' : World} {base : Nat} {e : TypeId} {s : Nat} {v : Value} {n : Nat} {xs : List Value} (h : w.ownsRow base e s v n xs) (hb : Below w.heap.size w w') : w'.ownsRow base e s v n xs := by
  obtain ⟨h1, h2⟩ := h
  refine ⟨h1, ?_⟩
  rcases h2 with h2 | ⟨g, cap, cur, hv, hg, hh, r⟩
  · exact .inl h2
  · have hlt : g < w.heap.size := (Array.getElem?_eq_some_iff.1 hh).1
    exact .inr ⟨g, cap, cur, hv, hg, (hb.block g hlt).trans hh, r⟩
theorem own_base {w : World} {base base' : Nat} {e : TypeId} {s : Nat} {v : Value} {n : Nat} {xs : List Value} (h : w.ownsRow base e s v n xs) (hb : base' ≤ base) : w.ownsRow base' e s v n xs := by
  obtain ⟨h1, h2⟩ := h
  refine ⟨h1, ?_⟩
  rcases h2 with h2 | ⟨g, cap, cur, hv, hg, r⟩
  · exact .inl h2
  · exact .inr ⟨g, cap, cur, hv, by omega, r⟩

theorem is_of_own {w : World} {base : Nat} {e : TypeId} {v : Value} {n : Nat} {xs : List Int} (h : w.ownsRow base e 1 v n (xs.map (Value.int .i64))) : Is w w.heap.size v xs := by
  have hl : xs.length = n := by have := h.1; simpa using this
  have hlt := h.lt
  have hcells := fun g hg => h.cells (g := g) hg
  rcases h.2 with ⟨rfl, h0⟩ | ⟨g, cap, cur, rfl, _, _, hc, hm, _⟩
  · exact ⟨none, 0, 0, rfl, by omega, by omega, ⟨by omega, fun h => absurd h (by omega)⟩⟩
  · refine ⟨_, n, cap, rfl, hc, hm, ⟨hl, fun _ => ⟨_, rfl, (hlt g rfl).2, fun j hj => hcells g rfl j _ (map_gx xs j (by omega))⟩⟩⟩


/-! ### what a call owns: a row of numbers in blocks from lo on, below hi; what a call changes -/
def Ow (w : World) (lo hi : Nat) (v : Value) (xs : List Int) : Prop := w.ownsRow lo 2 1 v xs.length (xs.map (Value.int .i64)) ∧ ∀ k, v.ownBlock = some k → k < hi
/-- From w to w' no block has turned but those from lo on, below hi. -/
structure Chg (lo hi : Nat) (w w' : World) : Prop where
  os : w'.os = w.os
  tape : w'.tape = w.tape
  output : w'.output = w.output
  size : w.heap.size ≤ w'.heap.size
  block : ∀ k, k < w.heap.size → ¬ (lo ≤ k ∧ k < hi) → w'.heap[k]? = w.heap[k]?
section
variable {w w' w2 : World} {lo hi lo' hi' B : Nat} {v : Value} {xs : List Int}
theorem Chg.of_below (h : Below w.heap.size w w') : Chg 0 0 w w' := ⟨h.os, h.tape, h.output, h.size, fun k hk _ => h.block k hk⟩
theorem Chg.of_grown {row : Option Nat} (h : w.grownBy w' row) (hr : ∀ k, row = some k → lo ≤ k ∧ k < hi) : Chg lo hi w w' :=
  ⟨h.os, h.tape, h.output, h.size, fun k hk hn => h.block k hk (fun e => hn (hr k e.symm))⟩
theorem Chg.below (h : Chg lo hi w w') (hB : B ≤ w.heap.size) (hl : B ≤ lo ∨ hi = 0) : Below B w w' := ⟨h.os, h.tape, h.output, h.size, fun k hk => h.block k (by omega) (by omega)⟩
theorem Chg.refl : Chg lo hi w w := ⟨rfl, rfl, rfl, Nat.le_refl _, fun _ _ _ => rfl⟩
theorem Chg.trans (h : Chg lo hi w w') (h' : Chg lo hi w' w2) : Chg lo hi w w2 :=
  ⟨h'.os.trans h.os, h'.tape.trans h.tape, h'.output.trans h.output, Nat.le_trans h.size h'.size, fun k hk hn => (h'.block k (by have := h.size; omega) hn).trans (h.block k hk hn)⟩
theorem Chg.wide (h : Chg lo hi w w') (h1 : lo' ≤ lo ∨ hi = 0) (h2 : hi ≤ hi') : Chg lo' hi' w w' := ⟨h.os, h.tape, h.output, h.size, fun k hk hn => h.block k hk (by omega)⟩
theorem Ow.of_own {n : Nat} (h : w.ownsRow lo 2 1 v n (xs.map (Value.int .i64))) : Ow w lo w.heap.size v xs := by
  have hl : n = xs.length := by have := h.1; simp at this; omega
  subst hl
  exact ⟨h, fun k hk => (h.lt k hk).2⟩
theorem Ow.keep (h : Ow w lo hi v xs) (hc : Chg lo' hi' w w') (hd : hi ≤ lo' ∨ hi' ≤ lo) : Ow w' lo hi v xs := by
  refine ⟨?_, h.2⟩
  obtain ⟨⟨h1, h2⟩, hlt⟩ := h
  refine ⟨h1, ?_⟩
  rcases h2 with h2 | ⟨g, cap, cur, hv, hg, hh, r⟩
  · exact .inl h2
  · have hg1 : g < w.heap.size := (Array.getElem?_eq_some_iff.1 hh).1
    have hg2 : g < hi := hlt g (by rw [hv]; rfl)
    exact .inr ⟨g, cap, cur, hv, hg, (hc.block g hg1 (by omega)).trans hh, r⟩
theorem Ow.later (h : Ow w lo hi v xs) (hb : Below w.heap.size w w') : Ow w' lo hi v xs := h.keep (Chg.of_below hb) (.inr (Nat.zero_le _))
theorem Ow.alloc (h : Ow w lo hi v xs) (o : Obj) : Ow (w.alloc o) lo hi v xs := ⟨h.1.alloc o, h.2⟩
theorem Ow.is (h : Ow w lo hi v xs) : Is w w.heap.size v xs := is_of_own h.1
theorem Ow.isB (h : Ow w lo hi v xs) : Is w hi v xs := by
  obtain ⟨A, n, c, e, h1, h2, h3⟩ := h.is
  refine ⟨A, n, c, e, h1, h2, ⟨h3.len, fun hn => ?_⟩⟩
  obtain ⟨ad, ea, hb, hc⟩ := h3.pos hn
  exact ⟨ad, ea, h.2 _ (by rw [e, ea]; rfl), hc⟩
/-- A cell of the call's own is kept. -/
theorem Chg.cell (hc : Chg lo hi w w') {b j : Nat} {u : Value} (h : w.cell? ⟨b, j, none⟩ = some u) (hd : b < lo ∨ hi ≤ b) : w'.cell? ⟨b, j, none⟩ = some u := by
  have hb : b < w.heap.size := World.block_lt_of_cell? w ⟨b, j, none⟩ h
  exact (World.cell?_of_block (w := w) (hc.block b hb (by omega))).trans h
end

theorem own_shape {w : World} {base : Nat} {e : TypeId} {s : Nat} {v : Value} {n : Nat} {xs : List Value} (h : w.ownsRow base e s v n xs) : ∃ A c, v = .slice A n c ∧ n ≤ c ∧ c ≤ 9223372036854775807 := by
  rcases h.2 with ⟨rfl, rfl⟩ | ⟨g, cap, cur, rfl, _, _, hc, hm, _⟩
  · exact ⟨none, 0, rfl, by omega, by omega⟩
  · exact ⟨_, cap, rfl, hc, hm⟩
theorem info64 : (Try.prog.info? 2).map (fun i => (i.zero, i.size, i.bytes)) = some (some (.int .i64 0), 1, 8) := by kernel_rfl
theorem run_append_nothing {w : World} (base : Nat) (t ty e : TypeId) (i : TypeInfo) (ht : Try.prog.underlying t = some (.slice e)) (hi : Try.prog.info? e = some i)
    (v : Value) (n : Nat) (xs : List Value) (hown : w.ownsRow base e 1 v n xs) (c : Nat) : (Builtin.append_ #[t, t] ty #[v, .slice none 0 c]).run Try.prog w = .ok v w := by
  rcases hown.2 with ⟨rfl, rfl⟩ | ⟨g, cap, cur, rfl, _, _, hnc, _⟩
  · simp [Builtin.append_, run_underlying ht, sizeOf, typeInfo, hi, Builtin.lenOf, Builtin.firstCells]
  · simp [Builtin.append_, run_underlying ht, sizeOf, typeInfo, hi, Builtin.lenOf, Builtin.firstCells, hnc, storeCells]
/-- 'append(xs, ys...)': a row of the call's own, behind it whatever reads as a list: nil, empty or not. -/
theorem wp_append_ints {w : World} {ops : Array Oper} {rest : List Oper} {o : Oper} {a : Act} {Q : Exit → Act → World → Prop} (hgd : o.guard = none) (s x : Operand)
    (ho : o.op = .call { callee := .builtin .append, args := #[s, x], argTypes := #[24, 24] })
    (lo : Nat) (v : Value) (xs : List Int) (hs : a.eval s = v) (hown : w.ownsRow lo 2 1 v xs.length (xs.map (Value.int .i64)))
    (B : Nat) (A : Option Addr) (n c : Nat) (ys : List Int) (hx : a.eval x = .slice A n c) (hr : Rd w B A n ys) (hn : xs.length + n < 1000000000000) (hbase : lo ≤ w.heap.size)
    (h : ∀ v' w', w'.ownsRow lo 2 1 v' (xs ++ ys).length ((xs ++ ys).map (Value.int .i64)) → w.grownBy w' v.ownBlock → wpList Try.prog ops Q rest (a.put o.dst v') w') : wpList Try.prog ops Q (o :: rest) a w := by
  obtain ⟨i0, hi, hz0, hz1, hz2⟩ := info_parts info64
  have hl := hr.len
  cases A with
  | none =>
    obtain rfl : n = 0 := by
      rcases Nat.eq_zero_or_pos n with h0 | h0
      · exact h0
      · obtain ⟨ad, e, _⟩ := hr.pos h0
        cases e
    obtain rfl : ys = [] := List.eq_nil_of_length_eq_zero hl
    refine wpList_plain hgd fun K hK => ?_
    have hrun := run_append_nothing (w := w) lo 24 o.type 2 i0 Try.underlying24 hi v xs.length _ hown c
    unfold Oper.wp
    simp [execOp, ho, resolve, invoke, builtin, hs, hx, hrun, Result.andThen]
    exact hK _ _ (h v w (by simpa using hown) (World.grownBy.refl _ _))
  | some ad =>
    refine wpList_append_own (P := Try.prog) w hgd s x 24 ho lo 2 i0 (.int .i64 0) 1 8 Try.underlying24 hi hz0 hz1 hz2 rfl (by decide) v xs.length _ hs hown ad n c (ys.map (Value.int .i64)) hx (by simp [hl]) ?_ ?_ (by unfold maxLen; omega) (by omega) hbase ?_
    · intro j u hj
      obtain ⟨rfl, hjl⟩ := gx_map ys j u hj
      obtain ⟨ad', e, _, hc⟩ := hr.pos (by omega)
      cases e
      exact hc j (by omega)
    · intro u hu
      obtain ⟨_, _, rfl⟩ := List.mem_map.1 hu
      rfl
    · intro v' w' h1 h2 _
      exact h v' w' (by simpa [hl] using h1) h2
/-- 'xs = append(xs, y)': a row of the call's own, one number more. -/
theorem wp_append_int {w : World} {ops : Array Oper} {rest : List Oper} {o : Oper} {a : Act} {Q : Exit → Act → World → Prop} (hgd : o.guard = none) (s x : Operand)
    (ho : o.op = .call { callee := .builtin .append, args := #[s, x], argTypes := #[24, 24] })
    (lo : Nat) (v : Value) (xs : List Int) (hs : a.eval s = v) (hown : w.ownsRow lo 2 1 v xs.length (xs.map (Value.int .i64)))
    (g : Nat) (y : Int) (c : Nat) (hx : a.eval x = .slice (some ⟨g, 0, none⟩) 1 c) (hc : w.cell? ⟨g, 0, none⟩ = some (.int .i64 y)) (hn : xs.length < 1000000000000) (hbase : lo ≤ w.heap.size)
    (h : ∀ v' w', w'.ownsRow lo 2 1 v' (xs ++ [y]).length ((xs ++ [y]).map (Value.int .i64)) → w.grownBy w' v.ownBlock → wpList Try.prog ops Q rest (a.put o.dst v') w') : wpList Try.prog ops Q (o :: rest) a w := by
  obtain ⟨i0, hi, hz0, hz1, hz2⟩ := info_parts info64
  refine wpList_append_own (P := Try.prog) w hgd s x 24 ho lo 2 i0 (.int .i64 0) 1 8 Try.underlying24 hi hz0 hz1 hz2 rfl (by decide) v xs.length _ hs hown ⟨g, 0, none⟩ 1 c [.int .i64 y] hx rfl ?_ ?_ (by unfold maxLen; omega) (by omega) hbase ?_
  · intro j u hj
    match j, hj with
    | 0, hj => simp at hj; subst hj; simpa [Addr.add] using hc
  · intro u hu; simp at hu; subst hu; rfl
  · intro v' w' h1 h2 _
    exact h v' w' (by simpa using h1) h2
/-- Behind such an append nothing old has turned. -/
theorem below_append {w wr w1 : World} {B lo : Nat} {e : TypeId} {s n : Nat} {v : Value} {xs : List Value} {o : Obj} (hbe : Below B w wr) (hB : B ≤ wr.heap.size) (hown : wr.ownsRow lo e s v n xs) (hlo : B ≤ lo) (hg : (wr.alloc o).grownBy w1 v.ownBlock) : Below B w w1 :=
  (hbe.alloc hB o).grown hg (by simp; omega) (fun k hk => by have := (hown.lt k hk).1; omega)

/-- An argument '[]int64', opened: it reads as some list; what its reading weighs. -/
theorem view_ints {H : Type} {enc : TypeId × Value → H} {P : Program} {W : World} {base : Nat} {t e : TypeId} {v : Value} {d : DataW H} {p : List MemPlace}
    (ht : P.underlying t = some (.slice e)) (he : P.underlying e = some (.int .i64)) (hc : P.cellsOf e = 1)
    (hok : Value.okWide P W .any base t v) (h : DataW.Trod enc P W 0 (fun _ => true) true t v d p) (hlt : ∀ x ∈ p, x.block < W.heap.size) :
    ∃ xs : List Int, Is W W.heap.size v xs ∧ (∀ n ∈ xs, (Lit.int .i64 n).wf = true) ∧ (d = .nil ∧ xs = [] ∨ ∃ es sp, d = .slice es sp ∧ xs.length ≤ es.length + sp.length) := by
  obtain ⟨a0, len, cap, rfl⟩ := okWide_slice ht hok
  obtain ⟨fuel, hf⟩ := h
  rcases open_ints ht he hc hf with ⟨hcs, hx⟩ | ⟨a, len', cap', zs, hcs, _, hl, hm, hz, hx, hcell, hwz⟩
  · simp [Value.cells] at hcs
    obtain ⟨rfl, rfl, rfl⟩ := hcs
    simp only [Prod.mk.injEq] at hx
    exact ⟨[], ⟨none, 0, 0, rfl, by omega, by omega, ⟨rfl, fun h => absurd h (by omega)⟩⟩, by simp, .inl ⟨hx.1, rfl⟩⟩
  · simp [Value.cells] at hcs
    obtain ⟨rfl, rfl, rfl⟩ := hcs
    simp only [Prod.mk.injEq] at hx
    simp only [if_true] at hz
    have hlen : (zs.take len).length = len := by simp; omega
    refine ⟨zs.take len, ⟨some a, len, cap, rfl, hl, hm, ⟨hlen, fun hn => ⟨a, rfl, ?_, fun j hj => ?_⟩⟩⟩, fun n hn => hwz n (List.mem_of_mem_take hn), .inr ⟨_, _, hx.1, ?_⟩⟩
    · have := hlt (.cell a.block a.off) (by rw [hx.2]; exact MemPlace.mem_row.2 ⟨0, by omega, by simp⟩)
      exact this
    · rw [hcell j (by omega)]
      simp [gx, List.getD, hj]
    · simp [lits]

/-- The row's last step where of the world only 'Below' is known. -/
theorem post_of_below {H : Type} {enc : TypeId × Value → H} {P : Program} {f : Func} {s : ChangeSpec} {apart fresh handsOn again : Bool} {W W' : World} {args : Array Value} {v : Value} {ds gs : List (DataW H)} {before pa pv : List MemPlace}
    (hW : DataW.Whole enc P f.params.toList s.vars apart W args.toList ds gs before)
    (hres : ∀ (b : Nat) (sp : Nat → Bool) (hd : Bool), DataW.TrodAll enc P W' b sp hd f.resultTypes.toList (v.resultList f.resultTypes.size) (s.fn H (ds ++ gs)).results [])
    (hargs : ∀ sp : Nat → Bool, (∀ p ∈ before, sp p.block = true) → DataW.TrodAll enc P W' 0 sp true f.params.toList args.toList (s.fn H (ds ++ gs)).args pa)
    (hvars : ∀ sp : Nat → Bool, (∀ p ∈ before, sp p.block = true) → DataW.TrodVars enc P W' sp s.vars (s.fn H (ds ++ gs)).vars pv)
    (hps : before = pa ++ pv) (hb : Below W.heap.size W W')
    (hok : ∀ (j : Nat) (t : TypeId) (r : Value), f.resultTypes[j]? = some t → (v.resultList f.resultTypes.size)[j]? = some r → Value.okWide P W' .any 0 t r) :
    s.post enc P f apart fresh handsOn again W args v W' := by
  have hlt : ∀ p ∈ before, p.block < W.heap.size := fun p hp => hW.lt p hp
  have hold : ∀ p ∈ before, (fun b => decide (b < W.heap.size)) p.block = true := fun p hp => by simpa using hlt p hp
  refine ⟨ds, gs, before, [], pa, pv, hW, hres _ _ _, hargs _ hold, hvars _ hold, World.keptBut_mono (fun p hp => ⟨hp, ?_⟩) (hb.frame (· ∈ before)), fun _ => ?_⟩
  · rw [hps, List.mem_append] at hp
    exact Or.inr hp
  · obtain ⟨_, _, _, _, _, hz, hn⟩ := hW
    refine ⟨hok, _, _, ([] ++ pa) ++ pv, ⟨[] ++ pa, pv, trodAll_append (hargs _ (fun _ _ => rfl)) (hres _ _ _), hvars _ (fun _ _ => rfl), rfl, ?_, ?_⟩, ?_⟩
    · intro b off hp
      have hin : MemPlace.cell b off ∈ before := by rw [hps]; simpa using hp
      rw [hb.frozen (hlt _ hin)]
      exact hz b off hin
    · intro ha
      have := hn ha
      rw [hps] at this
      simpa using this
    · intro p hp _
      rw [hps]
      simpa using hp

/-- An argument reads behind the call as before it, under whatever sign of what is old. -/
theorem trod_kept {H : Type} {enc : TypeId × Value → H} {P : Program} {t : TypeId} (hl : laidOutB P = true) (hr : P.readableRec t = true) (hrow : t < P.types.size) {W W' : World} {v : Value} {d : DataW H} {ps : List MemPlace} {sp : Nat → Bool}
    (h : DataW.Trod enc P W 0 (fun _ => true) true t v d ps) (hb : Below W.heap.size W W') (hlt : ∀ x ∈ ps, x.block < W.heap.size) (hsp : ∀ x ∈ ps, sp x.block = true) :
    DataW.Trod enc P W' 0 sp true t v d ps :=
  WideElems.Trod_stays hl hr hrow h (fun x hx => hb.same (hlt x hx)) hsp
/-- What a slice of int64 takes, within the form's reach. -/
theorem reach_ints {H : Type} {P : Program} {ts : List TypeId} {ds : List (DataW H)} (h : (DataW.weightsEach P ts ds).all (· ≤ reachBytes) = true) {j : Nat} {t e : TypeId} {d : DataW H} {xs : List Int}
    (ht : ts[j]? = some t) (hd : ds[j]? = some d) (hu : P.underlying t = some (.slice e)) (hby : P.bytesOf e = 8) (hv : d = .nil ∧ xs = [] ∨ ∃ es sp, d = .slice es sp ∧ xs.length ≤ es.length + sp.length) : xs.length * 8 ≤ 140737488351232 := by
  rcases hv with ⟨_, rfl⟩ | ⟨es, sp, rfl, hl⟩
  · simp
  · have := sized_slice h ht hd hu
    rw [hby] at this
    unfold reachBytes at this
    omega

/-- An argument that is a struct of two int64, by value. -/
theorem view_frac {H : Type} {enc : TypeId × Value → H} {P : Program} {W : World} {base : Nat} {t e : TypeId} {f0 f1 : Field} {v : Value} {d : DataW H} {p : List MemPlace}
    (hs : P.underlying t = some (.struct #[f0, f1])) (hone : oneCellFields P #[f0, f1] = true) (hC : P.cellsOf t = 2) (he : P.underlying e = some (.int .i64)) (h0 : f0.type = e) (h1 : f1.type = e)
    (hok : Value.okWide P W .any base t v) (h : DataW.Trod enc P W 0 (fun _ => true) true t v d p) :
    ∃ a b : Int, v = .agg #[.int .i64 a, .int .i64 b] ∧ (Lit.int .i64 a).wf = true ∧ (Lit.int .i64 b).wf = true := by
  obtain ⟨c0, c1, y0, y1, m, rfl, rfl, rfl, hy0, hy1⟩ := Go.Joins.open_agg2 hs hone hC hok h
  rw [h0] at hy0
  rw [h1] at hy1
  obtain ⟨a, e0, rfl, wa⟩ := DataW.trod_int he hy0
  obtain ⟨b, e1, rfl, wb⟩ := DataW.trod_int he hy1
  simp at e0 e1
  subst e0 e1
  exact ⟨a, b, rfl, wa, wb⟩
end K
end Go.Proofs.Ytogkblncdpbhnaa
