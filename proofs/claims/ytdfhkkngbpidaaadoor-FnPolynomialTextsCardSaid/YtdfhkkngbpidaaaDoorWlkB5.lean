/-
  WALKS, CHAPTER 2: sums and differences.
-/
import Derived.Test.YtdfhkkngbpidaaaDoorWlkB4
import Derived.Laws.CopyOwn
namespace Go.Proofs.YtdfhkkngbpidaaaDoor
open Go.RowKit
set_option linter.unusedVariables false
namespace WB
open K Pl WA WL
/-- 'copy(out, p)': a row of the call's own of N numbers, p not longer. -/
theorem wp_copy_ints {w : World} {ops : Array Oper} {rest : List Oper} {o : Oper} {a : Act} {Q : Exit → Act → World → Prop} (hgd : o.guard = none) (d s : Operand)
    (ho : o.op = .call { callee := .builtin .copy, args := #[d, s], argTypes := #[24, 24] })
    (lo g N : Nat) (zs : List Int) (hd : a.eval d = .slice (some ⟨g, 0, none⟩) N N) (hown : w.ownsRow lo 2 1 (.slice (some ⟨g, 0, none⟩) N N) N (zs.map (Value.int .i64)))
    (B : Nat) (A : Option Addr) (n c : Nat) (xs : List Int) (hs : a.eval s = .slice A n c) (hr : Rd w B A n xs) (hnN : n ≤ N) (w0 : World) (hb : Below lo w0 w)
    (h : ∀ w', Hid (w'.ownsRow lo 2 1 (.slice (some ⟨g, 0, none⟩) N N) N ((xs ++ zs.drop n).map (Value.int .i64))) → Below lo w0 w' → wpList Tryd.prog ops Q rest (a.put o.dst (goInt n)) w') : wpList Tryd.prog ops Q (o :: rest) a w := by
  obtain ⟨i0, hi, hz0, hz1, hz2⟩ := info_parts info64
  have hsz : (Tryd.prog.info? 2).map (·.size) = some 1 := by rw [hi]; exact congrArg some hz1
  have hlen := hr.len
  rcases hown.2 with ⟨h', _⟩ | ⟨g', cap, cur, h', hlo, hgg, hnc, hcm, hcs, htk⟩
  · simp at h'
  · simp only [Value.slice.injEq, Option.some.injEq, Addr.mk.injEq, and_true, true_and] at h'
    obtain ⟨rfl, rfl⟩ := h'
    have hcur : cur.toList = zs.map (Value.int .i64) := by
      rw [← htk, List.take_of_length_le (by simp [hcs])]
    have hzl : zs.length = N := by have := hown.1; simpa using this
    have hcur2 : cur = (zs.map (Value.int .i64)).toArray := by rw [← hcur]
    subst hcur2
    have hm : Nat.min n N = n := Nat.min_eq_left hnN
    refine wpList_copy_splice (P := Tryd.prog) hgd d s 24 24 ho 2 Tryd.underlying24 hsz (some ⟨g, 0, none⟩) A N N n c hd hs g 0 (zs.map (Value.int .i64)) _ hgg (xs.map (Value.int .i64)) (by simp [hlen, hm]) ?_ (by simp [hlen, hzl]; exact hnN) ?_ lo w0 hb hlo ?_
    · intro h0
      obtain ⟨ad, e, _, hc⟩ := hr.pos (by simpa [hlen] using h0)
      refine ⟨rfl, ad, e, fun j v hj => ?_⟩
      obtain ⟨rfl, hjl⟩ := gx_map xs j v hj
      exact hc j (by omega)
    · intro v hv
      obtain ⟨x, _, rfl⟩ := List.mem_map.1 hv
      rfl
    · intro w' hg' hb'
      have e : splice (zs.map (Value.int .i64)) 0 (xs.map (Value.int .i64)) = (xs ++ zs.drop n).map (Value.int .i64) := by
        simp [splice, hlen]
      have hg2 := hg'.out
      rw [e] at hg2
      have hl2 : (xs ++ zs.drop n).length = N := by simp [hlen, hzl]; omega
      have e3 : ((xs.map (Value.int .i64)).length) = n := by simp [hlen]
      rw [e3]
      refine h w' (Lib.hid ⟨by rw [List.length_map, hl2]; omega, .inr ⟨g, N, _, rfl, hlo, hg2, Nat.le_refl _, hcm, by rw [List.size_toArray, List.length_map, hl2]; omega, ?_⟩⟩) hb'
      rw [List.toList_toArray, List.take_of_length_le (by rw [List.length_map, hl2]; omega)]
/-- One sum more. -/
theorem add_round {w wr : World} {lo g N cap j : Nat} {xs ys : List Int} {k : Int} (hown : wr.ownsRow lo 2 1 (.slice (some ⟨g, 0, none⟩) N cap) N ((addk xs k ys N j).map (Value.int .i64))) (hj : j < N) :
    wr.cell? ⟨g, j, none⟩ = some (.int .i64 (gx xs j)) ∧ wr.frozen? ⟨g, j, none⟩ = false ∧ (wr.setCell ⟨g, j, none⟩ (.int .i64 (gx xs j + k * gx ys j))).ownsRow lo 2 1 (.slice (some ⟨g, 0, none⟩) N cap) N ((addk xs k ys N (j + 1)).map (Value.int .i64)) := by
  refine ⟨?_, hown.frozenAt j, ?_⟩
  · rw [hown.cellAt j (by omega), map_gx _ j (by rw [addk_len]; exact hj), gx_addk xs k ys N j j hj, if_neg (by omega)]; simp
  · have e := (hown.stored j (.int .i64 (gx xs j + k * gx ys j))).1
    rw [← List.map_set, addk_step xs k ys N j] at e; exact e

end WB
end Go.Proofs.YtdfhkkngbpidaaaDoor
