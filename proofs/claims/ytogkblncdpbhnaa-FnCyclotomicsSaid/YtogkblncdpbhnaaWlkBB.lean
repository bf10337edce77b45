/-
  WALKS, CHAPTER 2: sums and differences.
  WALKS, CHAPTER 2: the reference's sums and differences.
-/
import Derived.Test.YtogkblncdpbhnaaWlkB4
import Derived.Laws.CopyOwn
namespace Go.Proofs.Ytogkblncdpbhnaa
open Go.RowKit
set_option linter.unusedVariables false
namespace WB
open K Pl WA WL
/-- 'copy(out, p)': a row of the call's own of N numbers, p not longer. -/
theorem wp_copy_ints {w : World} {ops : Array Oper} {rest : List Oper} {o : Oper} {a : Act} {Q : Exit → Act → World → Prop} (hgd : o.guard = none) (d s : Operand)
    (ho : o.op = .call { callee := .builtin .copy, args := #[d, s], argTypes := #[24, 24] })
    (lo g N : Nat) (zs : List Int) (hd : a.eval d = .slice (some ⟨g, 0, none⟩) N N) (hown : w.ownsRow lo 2 1 (.slice (some ⟨g, 0, none⟩) N N) N (zs.map (Value.int .i64)))
    (B : Nat) (A : Option Addr) (n c : Nat) (xs : List Int) (hs : a.eval s = .slice A n c) (hr : Rd w B A n xs) (hnN : n ≤ N) (w0 : World) (hb : Below lo w0 w)
    (h : ∀ w', Hid (w'.ownsRow lo 2 1 (.slice (some ⟨g, 0, none⟩) N N) N ((xs ++ zs.drop n).map (Value.int .i64))) → Below lo w0 w' → wpList Try.prog ops Q rest (a.put o.dst (goInt n)) w') : wpList Try.prog ops Q (o :: rest) a w := by
  obtain ⟨i0, hi, hz0, hz1, hz2⟩ := info_parts info64
  have hsz : (Try.prog.info? 2).map (·.size) = some 1 := by rw [hi]; exact congrArg some hz1
  have hlen := hr.len
  rcases hown.2 with ⟨h', _⟩ | ⟨g', cap, cur, h', hlo, hgg, hnc, hcm, hcs, htk⟩
  · simp at h'
  · simp only [Value.slice.injEq, Option.some.injEq, Addr.mk.injEq, and_true, true_and] at h'
    obtain ⟨rfl, rfl⟩ := h'
    have hcur : cur.toList = zs.map (Value.int .i64) := by
      rw [← htk, List.take_of_length_le (by simp [hcs])]
    have hzl : zs.length = N := by have := hown.1; simpa using this
    have hcur2 : cur = (zs.map (Value.int .i64)).toArray := by rw [← hcur]
    subst hcur2
    have hm : Nat.min n N = n := Nat.min_eq_left hnN
    refine wpList_copy_splice (P := Try.prog) hgd d s 24 24 ho 2 Try.underlying24 hsz (some ⟨g, 0, none⟩) A N N n c hd hs g 0 (zs.map (Value.int .i64)) _ hgg (xs.map (Value.int .i64)) (by simp [hlen, hm]) ?_ (by simp [hlen, hzl]; exact hnN) ?_ lo w0 hb hlo ?_
    · intro h0
      obtain ⟨ad, e, _, hc⟩ := hr.pos (by simpa [hlen] using h0)
      refine ⟨rfl, ad, e, fun j v hj => ?_⟩
      obtain ⟨rfl, hjl⟩ := gx_map xs j v hj
      exact hc j (by omega)
    · intro v hv
      obtain ⟨x, _, rfl⟩ := List.mem_map.1 hv
      rfl
    · intro w' hg' hb'
      have e : splice (zs.map (Value.int .i64)) 0 (xs.map (Value.int .i64)) = (xs ++ zs.drop n).map (Value.int .i64) := by
        simp [splice, hlen]
      have hg2 := hg'.out
      rw [e] at hg2
      have hl2 : (xs ++ zs.drop n).length = N := by simp [hlen, hzl]; omega
      have e3 : ((xs.map (Value.int .i64)).length) = n := by simp [hlen]
      rw [e3]
      refine h w' (Lib.hid ⟨by rw [List.length_map, hl2]; omega, .inr ⟨g, N, _, rfl, hlo, hg2, Nat.le_refl _, hcm, by rw [List.size_toArray, List.length_map, hl2]; omega, ?_⟩⟩) hb'
      rw [List.toList_toArray, List.take_of_length_le (by rw [List.length_map, hl2]; omega)]
/-- One sum more. -/
theorem add_round {w wr : World} {lo g N cap j : Nat} {xs ys : List Int} {k : Int} (hown : wr.ownsRow lo 2 1 (.slice (some ⟨g, 0, none⟩) N cap) N ((addk xs k ys N j).map (Value.int .i64))) (hj : j < N) :
    wr.cell? ⟨g, j, none⟩ = some (.int .i64 (gx xs j)) ∧ wr.frozen? ⟨g, j, none⟩ = false ∧ (wr.setCell ⟨g, j, none⟩ (.int .i64 (gx xs j + k * gx ys j))).ownsRow lo 2 1 (.slice (some ⟨g, 0, none⟩) N cap) N ((addk xs k ys N (j + 1)).map (Value.int .i64)) := by
  refine ⟨?_, hown.frozenAt j, ?_⟩
  · rw [hown.cellAt j (by omega), map_gx _ j (by rw [addk_len]; exact hj), gx_addk xs k ys N j j hj, if_neg (by omega)]; simp
  · have e := (hown.stored j (.int .i64 (gx xs j + k * gx ys j))).1
    rw [← List.map_set, addk_step xs k ys N j] at e; exact e

end WB
end Go.Proofs.Ytogkblncdpbhnaa
namespace Go.Proofs.Ytogkblncdpbhnaa
open Go.RowKit
set_option linter.unusedVariables false
namespace WB
open K Pl WA WL
def fit2 (L : List Int) : List Int × Int := if isPoly L then (L, 0) else ([], 3)
theorem l02Fit_any (lo hi : Nat) (v : Value) (L : List Int) (w : World) (h : Ow w lo hi v L) : Calls Try.prog 46 #[v] w fun e w' => ∃ v', e = .returned (.tuple #[v', .int .i64 (fit2 L).2]) ∧ Ow w lo hi v' (fit2 L).1 ∧ w = w' := by
  have Ho := Lib.hid h
  clear h
  cases hP : isPoly L
  · have Hf := Lib.hid (show fit2 L = ([], 3) by unfold fit2; rw [hP]; rfl)
    go_enter Try.func46, Try.ntmps46
    go_wp2_with fail
    refine (l02Is_any _ v L _ Ho.out.is (Nat.le_refl _)).mono ?_
    rintro e w' ⟨rfl, rfl⟩
    rw [hP]
    go_wp2_with fail
    go_ret2
    exact ⟨_, by rw [Hf.out]; rfl, by rw [Hf.out]; exact Ow.nil _ _ _, rfl⟩
  · have Hf := Lib.hid (show fit2 L = (L, 0) by unfold fit2; rw [hP]; rfl)
    go_enter Try.func46, Try.ntmps46
    go_wp2_with fail
    refine (l02Is_any _ v L _ Ho.out.is (Nat.le_refl _)).mono ?_
    rintro e w' ⟨rfl, rfl⟩
    rw [hP]
    go_wp2_with fail
    go_ret2
    exact ⟨_, by rw [Hf.out]; rfl, by rw [Hf.out]; exact Ho.out, rfl⟩
set_option maxHeartbeats 1600000 in
theorem l02Plus_any (B : Nat) (v v2 : Value) (xs ys : List Int) (k : Int) (w : World) (h : Is w B v xs) (h2 : Is w B v2 ys) (hB : B ≤ w.heap.size) (hp : isPoly xs = true) (hq : isPoly ys = true) (hk : k = 1 ∨ k = -1) :
    Calls Try.prog 24 #[v, v2, .int .i64 k] w (Li1 (trimL (addK xs k ys)) w) := by
  have Hco := Lib.hid (fun j => addk_coef (k := k) hp hq hk j)
  have Hp := Lib.hid h
  obtain ⟨A2, m, c2, rfl, hmc, hcm2, hrd2⟩ := h2
  have Hlen2 := Lib.hid hrd2.len
  obtain ⟨n, Hlen⟩ : ∃ n, Hid (xs.length = n) := ⟨_, Lib.hid rfl⟩
  have hn' : n ≤ 2001 := by rw [← Hlen.out]; exact (isPoly_true.1 hp).1
  have hm' : m ≤ 2001 := by rw [← hrd2.len]; exact (isPoly_true.1 hq).1
  unfold maxLen at hcm2
  have Hrd2 := Lib.hid hrd2
  have hkb : -1000000000000 ≤ k ∧ k ≤ 1000000000000 := by omega
  clear hp hq hk h hrd2
  go_enter Try.func24, Try.ntmps24
  go_wp2_with fail
  refine (l01Own_any B v xs _ Hp.out hB (by rw [Hlen.out]; omega)).mono ?_
  rintro e w1 ⟨v1, rfl, own1, hb1⟩
  obtain ⟨A, c, rfl, hnc, hcm⟩ := own_shape own1.1
  have Ho1 := Lib.hid own1.1
  rw [Hlen.out] at Ho1 hnc ⊢
  clear own1
  go_wp2
  go_loopw [7] (fun u wr => ∃ (A : Option Addr) (c l t : Nat), u = .slice A l c ∧ l ≤ c ∧ c ≤ 9223372036854775807 ∧ Hid (l = n + t) ∧ (t = 0 ∨ l ≤ m) ∧ Hid (wr.ownsRow w.heap.size 2 1 (.slice A l c) l ((xs ++ List.replicate t 0).map (Value.int .i64))) ∧ Below w.heap.size w wr) (fun u _ => match u with | .slice _ l _ => m - l | _ => 0)
  case atStart => exact ⟨A, c, n, 0, rfl, hnc, hcm, Lib.hid rfl, .inl rfl, Lib.hid (by simpa using Ho1.out), hb1⟩
  case round =>
    clear Ho1 hb1 hnc hcm
    obtain ⟨A, c, l, t, rfl, hlc, hcm, hlt, htm, hown, hbe⟩ := hrel
    by_cases hlm : l < m
    · have hsz := hbe.size
      obtain ⟨acc, Hacc⟩ : ∃ acc, Hid (acc = xs ++ List.replicate t 0) := ⟨_, Lib.hid rfl⟩
      have Hal : Hid (acc.length = l) := Lib.hid (by have := hlt.out; rw [Hacc.out]; simp [Hlen.out]; omega)
      have hown' : wr.ownsRow w.heap.size 2 1 (.slice A l c) acc.length (acc.map (Value.int .i64)) := by rw [Hal.out, Hacc.out]; exact hown.out
      have hal : acc.length < 1000000000 := by rw [Hal.out]; omega
      clear hown
      go_wp2_with (at_builtin; refine wp_append_int rfl _ _ rfl w.heap.size _ acc rfl (hown'.alloc _) wr.heap.size 0 1 rfl (by simp) (by omega) (by simp; omega) ?_)
      intro v' w2 hown2 hgrow
      have hbe2 := below_append hbe hbe.size hown' (Nat.le_refl _) hgrow
      have hown3 : w2.ownsRow w.heap.size 2 1 v' (l + 1) ((acc ++ [0]).map (Value.int .i64)) := by
        have e : (acc ++ [0]).length = l + 1 := by simp; exact Hal.out
        rw [← e]; simpa using hown2
      obtain ⟨A', c', rfl, hlc', hcm'⟩ := own_shape hown3
      have Hown2 := Lib.hid hown3
      clear hown2 hgrow hown' hown3
      go_wp2
      go_roundw
      case rel => exact ⟨A', c', l + 1, t + 1, by simp, hlc', hcm', Lib.hid (by have := hlt.out; omega), .inr (by omega), Lib.hid (by have e := Hown2.out; rw [Hacc.out, List.append_assoc, ← List.replicate_succ'] at e; exact e), hbe2⟩
      case measure => first | (simp; done) | (simp; omega)
    · obtain ⟨HN⟩ : Nonempty (Hid (l = max xs.length ys.length)) := ⟨Lib.hid (by have := hlt.out; rw [Hlen.out, Hlen2.out]; omega)⟩
      have hl' : l ≤ 2001 := by have := hlt.out; omega
      have Hown0 := Lib.hid (show wr.ownsRow w.heap.size 2 1 (.slice A l c) l ((addk xs k ys l 0).map (Value.int .i64)) by
        rw [addk_zero xs k ys l (by have := hlt.out; rw [Hlen.out]; omega), Hlen.out, show l - n = t by have := hlt.out; omega]; exact hown.out)
      clear hown htm
      go_wp2
      go_loopw [8] (fun i wr => ∃ j : Nat, j ≤ m ∧ i = .int .i64 j ∧ Hid (wr.ownsRow w.heap.size 2 1 (.slice A l c) l ((addk xs k ys l j).map (Value.int .i64))) ∧ Below w.heap.size w wr) (fun i _ => m - (intOf i).toNat)
      case atStart => exact ⟨0, Nat.zero_le _, rfl, Hown0, hbe⟩
      case round =>
        clear Hown0 hbe
        obtain ⟨j, hj, rfl, hown, hbe⟩ := hrel
        by_cases hjm : j < m
        · obtain ⟨ad, rfl, hab, hc⟩ := Hrd2.out.pos (by omega)
          obtain ⟨g, cap, e⟩ := Go.Joins.ownsRow_form hown.out (by omega)
          cases e
          have hc1 := ((hbe.mono hB).cell (p := ad.add j) (by rw [block_of_add]; omega)).trans (hc j hjm)
          obtain ⟨hcx, hfr, hst⟩ := add_round (w := w) hown.out (show j < l by omega)
          have hlo := (hown.out.lt g rfl).1
          have hbx := (Hco.out j).1
          have hby := (Hco.out j).2
          have hi1 : 0 ≤ (j : Int) ∧ (j : Int) < (l : Int) := by omega
          have hbe2 := Lib.hid (show Below w.heap.size w _ from hbe.setCell (p := ⟨g, j, none⟩) hlo (.int .i64 (gx xs j + k * gx ys j)))
          have Hst := Lib.hid hst
          clear hst hc hown hbe
          go_wp2
          go_region
          go_wp2
          go_roundw
          case rel => exact ⟨j + 1, by omega, by go_num, Lib.hid Hst.out.drew, ⟨hbe2.out.os, hbe2.out.tape, hbe2.out.output, hbe2.out.size, hbe2.out.block⟩⟩
          case measure => first | (simp [intOf]; done) | (simp [intOf]; omega)
        · obtain rfl : j = m := by omega
          have Hall := Lib.hid (show addk xs k ys l j = addK xs k ys by rw [HN.out, ← Hlen2.out]; exact addk_all xs k ys)
          have Ho := Lib.hid (show Ow wr w.heap.size wr.heap.size (.slice A l c) (addK xs k ys) from Ow.of_own (n := l) (by rw [← Hall.out]; exact hown.out))
          have Hl := Lib.hid (show (addK xs k ys).length < 1000000000 by rw [addK_len, ← HN.out]; omega)
          clear hown
          go_wp2_with fail
          refine (l02Trim_any _ _ _ _ Ho.out.is (Nat.le_refl _) Hl.out).mono ?_
          rintro e w2 ⟨v2, rfl, own2, hb2⟩
          go_wp2_with fail
          go_ret
          have hs := hbe.size
          exact ⟨v2, rfl, ⟨own_base own2.1 hs, own2.2⟩, hbe.trans (hb2.mono hs)⟩
end WB
end Go.Proofs.Ytogkblncdpbhnaa
