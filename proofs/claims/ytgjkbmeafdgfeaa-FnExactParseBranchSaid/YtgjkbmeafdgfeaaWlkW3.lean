/-
  WALKS, TEXTS: numbers between bytes.
-/
import Derived.Test.YtgjkbmeafdgfeaaWlkW1
namespace Go.Proofs.Ytgjkbmeafdgfeaa
open Go.RowKit
set_option linter.unusedVariables false
namespace WW
open K Pl
/-- A list of numbers, or nil and false. -/
def LiN (r : Option (List Int)) (w : World) (e : Ending) (w' : World) : Prop := ∃ v, e = .returned (.tuple #[v, .bool r.isSome]) ∧ Ow w' w.heap.size w'.heap.size v (r.getD []) ∧ Below w.heap.size w w'
theorem vls_take_snoc {ws : List (List UInt8)} {k : Nat} {l : List Int} (h : vls (ws.take k) = some l) (hk : k < ws.length) (hw : vlOk (gs ws k) = true) : vls (ws.take (k + 1)) = some (l ++ [nmI (gs ws k)]) := by
  rw [gs_take ws k hk]
  exact vls_snoc h (nm_val hw)
set_option maxHeartbeats 1600000 in
theorem numbersOf_any (s : ByteArray) (c : UInt8) (ci : Int) (hc : ci = (c.toNat : Int)) (w : World) (hs : s.size ≤ 100000000) :
    Calls Try.prog 15 #[.string s, .int .u8 ci] w (LiN (vls (spl c (L s))) w) := by
  have Hc := Lib.hid hc; clear hc
  have hown0 : (w.alloc (.cells #[] 2)).ownsRow w.heap.size 2 1 (.slice (some ⟨w.heap.size, 0, none⟩) 0 0) ([] : List Int).length (([] : List Int).map (Value.int .i64)) := World.ownsRow_lit w #[] 0 (Nat.le_refl _) (by decide) rfl
  have hbe0 : Below w.heap.size w (w.alloc (.cells #[] 2)) := (Below.refl _ _).alloc (Nat.le_refl _) _
  go_enter Try.func15, Try.ntmps15
  go_wp2_with fail
  refine (wordsOf_any s c ci Hc.out _ (by omega)).mono ?_
  rintro e w1 ⟨v1, rfl, ow1, hb1⟩
  have hs1 : w.heap.size + 1 ≤ w1.heap.size := by have := hb1.size; simpa using this
  have ow2 : OwS w1 (w.heap.size + 1) w1.heap.size v1 (spl c (L s)) := by simpa using ow1
  have hbe1 : Below w.heap.size w w1 := hbe0.trans (hb1.mono (by simp))
  have hown1 := own_later hown0 hb1
  have hlen := spl_len c (L s)
  rw [L_len] at hlen
  obtain ⟨A, cc, rfl, h1, h2, h3⟩ := ow2.is
  unfold maxLen at h2
  generalize hn : (spl c (L s)).length = n at *
  have Hn := Lib.hid hn
  have Hown1 := Lib.hid hown1
  have Hw2 := Lib.hid ow2
  clear hn hbe0 hown0 hown1 ow1 ow2 hb1 h3
  go_wp2
  go_loopw [6, 16] (fun v i wr => ∃ (k : Nat) (l : List Int), k ≤ n ∧ l.length = k ∧ i = .int .i64 k ∧ Hid (vls ((spl c (L s)).take k) = some l) ∧ Hid (OwS wr (w.heap.size + 1) w1.heap.size (.slice A n cc) (spl c (L s))) ∧ Hid (wr.ownsRow w.heap.size 2 1 v l.length (l.map (Value.int .i64))) ∧ Hid (∀ g, v.ownBlock = some g → g < w.heap.size + 1 ∨ w1.heap.size ≤ g) ∧ Below w.heap.size w wr ∧ w1.heap.size ≤ wr.heap.size) (fun _ i _ => n - (intOf i).toNat)
  case atStart => exact ⟨0, [], Nat.zero_le _, rfl, rfl, Lib.hid rfl, Hw2, Hown1, Lib.hid (fun g hg => by simp [Value.ownBlock] at hg; omega), hbe1, Nat.le_refl _⟩
  case round =>
    clear Hown1 Hw2 hbe1
    obtain ⟨k, l, hk, hlk, rfl, Hv, Hw, hown, Hob, hbe, hsw⟩ := hrel
    by_cases hlt : k < n
    · obtain ⟨A', c', e', q1, q2, q3⟩ := Hw.out.is
      simp only [Value.slice.injEq] at e'
      obtain ⟨eA, en, ec⟩ := e'
      subst eA ec
      clear en
      obtain ⟨ad, rfl, hab, hcell⟩ := q3 (by rw [Hn.out]; omega)
      have hc1 := hcell k (by rw [Hn.out]; exact hlt)
      have hi1 : (0 : Int) ≤ (k : Int) ∧ (k : Int) < (n : Int) := by omega
      have hsz : (gs (spl c (L s)) k).length ≤ s.size := by
        have h4 : ∀ w ∈ spl c (L s), w.length ≤ (L s).length := fun w hw => spl_mem_len c (L s) w hw
        have := h4 _ (gs_mem (spl c (L s)) k (by rw [Hn.out]; exact hlt))
        rwa [L_len] at this
      clear hcell q3 q1 q2
      cases hok : vlOk (gs (spl c (L s)) k)
      · have Hr := Lib.hid (show vls (spl c (L s)) = none from vls_none (gs_mem _ k (by rw [Hn.out]; exact hlt)) (vl_no hok))
        go_wp2_with fail
        refine (numberOf_any (S (gs (spl c (L s)) k)) _ (by rw [S_size]; omega)).mono ?_
        rintro e w' ⟨rfl, nn, rfl⟩
        rw [L_S, hok]
        have hbe2 := below_drewN hbe nn
        generalize wr.drewN nn = wn at *
        go_wp2_with fail
        go_ret2
        exact ⟨_, by rw [Hr.out]; rfl, by rw [Hr.out]; exact Ow.nil _ _ _, hbe2⟩
      · have Hnx := Lib.hid (vls_take_snoc Hv.out (by rw [Hn.out]; exact hlt) hok)
        go_wp2_with fail
        refine (numberOf_any (S (gs (spl c (L s)) k)) _ (by rw [S_size]; omega)).mono ?_
        rintro e w' ⟨rfl, nn, rfl⟩
        rw [L_S, hok]
        have hbe2 := below_drewN hbe nn
        have hown2 := own_later hown.out (below_drewN (Below.refl _ _) nn)
        have Hw2 := Lib.hid (Hw.out.later (below_drewN (Below.refl _ _) nn))
        have hsw2 : w1.heap.size ≤ (wr.drewN nn).heap.size := hsw
        generalize wr.drewN nn = wn at *
        generalize hz : nmI (gs (spl c (L s)) k) = z at *
        clear hown Hw hbe hz
        go_wp2_with (at_builtin; refine wp_append_int_at rfl _ _ rfl w.heap.size _ l rfl (hown2.alloc _) wn.heap.size z 1 rfl (by simp) (by omega) (by have := hbe2.size; simp; omega) ?_)
        intro v' w2 hown3 hgrow hat
        have hbe3 := below_append hbe2 hbe2.size hown2 (Nat.le_refl _) hgrow
        have hgs := hgrow.size
        have Hw3 := Lib.hid (show OwS w2 (w.heap.size + 1) w1.heap.size (.slice (some ad) n cc) (spl c (L s)) by
          obtain ⟨a, b, hcg, hd⟩ := chg_of_grown (lo := w.heap.size + 1) (hi := w1.heap.size) hgrow (fun g hg => Hob.out g hg)
          exact (Hw2.out.alloc _).keep hcg hd)
        have Hob2 := Lib.hid (show ∀ g, v'.ownBlock = some g → g < w.heap.size + 1 ∨ w1.heap.size ≤ g from fun g hg => by
          rcases hat with e | e
          · exact Hob.out g (by rw [← e]; exact hg)
          · rw [e] at hg; simp at hg; omega)
        have hsz2 : w1.heap.size ≤ w2.heap.size := by simp at hgs; omega
        have Hown3 := Lib.hid (show w2.ownsRow w.heap.size 2 1 v' (l ++ [z]).length ((l ++ [z]).map (Value.int .i64)) by simpa [hlk] using hown3)
        clear hown3 hown2 hgrow hat hgs Hw2 Hob hbe2
        go_wp2
        go_roundw
        case rel => exact ⟨k + 1, l ++ [z], by omega, by simp; omega, by go_num, Hnx, Hw3, Hown3, Hob2, hbe3, hsz2⟩
        case measure => simp [intOf]; omega
    · have Hr := Lib.hid (show vls (spl c (L s)) = some l by
        have := Hv.out
        rwa [List.take_of_length_le (by rw [Hn.out]; omega)] at this)
      go_wp2
      go_ret2
      exact ⟨_, by rw [Hr.out]; rfl, by rw [Hr.out]; exact Ow.of_own hown.out, hbe⟩
end WW
end Go.Proofs.Ytgjkbmeafdgfeaa
