/-
  WALKS, CHAPTER 1: the steps of Euclid's algorithm by the reference; continued fractions.
-/
import Derived.Test.YtcnoaclijhcckaaWlkR1
import Derived.Test.YtcnoaclijhcckaaWlkA6
namespace Go.Proofs.Ytcnoaclijhcckaa
open Go.RowKit
set_option linter.unusedVariables false
namespace WA
open K Pl
set_option maxHeartbeats 800000 in
theorem l01Steps_any (x0 y0 : Nat) (w : World) (hx : x0 ≤ 1000000000) (hy : y0 ≤ 1000000000) : Calls Try.prog 60 #[.int .i64 (x0 : Int), .int .i64 (y0 : Int)] w fun e w' => ∃ v, e = .returned v ∧ OwR w' w.heap.size w'.heap.size v (steps x0 y0) ∧ Below w.heap.size w w' := by
  have h0 := OwU.lit w (lo := w.heap.size) (Nat.le_refl _)
  have hb0 : Below w.heap.size w (w.alloc (.cells #[] 24)) := (Below.refl _ _).alloc (Nat.le_refl _) _
  have Hl := Lib.hid (steps_len y0 x0 y0 (Nat.le_refl _))
  go_enter Try.func60, Try.ntmps60
  go_wp2
  go_loopw [0, 1, 5] (fun s t v wr => ∃ (x y : Nat) (us : List Value) (acc : List (List Int)) (n : Nat), s = .int .i64 x ∧ t = .int .i64 y ∧ x ≤ 1000000000 ∧ y ≤ 1000000000 ∧ Hid (acc.length = n) ∧ n ≤ 1000000000 ∧ Hid (acc ++ steps x y = steps x0 y0) ∧ Hid (OwU wr w.heap.size wr.heap.size v us acc) ∧ Below w.heap.size w wr) (fun _ t _ _ => (intOf t).toNat)
  case atStart => exact ⟨x0, y0, [], [], 0, rfl, rfl, hx, hy, Lib.hid rfl, by omega, Lib.hid rfl, Lib.hid (by simpa using h0), hb0⟩
  case round =>
    clear h0 hb0
    obtain ⟨x, y, us, acc, n, rfl, rfl, hx, hy, hn, hn9, hst, how, hbe⟩ := hrel
    obtain ⟨A, c, rfl, hnc, hcm⟩ := own_shape how.out.row
    rw [hn.out]
    rw [hn.out] at hnc
    by_cases hp : 0 < y
    · have Hstep := Lib.hid (show (acc ++ [[(x : Int) / (y : Int), (y : Int)]]) ++ steps y (x % y) = steps x0 y0 by
        rw [← hst.out, steps_cast x y hp]; simp)
      have hnn : n + 1 ≤ 1000000000 := by
        have e := congrArg List.length Hstep.out
        have := Hl.out
        have := hn.out
        simp at e; omega
      have hlt : x % y < y := Nat.mod_lt _ hp
      have hq : 0 ≤ (x : Int) / (y : Int) := Int.ediv_nonneg (by omega) (by omega)
      have hq' : (x : Int) / (y : Int) ≤ 1000000000 := Int.le_trans (Int.ediv_le_self _ (by omega)) (by omega)
      have hm : 0 ≤ (x : Int) % (y : Int) := Int.emod_nonneg _ (by omega)
      have hm' : (x : Int) % (y : Int) < (y : Int) := Int.emod_lt_of_pos _ (by omega)
      have hrow : wr.ownsRow w.heap.size 24 1 (.slice A n c) n us := by have h := how.out.row; rw [hn.out] at h; exact h
      go_wp2_with (at_builtin; refine wp_append_row rfl _ _ rfl w.heap.size _ n us rfl ((hrow.alloc _).alloc _) (wr.heap.size + 1) (some ⟨wr.heap.size, 0, none⟩) 2 2 1 rfl (by simp) (by omega) (by have := hbe.size; simp; omega) ?_)
      intro v' w2 hown2 hgrow hat
      have how2 := Lib.hid (OwU.snoc (ys := [(x : Int) / (y : Int), (y : Int)]) how.out (Nat.le_refl _) hbe.size (((Below.refl _ _).alloc (Nat.le_refl _) _).alloc (by simp) _) (ow_lit2 wr _ _ _) (by rw [hn.out]; exact hown2) (by rw [hn.out]; exact hgrow) (by rw [hn.out]; simp only [World.size_alloc]; exact hat))
      have hbe2 : Below w.heap.size w w2 := (hbe.trans ((((Below.refl _ _).alloc (Nat.le_refl _) _).alloc (by simp) _).mono hbe.size)).grown hgrow (by have := hbe.size; simp; omega) (fun k hk => (hrow.lt k hk).1)
      clear hown2 hgrow hat hrow how
      obtain ⟨A', c', rfl, hnc', hcm'⟩ := own_shape how2.out.row
      go_wp2
      go_roundw
      case rel => exact ⟨y, x % y, _, _, n + 1, rfl, by rw [Int.natCast_emod], hy, by omega, Lib.hid (by simp [hn.out]), hnn, Hstep, how2, hbe2⟩
      case measure => simp [intOf]; omega
    · obtain rfl : y = 0 := by omega
      have Hres := Lib.hid (show acc = steps x0 y0 by rw [← hst.out, steps_zero]; simp)
      go_wp2
      go_ret
      exact ⟨_, rfl, ⟨us, by rw [← Hres.out]; have h := how.out; rw [hn.out] at h; exact h⟩, hbe⟩
/-- What a function that returns a list of lists and a code leaves. -/
def LiR (r : List (List Int) × Int) (w : World) (e : Ending) (w' : World) : Prop := ∃ v, e = .returned (.tuple #[v, .int .i64 r.2]) ∧ OwR w' w.heap.size w'.heap.size v r.1 ∧ Below w.heap.size w w'
theorem LiR.nil {w w' : World} {c : Int} {r : List (List Int) × Int} (hr : r = ([], c)) (h : Below w.heap.size w w') : LiR r w (.returned (.tuple #[.slice none 0 0, .int .i64 c])) w' := by
  subst hr
  exact ⟨_, rfl, OwR.nil _ _ _, h⟩
def eucF (a b : Int) : List (List Int) × Int := if isNat a && isNat b then (steps a.toNat b.toNat, 0) else ([], 2)
def cfF (a b : Int) : List Int × Int := if isNat a && isNat b then (cf a.toNat b.toNat, 0) else ([], 2)
theorem cfF_len (a b : Int) : (cfF a b).1.length ≤ 1000000000 := by
  unfold cfF; split
  · rename_i h
    simp only [Bool.and_eq_true] at h
    have hb := isNat_true.1 h.2
    have := steps_len b.toNat a.toNat b.toNat (Nat.le_refl _)
    simp [cf]; omega
  · simp
/-- The first numbers of the first k rows. -/
def fsts (xss : List (List Int)) (k : Nat) : List Int := (List.range k).map fun j => gx (gxx xss j) 0
theorem fsts_snoc (xss : List (List Int)) (k : Nat) : fsts xss (k + 1) = fsts xss k ++ [gx (gxx xss k) 0] := by simp [fsts, List.range_succ]
theorem fsts_len (xss : List (List Int)) (k : Nat) : (fsts xss k).length = k := by simp [fsts]
theorem fsts_all (xss : List (List Int)) (n : Nat) (h : xss.length = n) : fsts xss n = xss.map fun s => s.getD 0 0 := by
  subst h
  apply List.ext_getElem (by simp [fsts])
  intro j h1 h2
  simp [fsts] at h1 ⊢
  rw [gxx_eq xss j h1]; rfl
end WA
end Go.Proofs.Ytcnoaclijhcckaa
