/-
  WALKS, CHAPTER 2: the program's factors.
-/
import Derived.Test.YtogkblncdpbhnaaKitR
import Derived.Test.YtogkblncdpbhnaaKitT
import Derived.Test.YtogkblncdpbhnaaWlkR1
import Derived.Test.YtogkblncdpbhnaaPlOy
import Derived.Deep.CutRange
namespace Go.Proofs.Ytogkblncdpbhnaa
open Go.RowKit
set_option linter.unusedVariables false
namespace WY
open K Pl WA
def rowsF (l : List (Nat × Nat)) : List (List Int) := l.map fun x => [(x.1 : Int), (x.2 : Int)]
theorem rowsF_len (l : List (Nat × Nat)) : (rowsF l).length = l.length := by simp [rowsF]
theorem rowsF_snoc (l : List (Nat × Nat)) (x : Nat × Nat) : rowsF (l ++ [x]) = rowsF l ++ [[(x.1 : Int), (x.2 : Int)]] := by simp [rowsF]
def LiR1 (xss : List (List Int)) (w : World) (e : Ending) (w' : World) : Prop := ∃ v, e = .returned v ∧ OwR w' w.heap.size w'.heap.size v xss ∧ Below w.heap.size w w'
def msF : Value → Value → Nat
  | .int _ a, .int _ c => if a = 1 then 0 else 60 - c.toNat
  | _, _ => 0
theorem msF_mk (a c : Int) : msF (.int .i64 a) (.int .i64 c) = if a = 1 then 0 else 60 - c.toNat := rfl
theorem ms_lt {n p P X n0 : Nat} {l : List (Nat × Nat)} (hn : 1 < n) (hp : p ≤ 45) (hP : P = p ∨ X = 1) (h : ∃ f, l ++ facG f (P + 1) X = facG 50 2 n0 ∧ (X = 1 ∨ (f + (P + 1) = 52 ∧ P + 1 ≤ 45))) :
    msF (.int .i64 X) (.int .i64 ((P : Int) + 1)) < msF (.int .i64 n) (.int .i64 p) := by
  obtain ⟨f, _, h⟩ := h
  have e1 : ¬ (n : Int) = 1 := by omega
  rw [msF_mk, msF_mk, if_neg e1]
  by_cases hx : X = 1
  · rw [if_pos (by omega)]; omega
  · rw [if_neg (by omega)]; omega
set_option maxHeartbeats 4000000 in
theorem factorsOf_any (n0 : Nat) (w : World) (h1 : 1 ≤ n0) (h2 : n0 ≤ 2000) : Calls Try.prog 52 #[.int .i64 n0] w (LiR1 (rowsF (facG 50 2 n0)) w) := by
  have hown0 := OwU.lit w (lo := w.heap.size) (Nat.le_refl _)
  have hbe0 : ∀ o, Below w.heap.size w (w.alloc o) := fun o => (Below.refl _ _).alloc (Nat.le_refl _) o
  go_enter Try.func52, Try.ntmps52
  go_wp2_with fail
  go_loopw [0, 3, 4] (fun a b c wr => ∃ (n p m : Nat) (A6 : Option Addr) (c6 : Nat) (us : List Value) (l : List (Nat × Nat)), a = .int .i64 n ∧ c = .int .i64 p ∧ b = .slice A6 m c6 ∧ 1 ≤ n ∧ n ≤ n0 ∧ 2 ≤ p ∧ p ≤ 2001 ∧ m ≤ 2000 ∧ Hid (∃ f, l ++ facG f p n = facG 50 2 n0 ∧ (n = 1 ∨ (f + p = 52 ∧ p ≤ 45))) ∧ Hid (m + 2 ≤ p ∨ n = 1) ∧ Hid ((rowsF l).length = m) ∧ Hid (OwU wr w.heap.size wr.heap.size (.slice A6 m c6) us (rowsF l)) ∧ Below w.heap.size w wr) (fun a _ c _ => msF a c)
  case atStart => exact ⟨n0, 2, 0, _, 0, [], [], rfl, rfl, rfl, h1, Nat.le_refl _, by omega, by omega, by omega, Lib.hid ⟨50, rfl, .inr ⟨rfl, by omega⟩⟩, Lib.hid (by omega), Lib.hid rfl, Lib.hid (show OwU _ _ _ _ _ [] from by simpa using hown0), hbe0 _⟩
  case round =>
    clear hown0 hbe0
    obtain ⟨n, p, m, A6, c6, us, l, rfl, rfl, rfl, hn, hnn, hp, hp2, hm2, Hf, Hmp, hm, how, hbe⟩ := hrel
    have hbs := hbe.size
    by_cases hn1 : 1 < n
    · have Hstep := Lib.hid (show ∃ f', l ++ ((if (expG 12 (nxP p n) n).2 = 0 then [] else [(nxP p n, (expG 12 (nxP p n) n).2)]) ++ facG f' (nxP p n + 1) (expG 12 (nxP p n) n).1) = facG 50 2 n0 ∧
          ((expG 12 (nxP p n) n).1 = 1 ∨ (f' + (nxP p n + 1) = 52 ∧ nxP p n + 1 ≤ 45)) by
        obtain ⟨f, e, h⟩ := Hf.out
        rcases h with h | ⟨h, h'⟩
        · omega
        · obtain ⟨f', e2, h3⟩ := facG_step (f := f) hn1 (by omega) hp h h'
          exact ⟨f', by rw [← e2]; exact e, h3⟩)
      have hp45 : p ≤ 45 := by
        obtain ⟨f, e, h⟩ := Hf.out
        omega
      have t1 : decide ((1 : Int) < (n : Int)) = true := decide_eq_true (by omega)
      have hpp : 0 ≤ (p : Int) * (p : Int) ∧ (p : Int) * (p : Int) ≤ 2025 := by
        have : p * p ≤ 45 * 45 := Nat.mul_le_mul hp45 hp45
        have e : (p : Int) * (p : Int) = ((p * p : Nat) : Int) := by rw [Int.natCast_mul]
        rw [e]; omega
      clear Hf
      go_upto_if 15 with fail
      go_cut [4] from 7 to 33 (fun u wx => u = .int .i64 ((nxP p n : Nat) : Int) ∧ wr = wx)
      case first =>
        by_cases hlt : n < p * p
        · have t2 : (n : Int) < (p : Int) * (p : Int) := by rw [← Int.natCast_mul]; omega
          have Hq := Lib.hid (show nxP p n = n from if_pos hlt)
          clear hlt
          go_wp2_with fail
          go_meet
          exact ⟨by rw [Hq.out], rfl⟩
        · have t2 : ¬ (n : Int) < (p : Int) * (p : Int) := by rw [← Int.natCast_mul]; omega
          have Hq := Lib.hid (show nxP p n = p from if_neg hlt)
          clear hlt
          go_wp2_with fail
          go_meet
          exact ⟨by rw [Hq.out], rfl⟩
      case rest =>
      obtain ⟨rfl, rfl⟩ := hcut
      have hP2 : 2 ≤ nxP p n ∧ nxP p n ≤ 2000 := by unfold nxP; split <;> omega
      have hXp := expG_pos 12 (nxP p n) n (by omega) hP2.1
      have hXl := expG_le 12 (nxP p n) n
      have HPp := Lib.hid (show nxP p n = p ∨ (expG 12 (nxP p n) n).1 = 1 by
        unfold nxP
        by_cases h : n < p * p
        · rw [if_pos h, expG_self hn1]; exact .inr rfl
        · rw [if_neg h]; exact .inl rfl)
      generalize nxP p n = P at *
      obtain ⟨X, HX⟩ : ∃ X, Hid ((expG 12 P n).1 = X) := ⟨_, Lib.hid rfl⟩
      obtain ⟨E, HE⟩ : ∃ E, Hid ((expG 12 P n).2 = E) := ⟨_, Lib.hid rfl⟩
      rw [HX.out, HE.out] at Hstep
      rw [HX.out] at HPp
      rw [HX.out] at hXp hXl
      have Hp45 := Lib.hid hp45
      clear t1 hpp hp45
      go_wp2_with fail
      go_loop [0, 5] (fun a b => ∃ (n' e f : Nat), a = .int .i64 n' ∧ b = .int .i64 e ∧ 1 ≤ n' ∧ n' ≤ 2000 ∧ e + f ≤ 12 ∧ Hid (n' < 2 ^ f) ∧ Hid ((expG f P n').1 = X) ∧ Hid (e + (expG f P n').2 = E)) (fun a _ => (intOf a).toNat)
      case atStart => exact ⟨n, 0, 12, rfl, rfl, by omega, by omega, by omega, Lib.hid (by show n < 4096; omega), HX, Lib.hid (by rw [Nat.zero_add]; exact HE.out)⟩
      case round =>
        obtain ⟨n', e, f, rfl, rfl, hn1', hn2', hef, Hlt, HX', HE'⟩ := hrel
        by_cases hd : n' % P = 0
        · have hm0 : (n' : Int).tmod (P : Int) = 0 := by rw [← Int.ofNat_tmod, hd]; rfl
          have hq : (n' : Int).tdiv (P : Int) = ((n' / P : Nat) : Int) := (Int.ofNat_tdiv n' P).symm
          have hp0 : (P : Int) ≠ 0 := by omega
          have hq1 : 1 ≤ n' / P := Nat.div_pos (Nat.le_of_dvd hn1' (Nat.dvd_of_mod_eq_zero hd)) (by omega)
          have hq2 : n' / P < n' := Nat.div_lt_self hn1' hP2.1
          obtain ⟨g, rfl⟩ : ∃ g, f = g + 1 := by
            cases f with
            | zero => have := Hlt.out; simp at this; omega
            | succ g => exact ⟨g, rfl⟩
          have Hlt2 := Lib.hid (half_lt hP2.1 Hlt.out)
          rw [expG_yes hd] at HX' HE'
          have HE2 := Lib.hid (show (e + 1) + (expG g P (n' / P)).2 = E by have := HE'.out; omega)
          have HX2 := Lib.hid HX'.out
          clear hd HX' HE' Hlt
          go_wp2_with fail
          go_round
          case rel => exact ⟨n' / P, e + 1, g, rfl, by go_num, hq1, by omega, by omega, Hlt2, HX2, HE2⟩
          case measure => simp [intOf]; omega
        · have hm0 : ((n' : Int) % (P : Int) == 0) = false := by
            rw [beq_eq_false_iff_ne]
            intro e
            have e2 : ((n' % P : Nat) : Int) = 0 := by rw [Int.natCast_emod]; exact e
            exact hd (by omega)
          have hp0 : (P : Int) ≠ 0 := by omega
          rw [expG_no hd] at HX' HE'
          obtain rfl : n' = X := HX'.out
          obtain rfl : e = E := HE'.out
          clear hd HX' HE' Hlt HX HE
          by_cases h0 : e = 0
          · have t2 : ¬ (0 : Int) < (e : Int) := by omega
            have Hf2 := Lib.hid (show ∃ f, l ++ facG f (P + 1) n' = facG 50 2 n0 ∧ (n' = 1 ∨ (f + (P + 1) = 52 ∧ P + 1 ≤ 45)) by
              obtain ⟨f', a1, a2⟩ := Hstep.out
              rw [if_pos h0, List.nil_append] at a1
              exact ⟨f', a1, a2⟩)
            clear h0 Hstep
            go_wp2_with fail
            have Hms := Lib.hid (ms_lt hn1 Hp45.out HPp.out Hf2.out)
            exact ⟨⟨n', P + 1, m, A6, c6, us, l, rfl, by go_num, rfl, hn1', by omega, by omega, by omega, hm2, Hf2, Lib.hid (by have := Hmp.out; have := HPp.out; omega), hm, how, hbe⟩, Hms.out⟩
          · have t2 : (0 : Int) < (e : Int) := by omega
            have Hf2 := Lib.hid (show ∃ f, (l ++ [(P, e)]) ++ facG f (P + 1) n' = facG 50 2 n0 ∧ (n' = 1 ∨ (f + (P + 1) = 52 ∧ P + 1 ≤ 45)) by
              obtain ⟨f', a1, a2⟩ := Hstep.out
              rw [if_neg h0, ← List.append_assoc] at a1
              exact ⟨f', a1, a2⟩)
            have Hms := Lib.hid (ms_lt hn1 Hp45.out HPp.out Hf2.out)
            have hrow : wr.ownsRow w.heap.size 24 1 (.slice A6 m c6) m us := by have h := how.out.row; rw [hm.out] at h; exact h
            have Hm1 := Lib.hid (show m ≤ 44 ∧ (m + 1 + 2 ≤ P + 1 ∨ n' = 1) by have := Hmp.out; have := HPp.out; have := Hp45.out; omega)
            have hm44 := Hm1.out.1
            clear h0 Hstep
            go_wp2_with (at_builtin; refine wp_append_row rfl _ _ rfl w.heap.size _ m us rfl ((hrow.alloc _).alloc _) (wr.heap.size + 1) (some ⟨wr.heap.size, 0, none⟩) 2 2 1 rfl (by simp) (by omega) (by have := hbe.size; simp; omega) ?_)
            intro v' w2 hown2 hgrow hat
            have how2 := Lib.hid (OwU.snoc (ys := [(P : Int), (e : Int)]) how.out (Nat.le_refl _) hbs (((Below.refl _ _).alloc (Nat.le_refl _) _).alloc (by simp) _) (WA.ow_lit2 wr _ _ _) (by rw [hm.out]; exact hown2) hgrow (by simp only [World.size_alloc]; exact hat))
            have hbe3 : Below w.heap.size w w2 := (hbe.trans ((((Below.refl _ _).alloc (Nat.le_refl _) _).alloc (by simp) _).mono hbs)).grown hgrow (by have := hbe.size; simp; omega) (fun k' hk' => (hrow.lt k' hk').1)
            have HL := Lib.hid (show (rowsF (l ++ [(P, e)])).length = m + 1 by rw [rowsF_len, List.length_append, ← hm.out, rowsF_len]; rfl)
            rw [← show rowsF (l ++ [(P, e)]) = rowsF l ++ [[(P : Int), (e : Int)]] from rowsF_snoc l (P, e)] at how2
            obtain ⟨A7, c7, rfl, hnc7, hcm7⟩ := own_shape how2.out.row
            rw [HL.out] at how2 hnc7 ⊢
            clear hown2 hgrow hat hrow how hbe hm
            go_wp2_with fail
            exact ⟨⟨n', P + 1, m + 1, A7, c7, _, l ++ [(P, e)], rfl, by go_num, rfl, hn1', by omega, by omega, by omega, by omega, Hf2, Lib.hid Hm1.out.2, HL, how2, hbe3⟩, Hms.out⟩
    · obtain rfl : n = 1 := by omega
      have Hl := Lib.hid (show l = facG 50 2 n0 by obtain ⟨f, e, _⟩ := Hf.out; rw [facG_one, List.append_nil] at e; exact e)
      go_wp2_with fail
      go_ret
      exact ⟨_, rfl, by rw [← Hl.out]; exact ⟨us, how.out⟩, hbe⟩
end WY
end Go.Proofs.Ytogkblncdpbhnaa
