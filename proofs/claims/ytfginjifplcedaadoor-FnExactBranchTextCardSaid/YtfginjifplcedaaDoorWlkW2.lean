/-
  WALKS, TEXTS: decimal numerals by recursion.
-/
import Derived.Test.YtfginjifplcedaaDoorWlkW1
import Derived.Deep.RegionHeld3
import Derived.Laws.BytesArg
import Derived.RegionCalls
namespace Go.Proofs.YtfginjifplcedaaDoor
open Go.RowKit
set_option linter.unusedVariables false
namespace WW
open K Pl
theorem run_conv1 (W : World) (g o c : Nat) (x : Int) (hc : W.cell? ⟨g, o, none⟩ = some (.int .u8 x)) : (convert 43 9 (.slice (some ⟨g, o, none⟩) 1 c)).run Tryd.prog W = .ok (.string (S [UInt8.ofNat x.toNat])) W := by
  have := run_convert_bytes_arg (P := Tryd.prog) W 43 5 Tryd.underlying43 Tryd.underlying5 g o 1 c [x] rfl (by
    intro i hi
    obtain rfl : i = 0 := by omega
    simpa using hc) 9 Tryd.underlying9
  rw [this]; rfl
theorem cell_new {W w1 : World} {x : Value} {t : TypeId} (hb : Below (W.alloc (.cells #[x] t)).drew.heap.size (W.alloc (.cells #[x] t)).drew w1) : w1.cell? ⟨W.heap.size, 0, none⟩ = some x :=
  (hb.cell (p := ⟨W.heap.size, 0, none⟩) (by simp)).trans (by simp [go_sem])
set_option maxHeartbeats 1600000 in
theorem l01Dec_any (n : Nat) : ∀ (w : World), n ≤ 1000000000000000 → Calls Tryd.prog 18 #[.int .i64 (n : Int)] w fun e w' => e = .returned (.string (S (dec n))) ∧ Below w.heap.size w w' := by
  induction n using Nat.strongRecOn with
  | _ n ih =>
    intro w hn
    have hcv := run_conv1
    by_cases h : n < 10
    · have hd : (n : Int) < 10 := by omega
      have Hr := Lib.hid (dec_small h)
      go_enter Tryd.func18, Tryd.ntmps18
      go_wp2_with fail
      go_ret
      exact ⟨ret_s (by rw [Hr.out]), (Below.refl _ _).alloc (Nat.le_refl _) _⟩
    · have hd : ¬ (n : Int) < 10 := by omega
      have Hr := Lib.hid (dec_big h)
      have IH := ih (n / 10) (by omega)
      clear ih
      obtain ⟨q, hq⟩ : ∃ q, q = n / 10 := ⟨_, rfl⟩
      obtain ⟨m, hm⟩ : ∃ m, m = n % 10 := ⟨_, rfl⟩
      rw [← hq, ← hm] at Hr
      rw [← hq] at IH
      have h1 : (n : Int).tdiv 10 = (q : Int) := by rw [Int.tdiv_eq_ediv_of_nonneg (by omega), hq]; omega
      have h2 : (n : Int) / 10 = (q : Int) := by rw [hq]; omega
      have h3 : (n : Int).tmod 10 = (m : Int) := by rw [Int.tmod_eq_emod_of_nonneg (by omega), hm]; omega
      have h4 : (n : Int) % 10 = (m : Int) := by rw [hm]; omega
      have h5 : IntKind.i64.wrap (48 + (m : Int)) = 48 + (m : Int) := IntWalk.i64_in _ (by omega)
      have h6 : IntKind.i64.wrap (q : Int) = (q : Int) := IntWalk.i64_in _ (by omega)
      have h7 : IntKind.u8.wrap (48 + (m : Int)) = 48 + (m : Int) := by simp [IntKind.wrap, IntKind.bits, IntKind.signed]; omega
      have hqn : q ≤ 1000000000000000 := by omega
      have hz1 : (S (dec q)).size ≤ 16 := by
        rw [S_size, dec_len]; exact nD_le 16 q (by decide) (by rw [show (10 : Nat) ^ 16 = 10000000000000000 by decide]; omega)
      have hz2 : (S [UInt8.ofNat (48 + m)]).size = 1 := rfl
      have hz3 : ¬ (9223372036854775807 < (S (dec q)).size + 1) := by omega
      clear hq hm h
      go_enter Tryd.func18, Tryd.ntmps18
      go_wp2_with fail
      go_region_with (go_at_call 18; refine (IH _ hqn).mono ?_; rintro e w1 ⟨rfl, hb⟩; (first | (have z := cell_new hb) | skip))
      all_goals
        go_wp2_with fail
        go_ret
        have e48 : (48 : UInt8) + UInt8.ofNat m = UInt8.ofNat (48 + m) := by simp
        refine ⟨ret_s (by rw [Hr.out, ← S_append, ← e48]), ?_⟩
        first
          | exact ((below_drewN (Below.refl _ _) 1).trans (hb.mono (Nat.le_refl _))).alloc (by have := hb.size; simpa using this) _
          | exact ((below_drewN ((Below.refl _ _).alloc (Nat.le_refl _) _) 1).trans (hb.mono (by simp)))
          | trace_state
end WW
end Go.Proofs.YtfginjifplcedaaDoor
