/-
  WORDS FOR MEMORY: a slice of bytes that is only read; the source of a draw.
-/
import Derived.Test.YtogkblncdpbhnaaKit
import Derived.Laws.BitsLemmas
namespace Go.Proofs.Ytogkblncdpbhnaa
open Go.RowKit Go.ChangeShapes Go.WideShapes Go.Joins Go.Deep
set_option linter.unusedVariables false
namespace K
open Pl
/-- A value that is a slice of n bytes. -/
def IsY (w : World) (B : Nat) (v : Value) (n : Nat) : Prop := ∃ A c, v = .slice A n c ∧ n ≤ c ∧ c ≤ maxLen ∧ (0 < n → ∃ ad, A = some ad ∧ ad.block < B ∧ ∀ j, j < n → ∃ x : Int, w.cell? (ad.add j) = some (.int .u8 x) ∧ 0 ≤ x ∧ x ≤ 255)
section
variable {w w' : World} {B B' : Nat} {v : Value} {n : Nat}
theorem IsY.keep (h : IsY w B v n) (hk : ∀ p : Addr, p.block < B → w'.cell? p = w.cell? p) : IsY w' B v n := by
  obtain ⟨A, c, e, h1, h2, h3⟩ := h
  refine ⟨A, c, e, h1, h2, fun hn => ?_⟩
  obtain ⟨ad, ea, hb, hc⟩ := h3 hn
  refine ⟨ad, ea, hb, fun j hj => ?_⟩
  obtain ⟨x, hx, r⟩ := hc j hj
  exact ⟨x, (hk _ (by rw [block_of_add]; exact hb)).trans hx, r⟩
theorem IsY.below (h : IsY w B v n) (hb : Below B w w') : IsY w' B v n := h.keep fun _ hp => hb.cell hp
theorem IsY.more (h : IsY w B v n) (hB : B ≤ B') : IsY w B' v n := by
  obtain ⟨A, c, e, h1, h2, h3⟩ := h
  refine ⟨A, c, e, h1, h2, fun hn => ?_⟩
  obtain ⟨ad, ea, hb, hc⟩ := h3 hn
  exact ⟨ad, ea, by omega, hc⟩
end
/-- An argument '[]byte', opened. -/
theorem view_code {H : Type} {enc : TypeId × Value → H} {P : Program} {W : World} {base : Nat} {t e : TypeId} {v : Value} {d : DataW H} {p : List MemPlace}
    (ht : P.underlying t = some (.slice e)) (he : P.underlying e = some (.int .u8)) (hc : P.cellsOf e = 1)
    (hok : Value.okWide P W .any base t v) (h : DataW.Trod enc P W 0 (fun _ => true) true t v d p) (hlt : ∀ x ∈ p, x.block < W.heap.size) :
    ∃ n : Nat, IsY W W.heap.size v n := by
  obtain ⟨a0, len, cap, rfl⟩ := okWide_slice ht hok
  obtain ⟨fuel, hf⟩ := h
  rcases open_ints ht he hc hf with ⟨hcs, hx⟩ | ⟨a, len', cap', zs, hcs, _, hl, hm, hz, hx, hcell, hwz⟩
  · simp [Value.cells] at hcs
    obtain ⟨rfl, rfl, rfl⟩ := hcs
    exact ⟨0, none, 0, rfl, by omega, by omega, fun h => absurd h (by omega)⟩
  · simp [Value.cells] at hcs
    obtain ⟨rfl, rfl, rfl⟩ := hcs
    simp only [Prod.mk.injEq] at hx
    simp only [if_true] at hz
    refine ⟨len, some a, cap, rfl, hl, hm, fun hn => ⟨a, rfl, ?_, fun j hj => ?_⟩⟩
    · have := hlt (.cell a.block a.off) (by rw [hx.2]; exact MemPlace.mem_row.2 ⟨0, by omega, by simp⟩)
      exact this
    · have hjz : j < zs.length := by omega
      refine ⟨zs[j], by rw [hcell j (by omega)]; simp [hjz], ?_⟩
      have hw := hwz zs[j] (List.getElem_mem hjz)
      simp [Lit.wf, IntKind.min, IntKind.max, IntKind.signed, IntKind.bits] at hw
      omega
theorem wrap_u64' (n : Int) : IntKind.u64.wrap n = n % 18446744073709551616 := by simp [IntKind.wrap, IntKind.bits, IntKind.signed]
theorem and24 (x : Int) : 0 ≤ bits .and .u64 x 16777215 ∧ bits .and .u64 x 16777215 ≤ 16777215 := by
  have h : (BitVec.ofInt 64 x &&& BitVec.ofInt 64 16777215).toNat ≤ 16777215 := by
    rw [BitVec.toNat_and]
    exact Nat.and_le_right
  have e : bits .and .u64 x 16777215 = IntKind.u64.wrap ((BitVec.ofInt 64 x &&& BitVec.ofInt 64 16777215).toNat : Int) := rfl
  rw [e, wrap_u64']
  omega
/-- The source of a draw: a code, a place in it, a hash; in block b. -/
structure Src (w : World) (B b : Nat) : Prop where
  ex : ∃ (v : Value) (n t : Nat) (h : Int), IsY w B v n ∧ t ≤ n ∧ w.cell? ⟨b, 0, none⟩ = some v ∧ w.cell? ⟨b, 1, none⟩ = some (.int .i64 (t : Int)) ∧ w.cell? ⟨b, 2, none⟩ = some (.int .u64 h)
  f1 : w.frozen? ⟨b, 1, none⟩ = false
  f2 : w.frozen? ⟨b, 2, none⟩ = false
  lt : B ≤ b
section
variable {w w' : World} {B b lo hi : Nat}
theorem Src.here (h : Src w B b) : b < w.heap.size := by
  obtain ⟨v, n, t, x, _, _, h0, _, _⟩ := h.ex
  exact World.block_lt_of_cell? w ⟨b, 0, none⟩ h0
/-- The source is as it was, where its block and those of its code have not turned. -/
theorem Src.keep (h : Src w B b) (hc : Chg lo hi w w') (hd : b < lo ∨ hi ≤ b) (hB : B ≤ lo ∨ hi = 0) : Src w' B b := by
  have hlt := h.here
  obtain ⟨⟨v, n, t, x, hv, ht, h0, h1, h2⟩, f1, f2, hl⟩ := h
  have hfr : ∀ o, w'.frozen? ⟨b, o, none⟩ = w.frozen? ⟨b, o, none⟩ := fun o => World.frozen?_of_block (w := w) (hc.block b hlt (by omega))
  refine ⟨⟨v, n, t, x, hv.keep fun p hp => ?_, ht, hc.cell h0 hd, hc.cell h1 hd, hc.cell h2 hd⟩, (hfr 1).trans f1, (hfr 2).trans f2, hl⟩
  exact World.cell?_of_block (w := w) (hc.block p.block (by omega) (by omega))
theorem Src.later (h : Src w B b) (hb : Below w.heap.size w w') : Src w' B b := h.keep (Chg.of_below hb) (.inr (Nat.zero_le _)) (.inr rfl)
end
end K
end Go.Proofs.Ytogkblncdpbhnaa
