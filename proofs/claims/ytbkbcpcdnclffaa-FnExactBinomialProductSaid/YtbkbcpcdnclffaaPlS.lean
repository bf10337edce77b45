/-
  PLAIN LAWS, CHAPTER 2: how long a binomial product is; no program in sight.
-/
import Derived.Test.YtbkbcpcdnclffaaPlR
namespace Go.Proofs.Ytbkbcpcdnclffaa
set_option linter.unusedVariables false
namespace Pl
open K
def GoodP (r : List Int × Int) : Prop := (r.2 = 0 ∧ isPoly r.1 = true ∧ 0 < r.1.length) ∨ (r.2 ≠ 0 ∧ r.1 = [])
theorem mulT_good {n : Nat} (h1 : 1 ≤ n) (h2 : n ≤ 2000) : ∀ (e : Nat) (L : List Int), isPoly L = true → 0 < L.length → GoodP (mulT n e L)
  | 0, L, h, h0 => .inl ⟨rfl, h, h0⟩
  | e + 1, L, h, h0 => by
    unfold mulT
    split
    · rename_i hc
      have := step_mul h1 h2 h h0 hc
      exact mulT_good h1 h2 e _ this.1 this.2
    · exact .inr ⟨by decide, rfl⟩
theorem divT_good {n : Nat} (h1 : 1 ≤ n) (h2 : n ≤ 2000) : ∀ (e : Nat) (L : List Int), isPoly L = true → 0 < L.length → GoodP (divT n e L)
  | 0, L, h, h0 => .inl ⟨rfl, h, h0⟩
  | e + 1, L, h, h0 => by
    unfold divT
    split
    · rename_i hc
      have := step_div h1 h2 h h0 hc
      exact divT_good h1 h2 e _ this.1 this.2
    · rename_i hc
      exact .inr ⟨hc, rfl⟩
theorem thn_good {r : List Int × Int} {f : List Int → List Int × Int} (h : GoodP r) (hf : ∀ L, isPoly L = true → 0 < L.length → GoodP (f L)) : GoodP (thn r f) := by
  unfold thn
  rcases h with ⟨h, h1, h2⟩ | ⟨h, h1⟩
  · rw [if_pos h]; exact hf _ h1 h2
  · rw [if_neg h]; exact .inr ⟨h, rfl⟩
theorem mulR_good : ∀ (t : List (List Int)) (L : List Int), (∀ s ∈ t, okB s = true) → isPoly L = true → 0 < L.length → GoodP (mulR t L)
  | [], L, _, h, h0 => .inl ⟨rfl, h, h0⟩
  | s :: t, L, ht, h, h0 => by
    have hs := okB_true.1 (ht s (by simp))
    exact thn_good (mulT_good (by omega) (by omega) _ L h h0) fun M m m0 => mulR_good t M (fun s' hs' => ht s' (by simp [hs'])) m m0
theorem divR_good : ∀ (t : List (List Int)) (L : List Int), (∀ s ∈ t, okB s = true) → isPoly L = true → 0 < L.length → GoodP (divR t L)
  | [], L, _, h, h0 => .inl ⟨rfl, h, h0⟩
  | s :: t, L, ht, h, h0 => by
    have hs := okB_true.1 (ht s (by simp))
    exact thn_good (divT_good (by omega) (by omega) _ L h h0) fun M m m0 => divR_good t M (fun s' hs' => ht s' (by simp [hs'])) m m0
theorem bnP_good (xss : List (List Int)) : GoodP (bnP xss) := by
  unfold bnP
  split
  · rename_i hc
    have ha : ∀ s ∈ xss, okB s = true := fun s hs => by
      obtain ⟨i, hi, rfl⟩ := List.getElem_of_mem hs
      have := (codB_zero hc).2 i hi
      simpa [gxx, hi] using this
    exact thn_good (mulR_good xss [1] ha (by decide) (by decide)) fun L h h0 => divR_good xss L ha h h0
  · rename_i hc
    exact .inr ⟨hc, rfl⟩
theorem bnP_len (xss : List (List Int)) : (bnP xss).1.length ≤ 1000000000 := by
  rcases bnP_good xss with ⟨_, h, _⟩ | ⟨_, h⟩
  · have := (isPoly_true.1 h).1; omega
  · rw [h]; simp
end Pl
end Go.Proofs.Ytbkbcpcdnclffaa
