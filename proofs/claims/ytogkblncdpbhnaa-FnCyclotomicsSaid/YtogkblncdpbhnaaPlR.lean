/-
  PLAIN LAWS, CHAPTER 2: the steps of a binomial product; no program in sight.
-/
import Derived.Test.YtogkblncdpbhnaaPlQ
namespace Go.Proofs.Ytogkblncdpbhnaa
set_option linter.unusedVariables false
namespace Pl
open K
theorem drop_gxx {xss : List (List Int)} {k : Nat} (h : k < xss.length) : xss.drop k = gxx xss k :: xss.drop (k + 1) := by
  rw [List.drop_eq_getElem_cons h]; simp [gxx, h]
def mulSt (xss : List (List Int)) (k : Nat) (L : List Int) : List Int × Int := thn (mulR (xss.drop k) L) (divR xss)
def mulIn (xss : List (List Int)) (k e : Nat) (L : List Int) : List Int × Int := thn (thn (mulT (gx (gxx xss k) 0).toNat e L) (mulR (xss.drop (k + 1)))) (divR xss)
def divSt (xss : List (List Int)) (k : Nat) (L : List Int) : List Int × Int := divR (xss.drop k) L
def divIn (xss : List (List Int)) (k e : Nat) (L : List Int) : List Int × Int := thn (divT (gx (gxx xss k) 0).toNat e L) (divR (xss.drop (k + 1)))
variable {xss : List (List Int)} {k a : Nat} {L : List Int}
theorem mulSt_in (h : k < xss.length) : mulSt xss k L = mulIn xss k (gx (gxx xss k) 1).toNat L := by unfold mulSt mulIn; rw [drop_gxx h]; rfl
theorem mulIn_zero : mulIn xss k 0 L = mulSt xss (k + 1) L := rfl
theorem mulIn_ok (e : Nat) (ha : (gx (gxx xss k) 0).toNat = a) (h : (prodP L (binL a)).2 = 0) : mulIn xss k (e + 1) L = mulIn xss k e (prodP L (binL a)).1 := by
  unfold mulIn; rw [ha]; rw [show mulT a (e + 1) L = mulT a e (prodP L (binL a)).1 from if_pos h]
theorem mulIn_no (e : Nat) (ha : (gx (gxx xss k) 0).toNat = a) (h : (prodP L (binL a)).2 ≠ 0) : mulIn xss k (e + 1) L = ([], 3) := by
  unfold mulIn; rw [ha]; rw [show mulT a (e + 1) L = ([], 3) from if_neg h]; rfl
theorem mulSt_end (h : xss.length ≤ k) : mulSt xss k L = divSt xss 0 L := by
  unfold mulSt; rw [List.drop_eq_nil_of_le h]; rfl
theorem divSt_in (h : k < xss.length) : divSt xss k L = divIn xss k (-(gx (gxx xss k) 1)).toNat L := by unfold divSt divIn; rw [drop_gxx h]; rfl
theorem divIn_zero : divIn xss k 0 L = divSt xss (k + 1) L := rfl
theorem divIn_ok (e : Nat) (ha : (gx (gxx xss k) 0).toNat = a) (h : (quoP L (binL a)).2 = 0) : divIn xss k (e + 1) L = divIn xss k e (quoP L (binL a)).1 := by
  unfold divIn; rw [ha]; rw [show divT a (e + 1) L = divT a e (quoP L (binL a)).1 from if_pos h]
theorem divIn_no (e : Nat) (ha : (gx (gxx xss k) 0).toNat = a) (h : (quoP L (binL a)).2 ≠ 0) : divIn xss k (e + 1) L = ([], (quoP L (binL a)).2) := by
  unfold divIn; rw [ha]; rw [show divT a (e + 1) L = ([], (quoP L (binL a)).2) from if_neg h, thn_no h]
theorem divSt_end (h : xss.length ≤ k) : divSt xss k L = (L, 0) := by
  unfold divSt; rw [List.drop_eq_nil_of_le h]; rfl
theorem bnP_run (h : codB xss = 0) : bnP xss = mulSt xss 0 [1] := by unfold bnP; rw [if_pos h]; rfl
theorem bnP_no (h : codB xss ≠ 0) : bnP xss = ([], codB xss) := if_neg h
theorem codB_zero (h : codB xss = 0) : xss.length ≤ 40 ∧ ∀ i, i < xss.length → okB (gxx xss i) = true := by
  unfold codB at h
  split at h
  · cases h
  · split at h
    · rename_i h1 h2; exact ⟨by omega, allB_true.1 h2⟩
    · cases h
end Pl
end Go.Proofs.Ytogkblncdpbhnaa
