/-
  PLAIN LAWS, CHAPTER 2: cyclotomic polynomials by reckoning, 1401 to 1700.
-/
import Derived.Test.YtogkblncdpbhnaaPlO
namespace Go.Proofs.Ytogkblncdpbhnaa.Pl
open Go
set_option linter.unusedVariables false
set_option maxRecDepth 100000
theorem chk_1401 : allA 1401 50 = true := by decide +kernel
theorem chk_1451 : allA 1451 50 = true := by decide +kernel
theorem chk_1501 : allA 1501 50 = true := by decide +kernel
theorem chk_1551 : allA 1551 50 = true := by decide +kernel
theorem chk_1601 : allA 1601 50 = true := by decide +kernel
theorem chk_1651 : allA 1651 50 = true := by decide +kernel
theorem chkO4 (n : Nat) (h1 : 1401 ≤ n) (h2 : n ≤ 1700) : chkA n = true ∧ chkP n = true := by
  rcases Nat.lt_or_ge n 1451 with h | h
  · exact allA_at chk_1401 n (by omega) (by omega)
  rcases Nat.lt_or_ge n 1501 with h | h
  · exact allA_at chk_1451 n (by omega) (by omega)
  rcases Nat.lt_or_ge n 1551 with h | h
  · exact allA_at chk_1501 n (by omega) (by omega)
  rcases Nat.lt_or_ge n 1601 with h | h
  · exact allA_at chk_1551 n (by omega) (by omega)
  rcases Nat.lt_or_ge n 1651 with h | h
  · exact allA_at chk_1601 n (by omega) (by omega)
  exact allA_at chk_1651 n (by omega) (by omega)
end Go.Proofs.Ytogkblncdpbhnaa.Pl
