/-
  PLAIN LAWS, CHAPTER 2: cyclotomic polynomials by reckoning, 1701 to 2000.
-/
import Derived.Test.YtogkblncdpbhnaaPlO
namespace Go.Proofs.Ytogkblncdpbhnaa.Pl
open Go
set_option linter.unusedVariables false
set_option maxRecDepth 100000
theorem chk_1701 : allA 1701 50 = true := by decide +kernel
theorem chk_1751 : allA 1751 50 = true := by decide +kernel
theorem chk_1801 : allA 1801 50 = true := by decide +kernel
theorem chk_1851 : allA 1851 50 = true := by decide +kernel
theorem chk_1901 : allA 1901 50 = true := by decide +kernel
theorem chk_1951 : allA 1951 50 = true := by decide +kernel
theorem chkO5 (n : Nat) (h1 : 1701 ≤ n) (h2 : n ≤ 2000) : chkA n = true ∧ chkP n = true := by
  rcases Nat.lt_or_ge n 1751 with h | h
  · exact allA_at chk_1701 n (by omega) (by omega)
  rcases Nat.lt_or_ge n 1801 with h | h
  · exact allA_at chk_1751 n (by omega) (by omega)
  rcases Nat.lt_or_ge n 1851 with h | h
  · exact allA_at chk_1801 n (by omega) (by omega)
  rcases Nat.lt_or_ge n 1901 with h | h
  · exact allA_at chk_1851 n (by omega) (by omega)
  rcases Nat.lt_or_ge n 1951 with h | h
  · exact allA_at chk_1901 n (by omega) (by omega)
  exact allA_at chk_1951 n (by omega) (by omega)
end Go.Proofs.Ytogkblncdpbhnaa.Pl
