/-
  PLAIN LAWS, CHAPTER 2: cyclotomic polynomials by reckoning, 701 to 1100.
-/
import Derived.Test.YtogkblncdpbhnaaPlO
namespace Go.Proofs.Ytogkblncdpbhnaa.Pl
open Go
set_option linter.unusedVariables false
set_option maxRecDepth 100000
theorem chk_701 : allA 701 50 = true := by decide +kernel
theorem chk_751 : allA 751 50 = true := by decide +kernel
theorem chk_801 : allA 801 50 = true := by decide +kernel
theorem chk_851 : allA 851 50 = true := by decide +kernel
theorem chk_901 : allA 901 50 = true := by decide +kernel
theorem chk_951 : allA 951 50 = true := by decide +kernel
theorem chk_1001 : allA 1001 50 = true := by decide +kernel
theorem chk_1051 : allA 1051 50 = true := by decide +kernel
theorem chkO2 (n : Nat) (h1 : 701 ≤ n) (h2 : n ≤ 1100) : chkA n = true ∧ chkP n = true := by
  rcases Nat.lt_or_ge n 751 with h | h
  · exact allA_at chk_701 n (by omega) (by omega)
  rcases Nat.lt_or_ge n 801 with h | h
  · exact allA_at chk_751 n (by omega) (by omega)
  rcases Nat.lt_or_ge n 851 with h | h
  · exact allA_at chk_801 n (by omega) (by omega)
  rcases Nat.lt_or_ge n 901 with h | h
  · exact allA_at chk_851 n (by omega) (by omega)
  rcases Nat.lt_or_ge n 951 with h | h
  · exact allA_at chk_901 n (by omega) (by omega)
  rcases Nat.lt_or_ge n 1001 with h | h
  · exact allA_at chk_951 n (by omega) (by omega)
  rcases Nat.lt_or_ge n 1051 with h | h
  · exact allA_at chk_1001 n (by omega) (by omega)
  exact allA_at chk_1051 n (by omega) (by omega)
end Go.Proofs.Ytogkblncdpbhnaa.Pl
