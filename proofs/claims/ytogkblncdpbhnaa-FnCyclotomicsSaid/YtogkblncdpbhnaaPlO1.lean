/-
  PLAIN LAWS, CHAPTER 2: cyclotomic polynomials by reckoning, 1 to 700.
-/
import Derived.Test.YtogkblncdpbhnaaPlO
namespace Go.Proofs.Ytogkblncdpbhnaa.Pl
open Go
set_option linter.unusedVariables false
set_option maxRecDepth 100000
theorem chk_1 : allA 1 100 = true := by decide +kernel
theorem chk_101 : allA 101 100 = true := by decide +kernel
theorem chk_201 : allA 201 100 = true := by decide +kernel
theorem chk_301 : allA 301 100 = true := by decide +kernel
theorem chk_401 : allA 401 100 = true := by decide +kernel
theorem chk_501 : allA 501 100 = true := by decide +kernel
theorem chk_601 : allA 601 100 = true := by decide +kernel
theorem chkO1 (n : Nat) (h1 : 1 ≤ n) (h2 : n ≤ 700) : chkA n = true ∧ chkP n = true := by
  rcases Nat.lt_or_ge n 101 with h | h
  · exact allA_at chk_1 n (by omega) (by omega)
  rcases Nat.lt_or_ge n 201 with h | h
  · exact allA_at chk_101 n (by omega) (by omega)
  rcases Nat.lt_or_ge n 301 with h | h
  · exact allA_at chk_201 n (by omega) (by omega)
  rcases Nat.lt_or_ge n 401 with h | h
  · exact allA_at chk_301 n (by omega) (by omega)
  rcases Nat.lt_or_ge n 501 with h | h
  · exact allA_at chk_401 n (by omega) (by omega)
  rcases Nat.lt_or_ge n 601 with h | h
  · exact allA_at chk_501 n (by omega) (by omega)
  exact allA_at chk_601 n (by omega) (by omega)
end Go.Proofs.Ytogkblncdpbhnaa.Pl
