/-
  PLAIN LAWS, CHAPTER 2: cyclotomic polynomials by reckoning, 1101 to 1400.
-/
import Derived.Test.YtogkblncdpbhnaaPlO
namespace Go.Proofs.Ytogkblncdpbhnaa.Pl
open Go
set_option linter.unusedVariables false
set_option maxRecDepth 100000
theorem chk_1101 : allA 1101 50 = true := by decide +kernel
theorem chk_1151 : allA 1151 50 = true := by decide +kernel
theorem chk_1201 : allA 1201 50 = true := by decide +kernel
theorem chk_1251 : allA 1251 50 = true := by decide +kernel
theorem chk_1301 : allA 1301 50 = true := by decide +kernel
theorem chk_1351 : allA 1351 50 = true := by decide +kernel
theorem chkO3 (n : Nat) (h1 : 1101 ≤ n) (h2 : n ≤ 1400) : chkA n = true ∧ chkP n = true := by
  rcases Nat.lt_or_ge n 1151 with h | h
  · exact allA_at chk_1101 n (by omega) (by omega)
  rcases Nat.lt_or_ge n 1201 with h | h
  · exact allA_at chk_1151 n (by omega) (by omega)
  rcases Nat.lt_or_ge n 1251 with h | h
  · exact allA_at chk_1201 n (by omega) (by omega)
  rcases Nat.lt_or_ge n 1301 with h | h
  · exact allA_at chk_1251 n (by omega) (by omega)
  rcases Nat.lt_or_ge n 1351 with h | h
  · exact allA_at chk_1301 n (by omega) (by omega)
  exact allA_at chk_1351 n (by omega) (by omega)
end Go.Proofs.Ytogkblncdpbhnaa.Pl
