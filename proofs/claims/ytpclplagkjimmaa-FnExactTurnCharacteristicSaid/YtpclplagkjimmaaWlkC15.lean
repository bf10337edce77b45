/-
  WALKS, CHAPTER 3: turned characteristics by the reference (begun: the greatest common divisor with the least int64).
-/
import Derived.Test.YtpclplagkjimmaaWlkC14
namespace Go.Proofs.Ytpclplagkjimmaa
open Go.RowKit
set_option linter.unusedVariables false
namespace WC
open K Pl WA WL
/-- With the least int64 the reference's divisor is what its first argument is. -/
theorem l01Gcd_least (a : Int) (w : World) (ha : 0 ≤ a) (ha' : a ≤ 9223372036854775807) :
    Calls Try.prog 58 #[.int .i64 a, .int .i64 (-9223372036854775808)] w fun e w' => e = .returned (.int .i64 a) ∧ w = w' := by
  go_enter Try.func58, Try.ntmps58
  go_wp2
  go_loop [0, 1] (fun u v => u = .int .i64 a ∧ v = .int .i64 (-9223372036854775808)) (fun _ v => (intOf v).toNat)
  case atStart => exact ⟨rfl, by first | (rw [show wrap64 9223372036854775808 = -9223372036854775808 by kernel_rfl]; done) | (simp [wrap64]; done) | (simp [wrap64]; decide)⟩
  case round =>
    obtain ⟨rfl, rfl⟩ := hrel
    go_wp2
    go_ret
    exact ⟨rfl, rfl⟩
end WC
end Go.Proofs.Ytpclplagkjimmaa
