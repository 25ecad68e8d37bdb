/-
  A part of the walk and of the plain law of one given statement. No condition.
-/
import Derived.Test.YtpjmgeajajcceaaPS
set_option linter.unusedVariables false
namespace Go.Proofs.Ytpjmgeajajcceaa
open Go.Sl Go.Sx
/-- floor of q*d + rest times n over d. -/
theorem floorMul {m n d : Int} (hd : 1 ≤ d) : (m / d) * n + ((m - (m / d) * d) * n) / d = (m * n) / d := by
  have e : m * n = (m - (m / d) * d) * n + (m / d * n) * d := by
    rw [Int.sub_mul, Int.mul_assoc (m / d) n d, Int.mul_comm n d, ← Int.mul_assoc]
    omega
  rw [e, Int.add_mul_ediv_right _ _ (by omega : d ≠ 0)]
  omega
end Go.Proofs.Ytpjmgeajajcceaa
