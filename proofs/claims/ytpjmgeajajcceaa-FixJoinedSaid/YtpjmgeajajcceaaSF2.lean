/-
  A part of the walk and of the plain law of one given statement. No condition.
-/
import Derived.Test.YtpjmgeajajcceaaSFb
namespace Go.Proofs.Ytpjmgeajajcceaa
theorem sane_true : F13 64 = some true := by kernel_rfl
end Go.Proofs.Ytpjmgeajajcceaa
namespace Go.Proofs.Ytpjmgeajajcceaa
theorem sane_big : F13 2000 = some true := by kernel_rfl
end Go.Proofs.Ytpjmgeajajcceaa
namespace Go.Proofs.Ytpjmgeajajcceaa
theorem sane_huge : F13 3000000 = some true := by kernel_rfl
end Go.Proofs.Ytpjmgeajajcceaa
