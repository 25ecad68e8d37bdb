/-
  A part of the walk and of the plain law of one given statement. No condition.
-/
import Derived.Test.YtpjmgeajajcceaaSh
import Derived.Test.YtpjmgeajajcceaaSs
import Derived.Test.YtpjmgeajajcceaaDat
import Derived.Test.YtpjmgeajajcceaaRows
namespace Go.Proofs
open Go.Shelf Go.Sl Go.Sx
namespace Ytpjmgeajajcceaa
variable {h : Zone} {L : List Atom} {w : World} {E : TypeId} {o : Option Addr} {cap : Nat} {xs : List Int}
theorem sort126 (hS : St h L w) {j : Nat} (hj : L[j]? = some (ownS Ty.int E o cap xs)) (hsz : xs.length ≤ 1099511627776) :
    Calls Try.prog 126 #[.slice o xs.length cap] w fun e w' => ∃ v, e = .returned v ∧ v = .tuple #[] ∧ St h (L.set j (ownS Ty.int E o cap (sortL xs))) w' := sortOwn Try.sortI hS hj hsz
theorem compact127 (hS : St h L w) {j : Nat} (hj : L[j]? = some (ownS Ty.int E o cap xs)) (hsz : xs.length ≤ 1099511627776) :
    Calls Try.prog 127 #[.slice o xs.length cap] w fun e w' => ∃ v, e = .returned v ∧ v = .slice o (compL xs).length cap ∧ St h (L.set j (ownS Ty.int E o cap (compL xs))) w' := compactOwn Try.compactI hS hj hsz
theorem el22g : ElemOK Try.prog 22 52 3 (.agg #[.int .i64 0, .int .i64 0, .int .i64 0]) := ElemOK.of (i := (Try.prog.info? 52).getD default) (by kernel_rfl) (by kernel_rfl) (by kernel_rfl) (by kernel_rfl)
theorem grow133 (hS : St h L w) {n : Int} {u : Unit} (hn : growC n = some u) :
    Calls Try.prog 133 #[.slice none 0 0, .int .i64 n] w fun e w' => ∃ v, e = .returned v ∧ ∃ o c, v = .slice o 0 c ∧ St h (ownS PtT 52 o c [] :: L) w' := growNil (T := PtT) Try.growP el22g hS hn
end Ytpjmgeajajcceaa
end Go.Proofs
