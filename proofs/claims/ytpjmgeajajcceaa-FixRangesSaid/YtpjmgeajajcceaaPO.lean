/-
  A part of the walk and of the plain law of one given statement. No condition.
-/
import Derived.Test.YtpjmgeajajcceaaPM
namespace Go.Proofs.Ytpjmgeajajcceaa
open Go.Sl Go.Sx
theorem F39_64 {a b c d : Int} (h1 : V a b) (h2 : V c d) : F39_l1 64 a b c d 64 0 0 false false 0 = 
      (let t4 := stepM b d (stepM b c (stepM a d (stepM a c ⟨0, 0, false, false⟩)))
       bif t4.g then some (0, 0, 5) else if V t4.u t4.v then some (t4.u, t4.v, 0) else some (0, 0, 5)) := F39_l1_eq 61 61 h1 h2 ⟨0, 0, false, false⟩
end Go.Proofs.Ytpjmgeajajcceaa
