/-
  A part of the walk and of the plain law of one given statement. No condition.
-/
import Derived.Test.YtpjmgeajajcceaaPN
namespace Go.Proofs.Ytpjmgeajajcceaa
open Go.Sl Go.Sx
theorem core (a b c d : Int) : res39 (stepM b d (stepM b c (stepM a d (stepM a c ⟨0, 0, false, false⟩)))) =
      (if bg a c then some (0, 0, 5) else if bg a d then some (0, 0, 5) else if bg b c then some (0, 0, 5) else if bg b d then some (0, 0, 5) else
        (let u1 := if a * c < 1000000000000000 then a * c else 1000000000000000
         let u2 := if a * d < u1 then a * d else u1
         let u3 := if b * c < u2 then b * c else u2
         let u4 := if b * d < u3 then b * d else u3
         let v1 := if a * c > -1000000000000000 then a * c else -1000000000000000
         let v2 := if a * d > v1 then a * d else v1
         let v3 := if b * c > v2 then b * c else v2
         let v4 := if b * d > v3 then b * d else v3
         some (u4, v4, 0))) := by
  by_cases b1 : bg a c = true
  · rw [if_pos b1]; exact res39_g (stepM_g (stepM_g (stepM_g (stepM_big b1))))
  · rw [if_neg b1]
    have b1 := eq_false_of_ne_true b1
    by_cases b2 : bg a d = true
    · rw [if_pos b2]; exact res39_g (stepM_g (stepM_g (stepM_big b2)))
    · rw [if_neg b2]
      have b2 := eq_false_of_ne_true b2
      by_cases b3 : bg b c = true
      · rw [if_pos b3]; exact res39_g (stepM_g (stepM_big b3))
      · rw [if_neg b3]
        have b3 := eq_false_of_ne_true b3
        by_cases b4 : bg b d = true
        · rw [if_pos b4]; exact res39_g (stepM_big b4)
        · rw [if_neg b4]
          have b4 := eq_false_of_ne_true b4
          rw [stepM_first b1, stepM_next b2, stepM_next b3, stepM_next b4]
          simp only [ini_lo (bg_lt b1), ini_hi (bg_lt b1)]
          exact mulV (bg_lt b1) (bg_lt b2) (bg_lt b3) (bg_lt b4)
end Go.Proofs.Ytpjmgeajajcceaa
