/-
  A part of the walk and of the plain law of one given statement. No condition.
-/
import Derived.Test.YtpjmgeajajcceaaPQ
import Derived.Test.YtpjmgeajajcceaaPO
namespace Go.Proofs.Ytpjmgeajajcceaa
open Go.Sl Go.Sx
theorem cond_z {α : Type} (x y : α) : cond ((0 : Int) != 0) x y = y := rfl
theorem F39_F48 (a b c d : Int) : F39 64 a b c d = F48 64 a b c d := by
  by_cases h1 : V a b
  · by_cases h2 : V c d
    · have e1 : F39 64 a b c d = F39_l1 64 a b c d 64 0 0 false false 0 := by
        unfold F39
        rw [F106_eq, if_pos ⟨h1, h2⟩, Option.bind_some, cond_z]
      have e2 : F48 64 a b c d = F48_l1 64 a b c d 64 1000000000000000 (-1000000000000000) 0 := by
        unfold F48 F48_j1
        rw [F34_eq, F34_eq, decide_eq_true h1, decide_eq_true h2, Option.bind_some, Option.bind_some, Bool.not_true, cond_false, cond_false]
      have e3 := F48_l1_eq (a := a) (b := b) (c := c) (d := d) 61 61 h1 h2
      rw [e1, e2]
      exact (F39_64 h1 h2).trans ((core a b c d).trans e3.symm)
    · unfold F39 F48 F39_j1 F48_j1
      rw [F106_eq, if_neg (fun h => h2 h.2), F34_eq, F34_eq, decide_eq_true h1, decide_eq_false h2]; rfl
  · unfold F39 F48 F39_j1 F48_j1
    rw [F106_eq, if_neg (fun h => h1 h.1), F34_eq, decide_eq_false h1]; rfl
end Go.Proofs.Ytpjmgeajajcceaa
