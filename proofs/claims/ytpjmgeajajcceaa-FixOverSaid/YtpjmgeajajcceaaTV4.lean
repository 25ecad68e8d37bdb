/-
  The plain law of FixOver. No condition.
-/
import Derived.Test.YtpjmgeajajcceaaTN4
import Derived.Test.YtpjmgeajajcceaaTU4
set_option linter.unusedSimpArgs false
set_option linter.unusedVariables false
namespace Go.Proofs.Ytpjmgeajajcceaa
open Go.Sl Go.Sx
theorem F4_true' (t : List Pt) (lo hi x y : Int) : ∃ fuel, F4 fuel t lo hi x y = some true := by
  refine ⟨3000000, ?_⟩
  have hf : 50 ≤ 3000000 := by decide
  have hf2 : 2000000 ≤ 3000000 := by decide
  have hs : F13 3000000 = some true := sane_huge
  generalize hF : (3000000 : Nat) = f at *
  have be : ∀ a : Int, (a == a) = true := fun a => by simp
  unfold F4 F4_j1
  rcases F67_cases hf t with ⟨v, h67⟩ | ⟨v, h67⟩
  · have h12 : F12 f t = some true := by rcases F12_cases hf t with ⟨_, h⟩ | ⟨h, _⟩; exact h; exact absurd v h
    obtain ⟨r1, a1, a2⟩ := over_eq hf v h67 h12 lo hi
    obtain ⟨l1, e1, n1, b1, b2⟩ := where_eq hf2 v h67 h12 lo hi
    obtain ⟨l2, e2, n2, c1, c2⟩ := above_eq hf2 v h67 h12 x
    obtain ⟨r2, d1, d2⟩ := area_eq hf v h67 h12 x y
    rw [a1, a2, b1, b2, c1, c2, d1, d2]
    simp only [Option.bind_some, be, Bool.and_true, cond_true]
    rw [F26_same l1 (by omega) (by omega), F26_same l2 (by omega) (by omega), Option.bind_some, Option.bind_some, cond_true, cond_true, hs]; rfl
  · have h12 : F12 f t = some false := by rcases F12_cases hf t with ⟨h, _⟩ | ⟨_, h⟩; exact absurd h v; exact h
    have a1 : F19 f t lo hi = some (0, 0, 11) := by unfold F19; rw [h67]; rfl
    have a2 : F20 f t lo hi = some (0, 0, 11) := by unfold F20; rw [h12]; rfl
    have b1 : F21 f t lo hi = some ([], 11) := by unfold F21; rw [h67]; rfl
    have b2 : F22 f t lo hi = some ([], 11) := by unfold F22; rw [h12]; rfl
    have c1 : F23 f t x = some ([], 11) := by unfold F23; rw [h67]; rfl
    have c2 : F24 f t x = some ([], 11) := by unfold F24; rw [h12]; rfl
    have d1 : F18 f t x y = some (0, 0, 11) := by unfold F18; rw [h67]; rfl
    have d2 : F25 f t x y = some (0, 0, 11) := by unfold F25; rw [h12]; rfl
    rw [a1, a2, b1, b2, c1, c2, d1, d2]
    simp only [Option.bind_some, be, Bool.and_true, cond_true]
    rw [F26_same [] (by simp) (by simp; omega), Option.bind_some, cond_true, hs]; rfl
end Go.Proofs.Ytpjmgeajajcceaa
