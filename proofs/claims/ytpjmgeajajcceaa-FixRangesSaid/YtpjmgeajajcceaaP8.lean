/-
  A part of the walk and of the plain law of one given statement. No condition.
-/
import Derived.Test.YtpjmgeajajcceaaPW
set_option linter.unusedSimpArgs false
set_option linter.unusedVariables false
namespace Go.Proofs.Ytpjmgeajajcceaa
open Go.Sl Go.Sx
theorem isSome_of {α : Type} {x : Option α} (h : x.isSome = true) : ∃ y, x = some y := by cases x with | none => cases h | some y => exact ⟨y, rfl⟩
theorem some_ite {α : Type} (c : Prop) [Decidable c] (x y : α) : ∃ r, (if c then some x else some y) = some r := by by_cases h : c <;> simp [h]
theorem cond_some {α : Type} (b : Bool) (x y : α) : ∃ r, cond b (some x) (some y) = some r := by cases b <;> exact ⟨_, rfl⟩
theorem F37_some (a b c d : Int) : ∃ r, F37 64 a b c d = some r := by rw [F37_eq]; exact ⟨_, rfl⟩
theorem F38_some (a b c d : Int) : ∃ r, F38 64 a b c d = some r := by rw [F38_eq]; exact ⟨_, rfl⟩
theorem F47_some (a b : Int) : ∃ r, F47 64 a b = some r := by
  unfold F47; rw [F34_eq, Option.bind_some]
  cases decide (V a b) <;> exact ⟨_, rfl⟩
theorem F40_some (a b c d : Int) : ∃ r, F40 64 a b c d = some r := by
  rw [F40_eq]
  unfold mk3
  split
  · split
    · exact some_ite _ _ _
    · exact ⟨_, rfl⟩
  · exact ⟨_, rfl⟩
theorem F48_some (a b c d : Int) : ∃ r, F48 64 a b c d = some r := by
  by_cases h1 : V a b
  · by_cases h2 : V c d
    · have e2 : F48 64 a b c d = F48_l1 64 a b c d 64 1000000000000000 (-1000000000000000) 0 := by
        unfold F48 F48_j1
        rw [F34_eq, F34_eq, decide_eq_true h1, decide_eq_true h2, Option.bind_some, Option.bind_some, Bool.not_true, cond_false, cond_false]
      rw [e2, show F48_l1 64 a b c d 64 1000000000000000 (-1000000000000000) 0 = _ from F48_l1_eq (a := a) (b := b) (c := c) (d := d) 61 61 h1 h2]
      split
      · exact ⟨_, rfl⟩
      · split
        · exact ⟨_, rfl⟩
        · split
          · exact ⟨_, rfl⟩
          · split <;> exact ⟨_, rfl⟩
    · unfold F48 F48_j1
      rw [F34_eq, F34_eq, decide_eq_true h1, decide_eq_false h2]; exact ⟨_, rfl⟩
  · unfold F48 F48_j1
    rw [F34_eq, decide_eq_false h1]; exact ⟨_, rfl⟩
theorem F50_some (a b c d : Int) : ∃ r, F50 64 a b c d = some r := by
  unfold F50 F50_j1; rw [F34_eq, F34_eq, Option.bind_some, Option.bind_some]
  cases decide (V a b) <;> cases decide (V c d) <;> exact ⟨_, rfl⟩
theorem F51_some (a b c d : Int) : ∃ r, F51 64 a b c d = some r := by
  unfold F51 F51_j1; rw [F34_eq, F34_eq, Option.bind_some, Option.bind_some]
  cases decide (V a b) <;> cases decide (V c d) <;> simp only [Bool.not_true, Bool.not_false, cond_true, cond_false] <;> (try exact ⟨_, rfl⟩)
  exact cond_some _ _ _
theorem F54_some (a b n : Int) : ∃ r, F54 64 a b n = some r := by
  unfold F54 F54_j1; rw [F34_eq, Option.bind_some]
  cases decide (V a b) <;> cases decide (a ≤ n) <;> exact ⟨_, rfl⟩
theorem F56_some (a b c d : Int) : ∃ r, F56 64 a b c d = some r := by
  unfold F56 F56_j1; rw [F34_eq, Option.bind_some, F34_eq]
  cases decide (V a b) <;> cases decide (V c d) <;> exact ⟨_, rfl⟩

theorem ne_self (x : Int) : (x != x) = false := by simp
theorem same_self (a b : Int) : (!((a == a) && ((b == b) && true))) = false := by simp

theorem F8_true (a b c d n m : Int) : F8 64 a b c d n m = some true := by
  obtain ⟨r1, h1⟩ := F37_some a b c d
  obtain ⟨r2, h2⟩ := F38_some a b c d
  obtain ⟨r3, h3⟩ := F47_some a b
  obtain ⟨r4, h4⟩ := F48_some a b c d
  obtain ⟨r5, h5⟩ := F40_some a b n m
  obtain ⟨r6, h6⟩ := F50_some a b c d
  obtain ⟨r7, h7⟩ := F51_some a b c d
  obtain ⟨r8, h8⟩ := F54_some a b n
  obtain ⟨r9, h9⟩ := F56_some a b c d
  unfold F8
  rw [h1, ← F37_F44, h1, h2, ← F38_F45, h2, F46_F47, h3, F39_F48, h4, h5, ← F40_F49, h5, F41_F50, h6, F42_F51, h7]
  simp only [Option.bind_some, ne_self, cond_false]
  unfold F8_j1
  simp only [same_self, cond_false]
  unfold F8_j2
  rw [F52_eq, F53_eq, F43_F54, h8, F55_F56, h9, sane_true]
  simp only [Option.bind_some, cond_false, beq_self_eq_true, cond_true]
  rfl
end Go.Proofs.Ytpjmgeajajcceaa
