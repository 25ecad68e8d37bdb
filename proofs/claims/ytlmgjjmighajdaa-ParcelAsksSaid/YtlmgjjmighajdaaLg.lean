/-
  Arguments that hold arrays. Program-independent. No condition.
-/
import Derived.Test.YtlmgjjmighajdaaLf
import Derived.Test.YtlmgjjmighajdaaSu
set_option linter.unusedVariables false
namespace Go.Sx
open Go.Sl Go.RowKit Go.ChangeShapes
theorem opens_arr {α : Type} {P : Program} {t e : TypeId} {m : Nat} {T : Ty α} {ok : α → Prop} (ht : P.underlying t = some (.array m e)) (he : P.cellsOf e = T.size) (hc : P.cellsOf t = m * T.size) (h : Opens P e T ok) :
    Opens P t (Ty.arr m T) (fun xs => (∀ x ∈ xs, ok x) ∧ xs.length = m) := fun H enc W fuel cs d hd => by
  obtain ⟨hl, n, hx⟩ := trod_items ht hd
  have key : ∀ k, k ≤ m → ∃ xs : List α, xs.length = k ∧ Rows T (Zone.all W) (cs.take (k * T.size)) xs ∧ ∀ x ∈ xs, ok x := by
    intro k
    induction k with
    | zero => exact fun _ => ⟨[], rfl, by simp [Rows], fun x hx => by cases hx⟩
    | succ k ih =>
      intro hk
      obtain ⟨xs, h1, h2, h3⟩ := ih (by omega)
      obtain ⟨y, hy⟩ := hx k (by omega)
      rw [he] at hy
      obtain ⟨x, r, o⟩ := h H enc W n _ y hy
      refine ⟨xs ++ [x], by simp [h1], ?_, fun z hz => ?_⟩
      · have e1 : cs.take ((k + 1) * T.size) = cs.take (k * T.size) ++ (cs.drop (k * T.size)).take T.size := by
          rw [Nat.add_mul, Nat.one_mul, List.take_add]
        rw [e1]
        exact h2.append (Rows.single r)
      · rcases List.mem_append.1 hz with hz | hz
        · exact h3 z hz
        · simp only [List.mem_singleton] at hz; subst hz; exact o
  obtain ⟨xs, h1, h2, h3⟩ := key m (Nat.le_refl _)
  refine ⟨xs, ⟨h1, ?_⟩, h3, h1⟩
  rwa [List.take_of_length_le (by rw [hl, hc]; exact Nat.le_refl _)] at h2
theorem arr_len {α : Type} {h : Zone} {T : Ty α} {m : Nat} {cs : List Value} {xs : List (List α)} (s : (Ty.arr m (Ty.slice T)).rep h cs xs) : cs.length = m := by
  have := (Ty.arr m (Ty.slice T)).len s
  rw [this]; exact Nat.mul_one m
end Go.Sx
