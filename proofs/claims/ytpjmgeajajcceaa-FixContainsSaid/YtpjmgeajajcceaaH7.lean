/-
  The statement FixContains holds of the program. No condition.
-/
import Derived.Test.YtpjmgeajajcceaaP7
import Derived.Test.YtpjmgeajajcceaaLf
import Derived.Test.YtpjmgeajajcceaaRows
set_option linter.unusedVariables false
namespace Go.Proofs.Ytpjmgeajajcceaa
open Go.Sl Go.Sx Go.RowKit Go.ChangeShapes
theorem own : ownKnob Try.prog.godebug = none := by kernel_rfl
theorem lays : laidOutB Try.prog = true := by kernel_rfl
theorem opens_7_0 : Opens Try.prog 63 A6T (fun p => I64 p.a0 ∧ I64 p.a1 ∧ I64 p.a2 ∧ I64 p.a3 ∧ I64 p.a4 ∧ I64 p.a5) := opens_ints 6 (by kernel_rfl) (by kernel_rfl) (by kernel_rfl) fun h l hl hi => by
  match l, hl, hi with
  | [a0, a1, a2, a3, a4, a5], _, hi => exact ⟨⟨a0, a1, a2, a3, a4, a5⟩, rfl, hi _ (by simp), hi _ (by simp), hi _ (by simp), hi _ (by simp), hi _ (by simp), hi _ (by simp)⟩
set_option maxRecDepth 100000 in
theorem lifted7 (os : Os) (started : os.Started) (H : Type) (enc : TypeId × Value → H) :
    ReturnsInHanded {} Try.checked os 7 .any (Rows.fixContainsSpec.pre6 enc Try.prog Try.f7 [] false) (Rows.fixContainsSpec.post enc Try.prog Try.f7 false true false false) := by
  refine returnsInHanded_of_change own started (by kernel_rfl) Try.func7
    (ChangeSpec.witness6 (enc := enc) (C := Try.checked) (os := os) false ⟨#[], #[.agg #[.int .i64 0, .int .i64 0, .int .i64 0, .int .i64 0, .int .i64 0, .int .i64 0], .int .i64 0, .int .i64 0], []⟩ 8 (by kernel_rfl) (by kernel_rfl) (by kernel_rfl) (by kernel_rfl)) ?_
  intro W base args ds gs before hval hW _ _
  have hW' := hW
  obtain ⟨p, q, hA, hV, rfl, _, _⟩ := hW
  obtain ⟨rfl, rfl⟩ := trodVars_none hV
  have hp : Try.f7.params.toList = [63, 3, 3] := by kernel_rfl
  rw [hp] at hA
  obtain ⟨v0, v1, v2, d0, d1, d2, p0, p1, p2, rfl, rfl, rfl, h0, h1, h2⟩ := trodAll_three hA
  obtain ⟨c0, x0, rfl, e0, i0⟩ := arg_agg (by kernel_rfl) (hval 0 63 v0 rfl rfl) h0 opens_7_0
  have f0 : c0 = [.int .i64 x0.a0, .int .i64 x0.a1, .int .i64 x0.a2, .int .i64 x0.a3, .int .i64 x0.a4, .int .i64 x0.a5] := e0
  subst f0
  obtain ⟨x1, rfl, i1⟩ := arg_int (by kernel_rfl) (hval 1 3 v1 rfl rfl) h1
  obtain ⟨x2, rfl, i2⟩ := arg_int (by kernel_rfl) (hval 2 3 v2 rfl rfl) h2
  obtain ⟨fuel, hF⟩ := F7_true' x0.a0 x0.a1 x0.a2 x0.a3 x0.a4 x0.a5 x1 x2
  refine (f7_ok fuel x0.a0 x0.a1 x0.a2 x0.a3 x0.a4 x0.a5 x1 x2 true hF (Zone.all W) [] W (St.all W) ).mono fun e W' ⟨v, he, h', hle, hv, hs⟩ => ?_
  subst he; subst hv
  exact ⟨_, rfl, post_true (tb := 4) lays rfl (by kernel_rfl) (by kernel_rfl) (by kernel_rfl) hW' (hs.below hle (hs.size hle)) rfl⟩
theorem fixContains_holds : Rows.FixContainsSaid :=
  OpenClaim.holds_of_wide 7 Try.f7 rfl rfl rfl rfl rfl rfl rfl ⟨rfl, rfl, rfl, rfl, rfl⟩ rfl rfl rfl rfl rfl (by kernel_rfl) Try.func7 (by kernel_rfl)
    (of_decide_eq_true (by kernel_rfl)) (by unfold Func.isWrapper; first | (rw [if_pos (by decide +kernel)]; kernel_rfl) | (rw [if_neg (by decide +kernel)]; exact ⟨rfl, rfl⟩))
    (fun os started H enc _ => lifted7 os started H enc)
end Go.Proofs.Ytpjmgeajajcceaa
