/-
  The statement FixRanges holds of the program. No condition.
-/
import Derived.Test.YtpjmgeajajcceaaP8
import Derived.Test.YtpjmgeajajcceaaLf
import Derived.Test.YtpjmgeajajcceaaRows
set_option linter.unusedVariables false
namespace Go.Proofs.Ytpjmgeajajcceaa
open Go.Sl Go.Sx Go.RowKit Go.ChangeShapes

theorem own : ownKnob Try.prog.godebug = none := by kernel_rfl
theorem lays : laidOutB Try.prog = true := by kernel_rfl

/-- Six numbers. -/
theorem opens72 : Opens Try.prog 72 A6T (fun _ => True) := opens_ints 6 (by kernel_rfl) (by kernel_rfl) (by kernel_rfl) fun h l hl _ => by
  match l, hl with
  | [a, b, c, d, e, f], _ => exact ⟨⟨a, b, c, d, e, f⟩, rfl, trivial⟩

set_option maxRecDepth 100000 in
theorem lifted8 (os : Os) (started : os.Started) (H : Type) (enc : TypeId × Value → H) :
    ReturnsInHanded {} Try.checked os 8 .any (Rows.fixRangesSpec.pre6 enc Try.prog Try.f8 [] false) (Rows.fixRangesSpec.post enc Try.prog Try.f8 false true false false) := by
  refine returnsInHanded_of_change own started (by kernel_rfl) Try.func8
    (ChangeSpec.witness6 (enc := enc) (C := Try.checked) (os := os) false ⟨#[], #[.agg #[.int .i64 0, .int .i64 0, .int .i64 0, .int .i64 0, .int .i64 0, .int .i64 0]], []⟩ 8 (by kernel_rfl) (by kernel_rfl) (by kernel_rfl) (by kernel_rfl)) ?_
  intro W base args ds gs before hval hW _ _
  have hW' := hW
  obtain ⟨p, q, hA, hV, rfl, _, _⟩ := hW
  obtain ⟨rfl, rfl⟩ := trodVars_none hV
  have hp : Try.f8.params.toList = [72] := by kernel_rfl
  rw [hp] at hA
  obtain ⟨v0, d0, rfl, rfl, h0⟩ := trodAll_one hA
  obtain ⟨cs, x, rfl, hx, _⟩ := arg_agg (by kernel_rfl) (hval 0 72 v0 rfl rfl) h0 opens72
  have hx' : cs = [.int .i64 x.a0, .int .i64 x.a1, .int .i64 x.a2, .int .i64 x.a3, .int .i64 x.a4, .int .i64 x.a5] := hx
  subst hx'
  refine (f8_ok 64 x.a0 x.a1 x.a2 x.a3 x.a4 x.a5 true (F8_true _ _ _ _ _ _) (Zone.all W) [] W (St.all W)).mono fun e W' ⟨v, he, h', hle, hv, hs⟩ => ?_
  subst he; subst hv
  exact ⟨_, rfl, post_true (tb := 4) lays rfl (by kernel_rfl) (by kernel_rfl) (by kernel_rfl) hW' (hs.below hle (hs.size hle)) rfl⟩

theorem fixRanges_holds : Rows.FixRangesSaid :=
  OpenClaim.holds_of_wide 8 Try.f8 rfl rfl rfl rfl rfl rfl rfl ⟨rfl, rfl, rfl, rfl, rfl⟩ rfl rfl rfl rfl rfl (by kernel_rfl) Try.func8 (by kernel_rfl)
    (of_decide_eq_true (by kernel_rfl)) (by unfold Func.isWrapper; first | (rw [if_pos (by decide +kernel)]; kernel_rfl) | (rw [if_neg (by decide +kernel)]; exact ⟨rfl, rfl⟩))
    (fun os started H enc _ => lifted8 os started H enc)
#print axioms fixRanges_holds
end Go.Proofs.Ytpjmgeajajcceaa
