/-
  The statement ParcelFair holds of the program. No condition.
-/
import Derived.Test.YtlmgjjmighajdaaP7
import Derived.Test.YtlmgjjmighajdaaLg
import Derived.Test.YtlmgjjmighajdaaRows
set_option linter.unusedVariables false
namespace Go.Proofs.Ytlmgjjmighajdaa
open Go.Sl Go.Sx Go.RowKit Go.ChangeShapes
theorem own : ownKnob Try.prog.godebug = none := by kernel_rfl
theorem lays : laidOutB Try.prog = true := by kernel_rfl
set_option maxRecDepth 100000 in
theorem lifted7 (os : Os) (started : os.Started) (H : Type) (enc : TypeId × Value → H) :
    ReturnsInHanded {} Try.checked os 7 .any (Rows.parcelFairSpec.pre6 enc Try.prog Try.f7 [] false) (Rows.parcelFairSpec.post enc Try.prog Try.f7 false true false false) := by
  refine returnsInHanded_of_change own started (by kernel_rfl) Try.func7
    (ChangeSpec.witness6 (enc := enc) (C := Try.checked) (os := os) false ⟨#[], #[.slice none 0 0, .int .i64 0], []⟩ 8 (by kernel_rfl) (by kernel_rfl) (by kernel_rfl) (by kernel_rfl)) ?_
  intro W base args ds gs before hval hW _ _
  have hW' := hW
  obtain ⟨p, q, hA, hV, rfl, _, _⟩ := hW
  obtain ⟨rfl, rfl⟩ := trodVars_none hV
  have hp : Try.f7.params.toList = [53, 3] := by kernel_rfl
  rw [hp] at hA
  obtain ⟨v0, v1, d0, d1, p0, p1, rfl, rfl, rfl, h0, h1⟩ := trodAll_two hA
  obtain ⟨o0, x0, c0, rfl, s0, i0, m0⟩ := arg_slice (e := 3) (by kernel_rfl) (by kernel_rfl) (hval 0 53 v0 rfl rfl) h0 (opens_int (by kernel_rfl))
  obtain ⟨x1, rfl, i1⟩ := arg_int (by kernel_rfl) (hval 1 3 v1 rfl rfl) h1
  obtain ⟨fuel, hF⟩ := F7_true' x0 x1 i0 m0 i1
  refine (f7_ok fuel x0 x1 true hF (Zone.all W) [] W (St.all W) o0 c0 s0).mono fun e W' ⟨v, he, h', hle, hv, hs⟩ => ?_
  subst he; subst hv
  exact ⟨_, rfl, post_true (tb := 4) lays rfl (by kernel_rfl) (by kernel_rfl) (by kernel_rfl) hW' (hs.below hle (hs.size hle)) rfl⟩
theorem parcelFair_holds : Rows.ParcelFairSaid :=
  OpenClaim.holds_of_wide 7 Try.f7 rfl rfl rfl rfl rfl rfl rfl ⟨rfl, rfl, rfl, rfl, rfl⟩ rfl rfl rfl rfl rfl (by kernel_rfl) Try.func7 (by kernel_rfl)
    (of_decide_eq_true (by kernel_rfl)) (by unfold Func.isWrapper; first | (rw [if_pos (by decide +kernel)]; kernel_rfl) | (rw [if_neg (by decide +kernel)]; exact ⟨rfl, rfl⟩))
    (fun os started H enc _ => lifted7 os started H enc)
end Go.Proofs.Ytlmgjjmighajdaa
