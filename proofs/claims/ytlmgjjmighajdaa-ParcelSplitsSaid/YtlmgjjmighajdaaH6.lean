/-
  The statement ParcelSplits holds of the program. No condition.
-/
import Derived.Test.YtlmgjjmighajdaaLf
import Derived.Test.YtlmgjjmighajdaaE0
import Derived.Test.YtlmgjjmighajdaaRows
set_option linter.unusedVariables false
namespace Go.Proofs.Ytlmgjjmighajdaa
open Go.Sl Go.Sx Go.RowKit Go.ChangeShapes
theorem own : ownKnob Try.prog.godebug = none := by kernel_rfl
theorem lays : laidOutB Try.prog = true := by kernel_rfl
theorem opensE_56 : Opens Try.prog 56 PartT (fun p => I64 p.lot ∧ I64 p.mass) := opens_ints 2 (by kernel_rfl) (by kernel_rfl) (by kernel_rfl) fun h l hl hi => by
  match l, hl, hi with
  | [a0, a1], _, hi => exact ⟨⟨a0, a1⟩, rfl, hi _ (by simp), hi _ (by simp)⟩
set_option maxRecDepth 100000 in
theorem lifted6 (os : Os) (started : os.Started) (H : Type) (enc : TypeId × Value → H) :
    ReturnsInHanded {} Try.checked os 6 .any (Rows.parcelSplitsSpec.pre6 enc Try.prog Try.f6 [] false) (Rows.parcelSplitsSpec.post enc Try.prog Try.f6 false true false false) := by
  refine returnsInHanded_of_change own started (by kernel_rfl) Try.func6
    (ChangeSpec.witness6 (enc := enc) (C := Try.checked) (os := os) false ⟨#[], #[.agg #[.slice none 0 0], .agg #[.slice none 0 0], .int .i64 0], []⟩ 8 (by kernel_rfl) (by kernel_rfl) (by kernel_rfl) (by kernel_rfl)) ?_
  intro W base args ds gs before hval hW _ _
  have hW' := hW
  obtain ⟨p, q, hA, hV, rfl, _, _⟩ := hW
  obtain ⟨rfl, rfl⟩ := trodVars_none hV
  have hp : Try.f6.params.toList = [40, 40, 3] := by kernel_rfl
  rw [hp] at hA
  obtain ⟨v0, v1, v2, d0, d1, d2, p0, p1, p2, rfl, rfl, rfl, h0, h1, h2⟩ := trodAll_three hA
  obtain ⟨q0, x0, rfl, ⟨o0, c0, e0, s0⟩, i0, m0⟩ := arg_agg (by kernel_rfl) (hval 0 40 v0 rfl rfl) h0 (opens_wrap (e := 38) (by kernel_rfl) (opens_slice (e := 56) (by kernel_rfl) (by kernel_rfl) opensE_56))
  subst e0
  obtain ⟨q1, x1, rfl, ⟨o1, c1, e1, s1⟩, i1, m1⟩ := arg_agg (by kernel_rfl) (hval 1 40 v1 rfl rfl) h1 (opens_wrap (e := 38) (by kernel_rfl) (opens_slice (e := 56) (by kernel_rfl) (by kernel_rfl) opensE_56))
  subst e1
  obtain ⟨x2, rfl, i2⟩ := arg_int (by kernel_rfl) (hval 2 3 v2 rfl rfl) h2
  obtain ⟨fuel, hF⟩ := F6_true' x0 x1 x2
  refine (f6_ok fuel x0 x1 x2 true hF (Zone.all W) [] W (St.all W) o0 c0 s0 o1 c1 s1).mono fun e W' ⟨v, he, h', hle, hv, hs⟩ => ?_
  subst he; subst hv
  exact ⟨_, rfl, post_true (tb := 4) lays rfl (by kernel_rfl) (by kernel_rfl) (by kernel_rfl) hW' (hs.below hle (hs.size hle)) rfl⟩
theorem parcelSplits_holds : Rows.ParcelSplitsSaid :=
  OpenClaim.holds_of_wide 6 Try.f6 rfl rfl rfl rfl rfl rfl rfl ⟨rfl, rfl, rfl, rfl, rfl⟩ rfl rfl rfl rfl rfl (by kernel_rfl) Try.func6 (by kernel_rfl)
    (of_decide_eq_true (by kernel_rfl)) (by unfold Func.isWrapper; first | (rw [if_pos (by decide +kernel)]; kernel_rfl) | (rw [if_neg (by decide +kernel)]; exact ⟨rfl, rfl⟩))
    (fun os started H enc _ => lifted6 os started H enc)
end Go.Proofs.Ytlmgjjmighajdaa
