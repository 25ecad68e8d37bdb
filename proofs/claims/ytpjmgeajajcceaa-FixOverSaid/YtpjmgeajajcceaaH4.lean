/-
  The statement FixOver holds of the program. No condition.
-/
import Derived.Test.YtpjmgeajajcceaaTV4
import Derived.Test.YtpjmgeajajcceaaLf
import Derived.Test.YtpjmgeajajcceaaRows
set_option linter.unusedVariables false
namespace Go.Proofs.Ytpjmgeajajcceaa
open Go.Sl Go.Sx Go.RowKit Go.ChangeShapes
theorem own : ownKnob Try.prog.godebug = none := by kernel_rfl
theorem lays : laidOutB Try.prog = true := by kernel_rfl
theorem opensE_52 : Opens Try.prog 52 PtT (fun p => I64 p.x ∧ I64 p.lo ∧ I64 p.hi) := opens_ints 3 (by kernel_rfl) (by kernel_rfl) (by kernel_rfl) fun h l hl hi => by
  match l, hl, hi with
  | [a0, a1, a2], _, hi => exact ⟨⟨a0, a1, a2⟩, rfl, hi _ (by simp), hi _ (by simp), hi _ (by simp)⟩
theorem opens_4_1 : Opens Try.prog 41 RngT (fun p => I64 p.lo ∧ I64 p.hi) := opens_ints 2 (by kernel_rfl) (by kernel_rfl) (by kernel_rfl) fun h l hl hi => by
  match l, hl, hi with
  | [a0, a1], _, hi => exact ⟨⟨a0, a1⟩, rfl, hi _ (by simp), hi _ (by simp)⟩
theorem opens_4_2 : Opens Try.prog 42 A2T (fun p => I64 p.a0 ∧ I64 p.a1) := opens_ints 2 (by kernel_rfl) (by kernel_rfl) (by kernel_rfl) fun h l hl hi => by
  match l, hl, hi with
  | [a0, a1], _, hi => exact ⟨⟨a0, a1⟩, rfl, hi _ (by simp), hi _ (by simp)⟩
set_option maxRecDepth 100000 in
theorem lifted4 (os : Os) (started : os.Started) (H : Type) (enc : TypeId × Value → H) :
    ReturnsInHanded {} Try.checked os 4 .any (Rows.fixOverSpec.pre6 enc Try.prog Try.f4 [] false) (Rows.fixOverSpec.post enc Try.prog Try.f4 false true false false) := by
  refine returnsInHanded_of_change own started (by kernel_rfl) Try.func4
    (ChangeSpec.witness6 (enc := enc) (C := Try.checked) (os := os) false ⟨#[], #[.agg #[.slice none 0 0], .agg #[.int .i64 0, .int .i64 0], .agg #[.int .i64 0, .int .i64 0]], []⟩ 8 (by kernel_rfl) (by kernel_rfl) (by kernel_rfl) (by kernel_rfl)) ?_
  intro W base args ds gs before hval hW _ _
  have hW' := hW
  obtain ⟨p, q, hA, hV, rfl, _, _⟩ := hW
  obtain ⟨rfl, rfl⟩ := trodVars_none hV
  have hp : Try.f4.params.toList = [24, 41, 42] := by kernel_rfl
  rw [hp] at hA
  obtain ⟨v0, v1, v2, d0, d1, d2, p0, p1, p2, rfl, rfl, rfl, h0, h1, h2⟩ := trodAll_three hA
  obtain ⟨q0, x0, rfl, ⟨o0, c0, e0, s0⟩, i0, m0⟩ := arg_agg (by kernel_rfl) (hval 0 24 v0 rfl rfl) h0 (opens_wrap (e := 22) (by kernel_rfl) (opens_slice (by kernel_rfl) (by kernel_rfl) opensE_52))
  subst e0
  obtain ⟨c1, x1, rfl, e1, i1⟩ := arg_agg (by kernel_rfl) (hval 1 41 v1 rfl rfl) h1 opens_4_1
  have f1 : c1 = [.int .i64 x1.lo, .int .i64 x1.hi] := e1
  subst f1
  obtain ⟨c2, x2, rfl, e2, i2⟩ := arg_agg (by kernel_rfl) (hval 2 42 v2 rfl rfl) h2 opens_4_2
  have f2 : c2 = [.int .i64 x2.a0, .int .i64 x2.a1] := e2
  subst f2
  obtain ⟨fuel, hF⟩ := F4_true' x0 x1.lo x1.hi x2.a0 x2.a1
  refine (f4_ok fuel x0 x1.lo x1.hi x2.a0 x2.a1 true hF (Zone.all W) [] W (St.all W) o0 c0 s0).mono fun e W' ⟨v, he, h', hle, hv, hs⟩ => ?_
  subst he; subst hv
  exact ⟨_, rfl, post_true (tb := 4) lays rfl (by kernel_rfl) (by kernel_rfl) (by kernel_rfl) hW' (hs.below hle (hs.size hle)) rfl⟩
theorem fixOver_holds : Rows.FixOverSaid :=
  OpenClaim.holds_of_wide 4 Try.f4 rfl rfl rfl rfl rfl rfl rfl ⟨rfl, rfl, rfl, rfl, rfl⟩ rfl rfl rfl rfl rfl (by kernel_rfl) Try.func4 (by kernel_rfl)
    (of_decide_eq_true (by kernel_rfl)) (by unfold Func.isWrapper; first | (rw [if_pos (by decide +kernel)]; kernel_rfl) | (rw [if_neg (by decide +kernel)]; exact ⟨rfl, rfl⟩))
    (fun os started H enc _ => lifted4 os started H enc)
end Go.Proofs.Ytpjmgeajajcceaa
