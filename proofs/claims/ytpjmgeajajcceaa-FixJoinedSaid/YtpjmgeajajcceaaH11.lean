/-
  The statement FixJoined holds of the program. No condition.
-/
import Derived.Test.YtpjmgeajajcceaaTV11
import Derived.Test.YtpjmgeajajcceaaLf
import Derived.Test.YtpjmgeajajcceaaRows
set_option linter.unusedVariables false
namespace Go.Proofs.Ytpjmgeajajcceaa
open Go.Sl Go.Sx Go.RowKit Go.ChangeShapes
theorem own : ownKnob Try.prog.godebug = none := by kernel_rfl
theorem lays : laidOutB Try.prog = true := by kernel_rfl
theorem opensE_52 : Opens Try.prog 52 PtT (fun p => I64 p.x ∧ I64 p.lo ∧ I64 p.hi) := opens_ints 3 (by kernel_rfl) (by kernel_rfl) (by kernel_rfl) fun h l hl hi => by
  match l, hl, hi with
  | [a0, a1, a2], _, hi => exact ⟨⟨a0, a1, a2⟩, rfl, hi _ (by simp), hi _ (by simp), hi _ (by simp)⟩
theorem opens_11_2 : Opens Try.prog 84 A5T (fun p => I64 p.a0 ∧ I64 p.a1 ∧ I64 p.a2 ∧ I64 p.a3 ∧ I64 p.a4) := opens_ints 5 (by kernel_rfl) (by kernel_rfl) (by kernel_rfl) fun h l hl hi => by
  match l, hl, hi with
  | [a0, a1, a2, a3, a4], _, hi => exact ⟨⟨a0, a1, a2, a3, a4⟩, rfl, hi _ (by simp), hi _ (by simp), hi _ (by simp), hi _ (by simp), hi _ (by simp)⟩
set_option maxRecDepth 100000 in
theorem lifted11 (os : Os) (started : os.Started) (H : Type) (enc : TypeId × Value → H) :
    ReturnsInHanded {} Try.checked os 11 .any (Rows.fixJoinedSpec.pre6 enc Try.prog Try.f11 [] false) (Rows.fixJoinedSpec.post enc Try.prog Try.f11 false true false false) := by
  refine returnsInHanded_of_change own started (by kernel_rfl) Try.func11
    (ChangeSpec.witness6 (enc := enc) (C := Try.checked) (os := os) false ⟨#[], #[.agg #[.slice none 0 0, .slice none 0 0], .agg #[.slice none 0 0, .slice none 0 0], .agg #[.int .i64 0, .int .i64 0, .int .i64 0, .int .i64 0, .int .i64 0]], []⟩ 8 (by kernel_rfl) (by kernel_rfl) (by kernel_rfl) (by kernel_rfl)) ?_
  intro W base args ds gs before hval hW _ _
  have hW' := hW
  obtain ⟨p, q, hA, hV, rfl, _, _⟩ := hW
  obtain ⟨rfl, rfl⟩ := trodVars_none hV
  have hp : Try.f11.params.toList = [27, 27, 84] := by kernel_rfl
  rw [hp] at hA
  obtain ⟨v0, v1, v2, d0, d1, d2, p0, p1, p2, rfl, rfl, rfl, h0, h1, h2⟩ := trodAll_three hA
  obtain ⟨q0, x0, rfl, ⟨_, _, e0, ⟨o0, c0, e0a, s0⟩, ⟨o0b, c0b, e0b, s0b⟩⟩, ⟨i0, m0⟩, i0b, m0b⟩ := arg_agg (by kernel_rfl) (hval 0 27 v0 rfl rfl) h0 (opens_pair (e := 24) (e' := 25) (by kernel_rfl) (opens_wrap (e := 22) (by kernel_rfl) (opens_slice (by kernel_rfl) (by kernel_rfl) opensE_52)) (opens_slice (by kernel_rfl) (by kernel_rfl) (@opens_int Try.prog 3 (by kernel_rfl))))
  subst e0a e0b e0
  obtain ⟨q1, x1, rfl, ⟨_, _, e1, ⟨o1, c1, e1a, s1⟩, ⟨o1b, c1b, e1b, s1b⟩⟩, ⟨i1, m1⟩, i1b, m1b⟩ := arg_agg (by kernel_rfl) (hval 1 27 v1 rfl rfl) h1 (opens_pair (e := 24) (e' := 25) (by kernel_rfl) (opens_wrap (e := 22) (by kernel_rfl) (opens_slice (by kernel_rfl) (by kernel_rfl) opensE_52)) (opens_slice (by kernel_rfl) (by kernel_rfl) (@opens_int Try.prog 3 (by kernel_rfl))))
  subst e1a e1b e1
  obtain ⟨c2, x2, rfl, e2, i2⟩ := arg_agg (by kernel_rfl) (hval 2 84 v2 rfl rfl) h2 opens_11_2
  have f2 : c2 = [.int .i64 x2.a0, .int .i64 x2.a1, .int .i64 x2.a2, .int .i64 x2.a3, .int .i64 x2.a4] := e2
  subst f2
  obtain ⟨fuel, hF⟩ := F11_true' x0.1 x0.2 x1.1 x1.2 x2.a0 x2.a1 x2.a2 x2.a3 x2.a4
  refine (f11_ok fuel x0.1 x0.2 x1.1 x1.2 x2.a0 x2.a1 x2.a2 x2.a3 x2.a4 true hF (Zone.all W) [] W (St.all W) o0 c0 s0 o0b c0b s0b o1 c1 s1 o1b c1b s1b).mono fun e W' ⟨v, he, h', hle, hv, hs⟩ => ?_
  subst he; subst hv
  exact ⟨_, rfl, post_true (tb := 4) lays rfl (by kernel_rfl) (by kernel_rfl) (by kernel_rfl) hW' (hs.below hle (hs.size hle)) rfl⟩
theorem fixJoined_holds : Rows.FixJoinedSaid :=
  OpenClaim.holds_of_wide 11 Try.f11 rfl rfl rfl rfl rfl rfl rfl ⟨rfl, rfl, rfl, rfl, rfl⟩ rfl rfl rfl rfl rfl (by kernel_rfl) Try.func11 (by kernel_rfl)
    (of_decide_eq_true (by kernel_rfl)) (by unfold Func.isWrapper; first | (rw [if_pos (by decide +kernel)]; kernel_rfl) | (rw [if_neg (by decide +kernel)]; exact ⟨rfl, rfl⟩))
    (fun os started H enc _ => lifted11 os started H enc)
end Go.Proofs.Ytpjmgeajajcceaa
