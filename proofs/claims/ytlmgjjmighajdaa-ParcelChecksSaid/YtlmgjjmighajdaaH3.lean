/-
  The statement ParcelChecks holds of the program. No condition.
-/
import Derived.Test.YtlmgjjmighajdaaP3
import Derived.Test.YtlmgjjmighajdaaLg
import Derived.Test.YtlmgjjmighajdaaRows
set_option linter.unusedVariables false
namespace Go.Proofs.Ytlmgjjmighajdaa
open Go.Sl Go.Sx Go.RowKit Go.ChangeShapes
theorem own : ownKnob Try.prog.godebug = none := by kernel_rfl
theorem lays : laidOutB Try.prog = true := by kernel_rfl
theorem opensE_33 : Opens Try.prog 33 LotT (fun p => I64 p.id ∧ I64 p.owner ∧ I64 p.grade ∧ I64 p.wet) := opens_ints 4 (by kernel_rfl) (by kernel_rfl) (by kernel_rfl) fun h l hl hi => by
  match l, hl, hi with
  | [a0, a1, a2, a3], _, hi => exact ⟨⟨a0, a1, a2, a3⟩, rfl, hi _ (by simp), hi _ (by simp), hi _ (by simp), hi _ (by simp)⟩
theorem opensE_56 : Opens Try.prog 56 PartT (fun p => I64 p.lot ∧ I64 p.mass) := opens_ints 2 (by kernel_rfl) (by kernel_rfl) (by kernel_rfl) fun h l hl hi => by
  match l, hl, hi with
  | [a0, a1], _, hi => exact ⟨⟨a0, a1⟩, rfl, hi _ (by simp), hi _ (by simp)⟩
theorem opensE_28 : Opens Try.prog 28 DeedT (fun p => I64 p.kind ∧ I64 p.lot ∧ I64 p.frm ∧ I64 p.to ∧ I64 p.mass) := opens_ints 5 (by kernel_rfl) (by kernel_rfl) (by kernel_rfl) fun h l hl hi => by
  match l, hl, hi with
  | [a0, a1, a2, a3, a4], _, hi => exact ⟨⟨a0, a1, a2, a3, a4⟩, rfl, hi _ (by simp), hi _ (by simp), hi _ (by simp), hi _ (by simp), hi _ (by simp)⟩
set_option maxRecDepth 100000 in
theorem lifted3 (os : Os) (started : os.Started) (H : Type) (enc : TypeId × Value → H) :
    ReturnsInHanded {} Try.checked os 3 .any (Rows.parcelChecksSpec.pre6 enc Try.prog Try.f3 [] false) (Rows.parcelChecksSpec.post enc Try.prog Try.f3 false true false false) := by
  refine returnsInHanded_of_change own started (by kernel_rfl) Try.func3
    (ChangeSpec.witness6 (enc := enc) (C := Try.checked) (os := os) false ⟨#[], #[.slice none 0 0, .agg #[.slice none 0 0, .slice none 0 0, .slice none 0 0, .slice none 0 0, .slice none 0 0, .slice none 0 0, .slice none 0 0, .slice none 0 0, .slice none 0 0, .slice none 0 0], .agg #[.int .i64 0, .int .i64 0, .int .i64 0, .int .i64 0, .int .i64 0]], []⟩ 8 (by kernel_rfl) (by kernel_rfl) (by kernel_rfl) (by kernel_rfl)) ?_
  intro W base args ds gs before hval hW _ _
  have hW' := hW
  obtain ⟨p, q, hA, hV, rfl, _, _⟩ := hW
  obtain ⟨rfl, rfl⟩ := trodVars_none hV
  have hp : Try.f3.params.toList = [22, 26, 28] := by kernel_rfl
  rw [hp] at hA
  obtain ⟨v0, v1, v2, d0, d1, d2, p0, p1, p2, rfl, rfl, rfl, h0, h1, h2⟩ := trodAll_three hA
  obtain ⟨o0, x0, c0, rfl, s0, i0, m0⟩ := arg_slice (e := 33) (by kernel_rfl) (by kernel_rfl) (hval 0 22 v0 rfl rfl) h0 opensE_33
  obtain ⟨q1, x1, rfl, ⟨_, d1, e1, ⟨o1, c1, e1a, s1⟩, s1b⟩, ⟨i1, m1⟩, i1b, m1b⟩ := arg_agg (by kernel_rfl) (hval 1 26 v1 rfl rfl) h1 (opens_pair (e := 22) (e' := 24) (by kernel_rfl) (opens_slice (e := 33) (by kernel_rfl) (by kernel_rfl) opensE_33) (opens_arr (e := 23) (by kernel_rfl) (by kernel_rfl) (by kernel_rfl) (opens_slice (e := 40) (by kernel_rfl) (by kernel_rfl) (opens_wrap (e := 38) (by kernel_rfl) (opens_slice (e := 56) (by kernel_rfl) (by kernel_rfl) opensE_56)))))
  obtain ⟨w1_0, w1_1, w1_2, w1_3, w1_4, w1_5, w1_6, w1_7, w1_8, hd1⟩ := nine (arr_len s1b)
  subst hd1
  subst e1a
  subst e1
  obtain ⟨c2, x2, rfl, e2, i2⟩ := arg_agg (by kernel_rfl) (hval 2 28 v2 rfl rfl) h2 opensE_28
  have f2 : c2 = [.int .i64 x2.kind, .int .i64 x2.lot, .int .i64 x2.frm, .int .i64 x2.to, .int .i64 x2.mass] := e2
  subst f2
  obtain ⟨fuel, hF⟩ := F3_true' x0 x1.1 x1.2 x2.kind x2.lot x2.frm x2.to x2.mass i0 m0 i1 m1 i1b m1b i2
  refine (f3_ok fuel x0 x1.1 x1.2 x2.kind x2.lot x2.frm x2.to x2.mass true hF (Zone.all W) [] W (St.all W) o0 c0 s0 o1 c1 s1 w1_0 w1_1 w1_2 w1_3 w1_4 w1_5 w1_6 w1_7 w1_8 s1b).mono fun e W' ⟨v, he, h', hle, hv, hs⟩ => ?_
  subst he; subst hv
  exact ⟨_, rfl, post_true (tb := 4) lays rfl (by kernel_rfl) (by kernel_rfl) (by kernel_rfl) hW' (hs.below hle (hs.size hle)) rfl⟩
theorem parcelChecks_holds : Rows.ParcelChecksSaid :=
  OpenClaim.holds_of_wide 3 Try.f3 rfl rfl rfl rfl rfl rfl rfl ⟨rfl, rfl, rfl, rfl, rfl⟩ rfl rfl rfl rfl rfl (by kernel_rfl) Try.func3 (by kernel_rfl)
    (of_decide_eq_true (by kernel_rfl)) (by unfold Func.isWrapper; first | (rw [if_pos (by decide +kernel)]; kernel_rfl) | (rw [if_neg (by decide +kernel)]; exact ⟨rfl, rfl⟩))
    (fun os started H enc _ => lifted3 os started H enc)
end Go.Proofs.Ytlmgjjmighajdaa
