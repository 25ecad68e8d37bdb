/-
  The statement ParcelDoes holds of the program. No condition.
-/
import Derived.Test.YtlmgjjmighajdaaLg
import Derived.Test.YtlmgjjmighajdaaRows
set_option linter.unusedVariables false
namespace Go.Proofs.Ytlmgjjmighajdaa
open Go.Sl Go.Sx Go.RowKit Go.ChangeShapes
theorem own : ownKnob Try.prog.godebug = none := by kernel_rfl
theorem lays : laidOutB Try.prog = true := by kernel_rfl
theorem opensE_56 : Opens Try.prog 56 PartT (fun p => I64 p.lot ∧ I64 p.mass) := opens_ints 2 (by kernel_rfl) (by kernel_rfl) (by kernel_rfl) fun h l hl hi => by
  match l, hl, hi with
  | [a0, a1], _, hi => exact ⟨⟨a0, a1⟩, rfl, hi _ (by simp), hi _ (by simp)⟩
theorem opensE_33 : Opens Try.prog 33 LotT (fun p => I64 p.id ∧ I64 p.owner ∧ I64 p.grade ∧ I64 p.wet) := opens_ints 4 (by kernel_rfl) (by kernel_rfl) (by kernel_rfl) fun h l hl hi => by
  match l, hl, hi with
  | [a0, a1, a2, a3], _, hi => exact ⟨⟨a0, a1, a2, a3⟩, rfl, hi _ (by simp), hi _ (by simp), hi _ (by simp), hi _ (by simp)⟩
theorem opensE_28 : Opens Try.prog 28 DeedT (fun p => I64 p.kind ∧ I64 p.lot ∧ I64 p.frm ∧ I64 p.to ∧ I64 p.mass) := opens_ints 5 (by kernel_rfl) (by kernel_rfl) (by kernel_rfl) fun h l hl hi => by
  match l, hl, hi with
  | [a0, a1, a2, a3, a4], _, hi => exact ⟨⟨a0, a1, a2, a3, a4⟩, rfl, hi _ (by simp), hi _ (by simp), hi _ (by simp), hi _ (by simp), hi _ (by simp)⟩
set_option maxRecDepth 100000 in
theorem lifted5 (os : Os) (started : os.Started) (H : Type) (enc : TypeId × Value → H) :
    ReturnsInHanded {} Try.checked os 5 .any (Rows.parcelDoesSpec.pre6 enc Try.prog Try.f5 [] false) (Rows.parcelDoesSpec.post enc Try.prog Try.f5 false true false false) := by
  refine returnsInHanded_of_change own started (by kernel_rfl) Try.func5
    (ChangeSpec.witness6 (enc := enc) (C := Try.checked) (os := os) false ⟨#[], #[.agg #[.slice none 0 0, .slice none 0 0, .slice none 0 0, .slice none 0 0, .slice none 0 0, .slice none 0 0, .slice none 0 0, .slice none 0 0, .slice none 0 0, .slice none 0 0], .agg #[.int .i64 0, .int .i64 0, .int .i64 0, .int .i64 0, .int .i64 0]], []⟩ 8 (by kernel_rfl) (by kernel_rfl) (by kernel_rfl) (by kernel_rfl)) ?_
  intro W base args ds gs before hval hW _ _
  have hW' := hW
  obtain ⟨p, q, hA, hV, rfl, _, _⟩ := hW
  obtain ⟨rfl, rfl⟩ := trodVars_none hV
  have hp : Try.f5.params.toList = [26, 28] := by kernel_rfl
  rw [hp] at hA
  obtain ⟨v0, v1, d0, d1, p0, p1, rfl, rfl, rfl, h0, h1⟩ := trodAll_two hA
  obtain ⟨q0, x0, rfl, ⟨_, d0, e0, ⟨o0, c0, e0a, s0⟩, s0b⟩, ⟨i0, m0⟩, i0b, m0b⟩ := arg_agg (by kernel_rfl) (hval 0 26 v0 rfl rfl) h0 (opens_pair (e := 22) (e' := 24) (by kernel_rfl) (opens_slice (e := 33) (by kernel_rfl) (by kernel_rfl) opensE_33) (opens_arr (e := 23) (by kernel_rfl) (by kernel_rfl) (by kernel_rfl) (opens_slice (e := 40) (by kernel_rfl) (by kernel_rfl) (opens_wrap (e := 38) (by kernel_rfl) (opens_slice (e := 56) (by kernel_rfl) (by kernel_rfl) opensE_56)))))
  obtain ⟨w0_0, w0_1, w0_2, w0_3, w0_4, w0_5, w0_6, w0_7, w0_8, hd0⟩ := Go.Sx.nine (arr_len s0b)
  subst hd0
  subst e0a
  subst e0
  obtain ⟨c1, x1, rfl, e1, i1⟩ := arg_agg (by kernel_rfl) (hval 1 28 v1 rfl rfl) h1 opensE_28
  have f1 : c1 = [.int .i64 x1.kind, .int .i64 x1.lot, .int .i64 x1.frm, .int .i64 x1.to, .int .i64 x1.mass] := e1
  subst f1
  obtain ⟨fuel, hF⟩ := F5_true' x0.1 x0.2 x1.kind x1.lot x1.frm x1.to x1.mass m0b
  refine (f5_ok fuel x0.1 x0.2 x1.kind x1.lot x1.frm x1.to x1.mass true hF (Zone.all W) [] W (St.all W) o0 c0 s0 w0_0 w0_1 w0_2 w0_3 w0_4 w0_5 w0_6 w0_7 w0_8 s0b).mono fun e W' ⟨v, he, h', hle, hv, hs⟩ => ?_
  subst he; subst hv
  exact ⟨_, rfl, post_true (tb := 4) lays rfl (by kernel_rfl) (by kernel_rfl) (by kernel_rfl) hW' (hs.below hle (hs.size hle)) rfl⟩
theorem parcelDoes_holds : Rows.ParcelDoesSaid :=
  OpenClaim.holds_of_wide 5 Try.f5 rfl rfl rfl rfl rfl rfl rfl ⟨rfl, rfl, rfl, rfl, rfl⟩ rfl rfl rfl rfl rfl (by kernel_rfl) Try.func5 (by kernel_rfl)
    (of_decide_eq_true (by kernel_rfl)) (by unfold Func.isWrapper; first | (rw [if_pos (by decide +kernel)]; kernel_rfl) | (rw [if_neg (by decide +kernel)]; exact ⟨rfl, rfl⟩))
    (fun os started H enc _ => lifted5 os started H enc)
end Go.Proofs.Ytlmgjjmighajdaa
