/-
  The statement ParcelHistories holds of the program. No condition.
-/
import Derived.Test.YtlmgjjmighajdaaGreatLh
import Derived.Test.YtlmgjjmighajdaaGreatRows
set_option linter.unusedVariables false
namespace Go.Proofs.YtlmgjjmighajdaaGreat
open Go.Sl Go.Sx Go.RowKit Go.ChangeShapes
theorem own:ownKnob Tryz.prog.godebug=none:=by kernel_rfl
theorem lays:laidOutB Tryz.prog=true:=by kernel_rfl
theorem opensE_130:Opens Tryz.prog 130 A4T (fun p=>I64 p.a0∧I64 p.a1∧I64 p.a2∧I64 p.a3):=opens_ints 4 (by kernel_rfl) (by kernel_rfl) (by kernel_rfl) fun h l hl hi=>by
  match l,hl,hi with
  | [a0,a1,a2,a3],_,hi=>exact ⟨⟨a0,a1,a2,a3⟩,rfl,hi _ (by simp),hi _ (by simp),hi _ (by simp),hi _ (by simp)⟩
theorem opensE_91:Opens Tryz.prog 91 A5T (fun p=>I64 p.a0∧I64 p.a1∧I64 p.a2∧I64 p.a3∧I64 p.a4):=opens_ints 5 (by kernel_rfl) (by kernel_rfl) (by kernel_rfl) fun h l hl hi=>by
  match l,hl,hi with
  | [a0,a1,a2,a3,a4],_,hi=>exact ⟨⟨a0,a1,a2,a3,a4⟩,rfl,hi _ (by simp),hi _ (by simp),hi _ (by simp),hi _ (by simp),hi _ (by simp)⟩
theorem opensE_24:Opens Tryz.prog 24 A3T (fun p=>I64 p.a0∧I64 p.a1∧I64 p.a2):=opens_ints 3 (by kernel_rfl) (by kernel_rfl) (by kernel_rfl) fun h l hl hi=>by
  match l,hl,hi with
  | [a0,a1,a2],_,hi=>exact ⟨⟨a0,a1,a2⟩,rfl,hi _ (by simp),hi _ (by simp),hi _ (by simp)⟩
set_option maxRecDepth 100000 in
theorem lifted4 (os:Os) (started:os.Started) (H:Type) (enc:TypeId×Value→H) :
    ReturnsInHanded {} Tryz.checked os 4 .any (Rows.parcelHistoriesSpec.pre6 enc Tryz.prog Tryz.f4 [] false) (Rows.parcelHistoriesSpec.post enc Tryz.prog Tryz.f4 false true false false):=by
  refine returnsInHanded_of_change own started (by kernel_rfl) Tryz.func4
    (ChangeSpec.witness6 (enc:=enc) (C:=Tryz.checked) (os:=os) false ⟨#[], #[.agg #[.slice none 0 0, .slice none 0 0, .int .i64 0, .int .i64 0, .int .i64 0], .agg #[.int .i64 0, .int .i64 0, .int .i64 0]],[]⟩ 8 (by kernel_rfl) (by kernel_rfl) (by kernel_rfl) (by kernel_rfl)) ?_
  intro W base args ds gs before hval hW _ _
  have hW':=hW
  obtain ⟨p,q,hA,hV,rfl,_,_⟩:=hW
  obtain ⟨rfl,rfl⟩:=trodVars_none hV
  have hp:Tryz.f4.params.toList=[38,24]:=by kernel_rfl
  rw [hp] at hA
  obtain ⟨v0,v1,d0,d1,p0,p1,rfl,rfl,rfl,h0,h1⟩:=trodAll_two hA
  obtain ⟨q0,x0,rfl,⟨_,_,e0,⟨o0a,c0a,e0a,s0a⟩,_,d0,e0b,⟨o0b,c0b,e0c,s0b⟩,e0d⟩,i0⟩:=arg_agg (by kernel_rfl) (hval 0 38 v0 rfl rfl) h0 (opens_trip (e:=35) (e':=36) (e'':=24) (by kernel_rfl) (opens_slice (e:=130) (by kernel_rfl) (by kernel_rfl) opensE_130) (opens_slice (e:=91) (by kernel_rfl) (by kernel_rfl) opensE_91) opensE_24)
  have f0:d0=[.int .i64 x0.2.2.a0, .int .i64 x0.2.2.a1, .int .i64 x0.2.2.a2]:=e0d
  subst f0
  subst e0c
  subst e0b
  subst e0a
  subst e0
  obtain ⟨c1,x1,rfl,e1,i1⟩:=arg_agg (by kernel_rfl) (hval 1 24 v1 rfl rfl) h1 opensE_24
  have f1:c1=[.int .i64 x1.a0, .int .i64 x1.a1, .int .i64 x1.a2]:=e1
  subst f1
  obtain ⟨fuel,hF⟩:=F4_true' x0.1 x0.2.1 x0.2.2.a0 x0.2.2.a1 x0.2.2.a2 x1.a0 x1.a1 x1.a2
  refine (f4_ok fuel x0.1 x0.2.1 x0.2.2.a0 x0.2.2.a1 x0.2.2.a2 x1.a0 x1.a1 x1.a2 true hF (Zone.all W) [] W (St.all W) o0a c0a s0a o0b c0b s0b).mono fun e W' ⟨v,he,h',hle,hv,hs⟩=>?_
  subst he; subst hv
  exact ⟨_,rfl,post_true (tb:=4) lays rfl (by kernel_rfl) (by kernel_rfl) (by kernel_rfl) hW' (hs.below hle (hs.size hle)) rfl⟩
theorem parcelHistories_holds:Rows.ParcelHistoriesSaid :=
  OpenClaim.holds_of_wide 4 Tryz.f4 rfl rfl rfl rfl rfl rfl rfl ⟨rfl,rfl,rfl,rfl,rfl⟩ rfl rfl rfl rfl rfl (by kernel_rfl) Tryz.func4 (by kernel_rfl)
    (of_decide_eq_true (by kernel_rfl)) (by unfold Func.isWrapper; first | (rw [if_pos (by decide +kernel)]; kernel_rfl) | (rw [if_neg (by decide +kernel)]; exact ⟨rfl,rfl⟩))
    (fun os started H enc _=>lifted4 os started H enc)
end Go.Proofs.YtlmgjjmighajdaaGreat
