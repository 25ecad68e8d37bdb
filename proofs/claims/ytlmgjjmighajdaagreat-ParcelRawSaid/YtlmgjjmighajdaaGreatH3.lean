/-
  The statement ParcelRaw holds of the program. No condition.
-/
import Derived.Test.YtlmgjjmighajdaaGreatLf
import Derived.Test.YtlmgjjmighajdaaGreatSk
import Derived.Test.YtlmgjjmighajdaaGreatRows
set_option linter.unusedVariables false
namespace Go.Proofs.YtlmgjjmighajdaaGreat
open Go.Sl Go.Sx Go.RowKit Go.ChangeShapes
theorem own:ownKnob Tryz.prog.godebug=none:=by kernel_rfl
theorem lays:laidOutB Tryz.prog=true:=by kernel_rfl
theorem opensE_43:Opens Tryz.prog 43 LotT (fun p=>I64 p.id∧I64 p.owner∧I64 p.grade∧I64 p.wet):=opens_ints 4 (by kernel_rfl) (by kernel_rfl) (by kernel_rfl) fun h l hl hi=>by
  match l,hl,hi with
  | [a0,a1,a2,a3],_,hi=>exact ⟨⟨a0,a1,a2,a3⟩,rfl,hi _ (by simp),hi _ (by simp),hi _ (by simp),hi _ (by simp)⟩
theorem opensE_74:Opens Tryz.prog 74 DeedT (fun p=>I64 p.kind∧I64 p.lot∧I64 p.frm∧I64 p.to∧I64 p.mass):=opens_ints 5 (by kernel_rfl) (by kernel_rfl) (by kernel_rfl) fun h l hl hi=>by
  match l,hl,hi with
  | [a0,a1,a2,a3,a4],_,hi=>exact ⟨⟨a0,a1,a2,a3,a4⟩,rfl,hi _ (by simp),hi _ (by simp),hi _ (by simp),hi _ (by simp),hi _ (by simp)⟩
theorem opensE_24:Opens Tryz.prog 24 A3T (fun p=>I64 p.a0∧I64 p.a1∧I64 p.a2):=opens_ints 3 (by kernel_rfl) (by kernel_rfl) (by kernel_rfl) fun h l hl hi=>by
  match l,hl,hi with
  | [a0,a1,a2],_,hi=>exact ⟨⟨a0,a1,a2⟩,rfl,hi _ (by simp),hi _ (by simp),hi _ (by simp)⟩
set_option maxRecDepth 100000 in
theorem lifted3 (os:Os) (started:os.Started) (H:Type) (enc:TypeId×Value→H) :
    ReturnsInHanded {} Tryz.checked os 3 .any (Rows.parcelRawSpec.pre6 enc Tryz.prog Tryz.f3 [] false) (Rows.parcelRawSpec.post enc Tryz.prog Tryz.f3 false true false false):=by
  refine returnsInHanded_of_change own started (by kernel_rfl) Tryz.func3
    (ChangeSpec.witness6 (enc:=enc) (C:=Tryz.checked) (os:=os) false ⟨#[], #[.slice none 0 0, .slice none 0 0, .agg #[.int .i64 0, .int .i64 0, .int .i64 0]],[]⟩ 8 (by kernel_rfl) (by kernel_rfl) (by kernel_rfl) (by kernel_rfl)) ?_
  intro W base args ds gs before hval hW _ _
  have hW':=hW
  obtain ⟨p,q,hA,hV,rfl,_,_⟩:=hW
  obtain ⟨rfl,rfl⟩:=trodVars_none hV
  have hp:Tryz.f3.params.toList=[22,23,24]:=by kernel_rfl
  rw [hp] at hA
  obtain ⟨v0,v1,v2,d0,d1,d2,p0,p1,p2,rfl,rfl,rfl,h0,h1,h2⟩:=trodAll_three hA
  obtain ⟨o0,x0,c0,rfl,s0,i0,m0⟩:=arg_slice (e:=43) (by kernel_rfl) (by kernel_rfl) (hval 0 22 v0 rfl rfl) h0 opensE_43
  obtain ⟨o1,x1,c1,rfl,s1,i1,m1⟩:=arg_slice (e:=74) (by kernel_rfl) (by kernel_rfl) (hval 1 23 v1 rfl rfl) h1 opensE_74
  obtain ⟨c2,x2,rfl,e2,i2⟩:=arg_agg (by kernel_rfl) (hval 2 24 v2 rfl rfl) h2 opensE_24
  have f2:c2=[.int .i64 x2.a0, .int .i64 x2.a1, .int .i64 x2.a2]:=e2
  subst f2
  obtain ⟨fuel,hF⟩:=F3_true' x0 x1 x2.a0 x2.a1 x2.a2
  refine (f3_ok fuel x0 x1 x2.a0 x2.a1 x2.a2 true hF (Zone.all W) [] W (St.all W) o0 c0 s0 o1 c1 s1).mono fun e W' ⟨v,he,h',hle,hv,hs⟩=>?_
  subst he; subst hv
  exact ⟨_,rfl,post_true (tb:=4) lays rfl (by kernel_rfl) (by kernel_rfl) (by kernel_rfl) hW' (hs.below hle (hs.size hle)) rfl⟩
theorem parcelRaw_holds:Rows.ParcelRawSaid :=
  OpenClaim.holds_of_wide 3 Tryz.f3 rfl rfl rfl rfl rfl rfl rfl ⟨rfl,rfl,rfl,rfl,rfl⟩ rfl rfl rfl rfl rfl (by kernel_rfl) Tryz.func3 (by kernel_rfl)
    (of_decide_eq_true (by kernel_rfl)) (by unfold Func.isWrapper; first | (rw [if_pos (by decide +kernel)]; kernel_rfl) | (rw [if_neg (by decide +kernel)]; exact ⟨rfl,rfl⟩))
    (fun os started H enc _=>lifted3 os started H enc)
end Go.Proofs.YtlmgjjmighajdaaGreat
