/-
  A part of the walk and of the plain law of one given statement. No condition.
-/
import Derived.Test.YtlmgjjmighajdaaSPa
set_option linter.unusedVariables false
namespace Go.Proofs.Ytlmgjjmighajdaa
open Go.Sl Go.Sx
set_option maxRecDepth 100000 in
theorem f142_ok (fuel:Nat) (x0:Pl) (x1k:Int) (x1o:Int) (x1f:Int) (x1t:Int) (x1m:Int) (r:List Part×List (Int×Bool)×Pl) (hr:F142 fuel x0 x1k x1o x1f x1t x1m=some r) (h:Zone) (L:List Atom) (w:World) (b_x0:Nat) (hS:St h (plA 126 40 117 b_x0 x0::L) w)  :
    Calls Try.prog 142 #[pB b_x0 0, .agg #[vI x1k,vI x1o,vI x1f,vI x1t,vI x1m]] w fun e w'=>∃v,e= .returned v∧(∃h',∃o0:Option Addr,∃c0:Nat,∃o1:Option Nat,Zone.le h h'∧v= .agg #[.slice o0 r.1.length c0, .map o1]∧St h' (plA 126 40 117 b_x0 r.2.2::L) w'∧SliceR PartT h' o0 c0 r.1∧MapR Value.bool h' o1 r.2.1):=by
 refine calls_intro (N:=103) Try.func142 (by kernel_rfl) fun a hf=>?_
 refine c_sr ?_
 refine c_box [vI x1k,vI x1o,vI x1f,vI x1t,vI x1m] 28 hS hf fun b1 ww1 a1 hS1 hf1=>⟨fun _=>trivial,?_⟩
 refine c_box [.slice none 0 0, .map none] 119 hS1 hf1 fun b2 ww2 a2 hS2 hf2=>⟨fun _=>trivial,?_⟩
 refine c_dt ?_
 refine c_sq [] [0,3,4,5] hf2 .nil fun a3 hf3=>?_
 refine c_seq ?_
 obtain ⟨e1,q1,v1,v2,v3,v4,v5,v6,v7,v8,v9,v10,v11,v12,v13,v14,v15,v16,v17,v18,hx1,hS3⟩:=hS2.plOpen (i:=2) rfl
 obtain ⟨p1,hp774,hr1⟩:=bind_some hr
 obtain ⟨e2,q2,hv1,hb1,hS4⟩:=hS3.ownOpen (j:=0) rfl hp774
 have hS5:=hS4.drew
 refine c_sqD [(0,true),(1,true),(2,true),(3,true),(4,true),(5,true),(6,true),(7,true),(8,true),(9,true)] [] [vI x1f, .slice e2 p1.length q2] [0,3,4,5,22,23,24] hf3 (.cell (hS5.box (i:=4) rfl (j:=2) rfl) (.prop hb1 (.cell ((arrAddr b_x0 1 (Int.toNat x1f)) ▸ (hS5.box (i:=5) rfl (getElem?_app_right [.slice e1 x0.lots.length q1] _ _ hv1 [v10,v11,v12,v13,v14,v15,v16,v17,v18]))) .nil))) .nil fun a4 hf4=>?_
 refine c_block 0 ?_
 have hS6:=hS5.ownNil Ty.int 3
 refine c_loop (fun n a w=>∃z1:Zone,∃y8:List Int,∃y9:Int,∃e3:Option Addr,∃q3:Nat,Zone.le h z1∧Fr a 103 [(0,pB b_x0 0),(3,pB b1 0),(4,pB b2 0),(5, .slice e3 y8.length q3),(22, .slice e2 p1.length q2),(23,vI (p1.length:Int)),(24,vI y9)]∧St z1 (ownS Ty.int 3 e3 q3 y8::ownS (Ty.slice PartT) 40 e2 q2 p1::ownH (Ty.slice PartT) 40 [v1,v2,v3,v4,v5,v6,v7,v8,v9] x0.holds (Int.toNat x1f)::ownA (Ty.map Value.bool) 117 [v10,v11,v12,v13,v14,v15,v16,v17,v18] x0.may::box b2 [.slice none 0 0, .map none] 119::box b1 [vI x1k,vI x1o,vI x1f,vI x1t,vI x1m] 28::box b_x0 [.slice e1 x0.lots.length q1,v1,v2,v3,v4,v5,v6,v7,v8,v9,v10,v11,v12,v13,v14,v15,v16,v17,v18] 126::L) w∧(F142_l1 fuel x0 x1f x1m p1 n y8 y9)=some r) fuel ⟨h,[],0,none,0,zr,hf4.to,hS6,hr1⟩ ?_
 rintro n3 a5 ww3 ⟨z1,y8,y9,e3,q3,k3,hf6,hS7,hr2⟩
 cases n3 with
 | zero=>cases hr2
 | succ n2 =>
 refine c_sq [] [0,3,4,5,22,23,24,25] hf6 .nil fun a6 hf7=>?_
 refine c_seq ?_
 refine c_if (decide (y9<(p1.length:Int))) hf7 (fun hb2=>?_) (fun hb2=>?_)
 ·have hr3:=cond_t hb2 hr2
  refine c_skip ?_
  refine n_then ?_
  refine c_seq ?_
  refine c_block 1 ?_
  refine c_sr ?_
  obtain ⟨p7,hp1421,hr4⟩:=bind_some hr3
  obtain ⟨ad1,ho1,hb3,cc1,hc1,hk1⟩:=hS7.ownGet (j:=1) rfl hp1421
  obtain ⟨e4,q4,rfl,hx2⟩:=hc1
  refine c_n 2 [.pointer (some ad1), .slice e4 p7.length q4] [0,3,4,5,22,23,24,27] hf7 (.prop ho1 (.prop hb3 (.cell (hk1 0 _ rfl) .nil))) fun a7 hf8=>?_
  refine c_box [.slice none 0 0] 40 hS7 hf8 fun b3 ww4 a8 hS8 hf9=>⟨fun _=>trivial,?_⟩
  refine c_st 0 [.slice e4 p7.length q4] hS8 hf9 rfl fun ww5 a9 hS9 hf10=>⟨fun _=>trivial,?_⟩
  refine c_dt ?_
  refine c_reg ?_
  refine c_n 2 [.slice e4 p7.length q4] [0,3,4,22,23,24,28,29] hf10 (.cell (hS9.box (i:=0) rfl (j:=0) rfl) .nil) fun a10 hf11=>?_
  obtain ⟨r5,hd1,hr5⟩:=bind_some hr4
  refine c_call hf11 (f90_ok fuel p7 r5 hd1 z1 _ _ hS9 e4 q4 hx2) ?_
  rintro v19 ww6 a11 ⟨z2,k4,rfl,hS10⟩ hf12
  refine ⟨fun _=>trivial,?_⟩
  refine p_box (i:=3) (d:=(some 31)) (cs:=[vI r5]) (T:=3) (v:=fun b4=> .slice (some ⟨b4,0,none⟩) 1 1) hS10 hf12 (fun b=>by kernel_rfl) fun b4 ww7 a12 hS11 hf13=>⟨fun _=>trivial,?_⟩
  have hS12:=hS11.ownBox (T:=Ty.int) (E:=3) (n:=1) (xs:=[r5]) (i:=0) rfl (Rows.cons (c:=[vI r5]) rfl rfl) rfl (by decide)
  obtain ⟨d1,hd2,hr6⟩:=bind_some hr5
  refine p_append (T:=Ty.int) (i:=4) (j:=2) (d:=some 32) (o2:=(some ⟨b4,0,none⟩)) (c2:=1) (ys:=([r5])) el53 hS12 hf13 rfl (by kernel_rfl) (hS12.ownSrc (j:=0) rfl) hd2 fun e5 q5 ww8 a13 hS13 hf14=>⟨fun _=>trivial,?_⟩
  refine c_z [] [0,3,4,5,22,23,24] hf14 .nil fun a14 hf15=>?_
  refine n_block ?_
  refine n_then ?_
  refine c_q [] [0,3,4,5,22,23,24] hf15 .nil fun a15 hf16=>?_
  refine n_then ?_
  exact ⟨n2,Nat.lt_succ_self n2,z2,d1,(w64 (y9 + (1:Int))),e5,q5,(zt k3 k4),hf16.to,(St.drop 2 hS13),hr6⟩
 ·have hr7:=cond_f hb2 hr2
  refine c_exit 0 ?_
  refine x_then ?_
  refine x_then ?_
  refine x_block ?_
  refine n_then ?_
  obtain ⟨p2,hp1486,hr8⟩:=bind_some hr7
  obtain ⟨e6,q6,hv2,hb4,hS14⟩:=hS7.ownOpen (j:=3) rfl hp1486
  have hS15:=hS14.drew
  refine c_sqD [(0,true),(1,true),(2,true),(3,true),(4,true),(5,true),(6,true),(7,true),(8,true),(9,true),(10,true),(11,true),(12,true),(13,true),(14,true),(15,true),(16,true)] [] [vI x1f, .slice e2 p1.length q2,vI x1f, .slice e6 p2.length q6] [0,3,4,5,8,9] hf7 (.cell (hS15.box (i:=6) rfl (j:=2) rfl) (.prop hb1 (.cell ((arrAddr b_x0 1 (Int.toNat x1f)) ▸ (hS15.box (i:=7) rfl (getElem?_app_right [.slice e1 x0.lots.length q1] _ _ hv1 [v10,v11,v12,v13,v14,v15,v16,v17,v18]))) (.cell (hS15.box (i:=6) rfl (j:=2) rfl) (.prop hb4 (.cell ((arrAddr b_x0 10 (Int.toNat x1f)) ▸ (hS15.box (i:=7) rfl (getElem?_app_right [.slice e1 x0.lots.length q1,v1,v2,v3,v4,v5,v6,v7,v8,v9] _ _ hv2 []))) .nil)))))) .nil fun a16 hf18=>?_
  refine c_seq ?_
  have hS16:=hS15.drew
  have s1:=Sub.of zr (hS16.mask (i:=7) rfl)
  refine c_regD [(0,true),(1,true),(2,true),(3,true),(4,true),(5,true),(6,true),(7,true),(8,true),(9,true),(11,true),(12,true),(10,false),(13,true),(14,false)] [14] _ s1 ?_
  refine c_S 12 [vI x1f,vI x1f] [0,3,4,5,8,9,54,58,60] s1 hf18 (fun _ s=>(.cell (s.box (i:=6) rfl (j:=2) rfl) (.cell (s.box (i:=6) rfl (j:=2) rfl) (.prop hb1 .nil)))) .nil fun a17 hf19=>?_
  have hS17:=hS16.ownNil (Ty.slice PartT) 40
  refine p_storeA (i:=10) (j:=8) (b:=b_x0) (ix:=x1f) (pre:=[.slice e1 x0.lots.length q1]) (vs:=[v1,v2,v3,v4,v5,v6,v7,v8,v9]) (post:=[v10,v11,v12,v13,v14,v15,v16,v17,v18]) (v:= .slice none 0 0) hS17 hf19 rfl (by have z3:=hb1.1; have z4:=hb1.2; simp at z4 ⊢; omega) (by kernel_rfl) rfl fun ww9 a18 hS18 hf20=>⟨fun _=>Sub.of zr ((St.drop 1 hS18).mask (i:=7) rfl),?_⟩
  obtain ⟨v20,v21,v22,v23,v24,v25,v26,v27,v28,hu1507⟩:=nine (vs:=[v1,v2,v3,v4,v5,v6,v7,v8,v9].set (Int.toNat x1f) (.slice none 0 0)) (by simp)
  rw [hu1507] at hS18
  have hv3:[v20,v21,v22,v23,v24,v25,v26,v27,v28][Int.toNat x1f]? =some (.slice none 0 0):=by rw [← hu1507]; exact List.getElem?_set_self (by have z3:=hb1.1; have z4:=hb1.2; simp at z4 ⊢; omega)
  have hS19:=hS18
  have s2:=Sub.of zr ((St.drop 1 hS19).mask (i:=7) rfl)
  refine c_S 1 [] [0,3,4,5,8,9,61] s2 hf20 (fun _ s=>(.prop hb4 .nil)) .nil fun a19 hf21=>?_
  have hS20:=hS19.ownNil (Ty.map Value.bool) 117
  refine p_storeA (i:=14) (j:=9) (b:=b_x0) (ix:=x1f) (pre:=[.slice e1 x0.lots.length q1,v20,v21,v22,v23,v24,v25,v26,v27,v28]) (vs:=[v10,v11,v12,v13,v14,v15,v16,v17,v18]) (post:=[]) (v:= .slice none 0 0) hS20 hf21 rfl (by have z3:=hb4.1; have z4:=hb4.2; simp at z4 ⊢; omega) (by kernel_rfl) rfl fun ww10 a20 hS21 hf22=>⟨fun e=>absurd e (by decide),?_⟩
  obtain ⟨v29,v30,v31,v32,v33,v34,v35,v36,v37,hu1528⟩:=nine (vs:=[v10,v11,v12,v13,v14,v15,v16,v17,v18].set (Int.toNat x1f) (.slice none 0 0)) (by simp)
  rw [hu1528] at hS21
  have hv4:[v29,v30,v31,v32,v33,v34,v35,v36,v37][Int.toNat x1f]? =some (.slice none 0 0):=by rw [← hu1528]; exact List.getElem?_set_self (by have z3:=hb4.1; have z4:=hb4.2; simp at z4 ⊢; omega)
  have hS22:=hS21
  refine c_done ?_
  have hS23:=hS22.ownClose (j:=5) (k:=1) rfl rfl (by decide) (List.getElem?_eq_some_iff.1 (getI_spec hp774).2).1
  simp only [List.length_nil] at hS23
  rw [hu1507] at hS23
  have hS24:=hS23.ownClose (j:=6) (k:=0) rfl rfl (by decide) (List.getElem?_eq_some_iff.1 (getI_spec hp1486).2).1
  simp only [List.length_nil] at hS24
  rw [hu1528] at hS24
  have hS25:=hS24.plClose (i:=9) (j:=5) (k:=6) rfl (SliceR.mono k3 hx1) rfl rfl (by decide) (by decide) (by decide)
  refine n_then ?_
  refine c_sr ?_
  refine c_box [.slice none 0 0, .map none] 119 hS25 hf22 fun b5 ww11 a21 hS26 hf23=>⟨fun _=>trivial,?_⟩
  refine c_dt ?_
  refine c_seq ?_
  refine c_sr ?_
  refine c_n 3 [vI x1m] [0,3,4,8,9,10,63,64] hf23 (.cell (hS26.box (i:=9) rfl (j:=4) rfl) .nil) fun a22 hf24=>?_
  obtain ⟨z5,k5,hS27,hx3⟩:=hS26.share (j:=4) rfl
  obtain ⟨r1,hd3,hr9⟩:=bind_some hr8
  refine c_call hf24 (f127_ok fuel x1m y8 r1 hd3 z5 _ _ hS27 e3 q3 hx3) ?_
  rintro v38 ww12 a23 ⟨z6,e7,q7,k6,rfl,hS28,hx4⟩ hf25
  refine ⟨fun _=>trivial,?_⟩
  refine c_t [] [0,3,4,8,9,10,65,66,67] hf25 .nil fun a24 hf26=>?_
  refine c_block 2 ?_
  refine c_loop (fun n a w=>∃z7:Zone,∃y5:Pl,∃y6:List Part,∃y7:List (Int×Bool),∃y1:Int,∃e8:Option Addr,∃q8:Nat,∃e9:Option Nat,Zone.le z6 z7∧Fr a 103 [(0,pB b_x0 0),(3,pB b1 0),(4,pB b2 0),(8, .slice e2 p1.length q2),(9, .slice e6 p2.length q6),(10,pB b5 0),(65, .slice e7 r1.length q7),(66,vI (r1.length:Int)),(67,vI y1)]∧St z7 (box b5 [.slice e8 y6.length q8, .map e9] 119::emp::emp::ownS (Ty.map Value.bool) 117 e6 q6 p2::emp::ownS (Ty.slice PartT) 40 e2 q2 p1::emp::emp::box b2 [.slice none 0 0, .map none] 119::box b1 [vI x1k,vI x1o,vI x1f,vI x1t,vI x1m] 28::plA 126 40 117 b_x0 y5::L) w∧SliceR PartT z7 e8 q8 y6∧MapR Value.bool z7 e9 y7∧(F142_l2 fuel x1f p1 p2 r1 n y5 y6 y7 y1)=some r) fuel ⟨z6,(⟨x0.lots,(x0.holds.set (Int.toNat x1f) ([])),(x0.may.set (Int.toNat x1f) ([]))⟩:Pl),[],[],0,none,0,none,zr,hf26.to,hS28,SliceR.nil' _ _,(MapR.nil' _ _),hr9⟩ ?_
  rintro n4 a25 ww13 ⟨z7,y5,y6,y7,y1,e8,q8,e9,k7,hf28,hS29,hx5,hx6,hr10⟩
  cases n4 with
  | zero=>cases hr10
  | succ n1 =>
  refine c_sq [] [0,3,4,8,9,10,65,66,67,68] hf28 .nil fun a26 hf29=>?_
  refine c_seq ?_
  refine c_if (decide (y1<(r1.length:Int))) hf29 (fun hb5=>?_) (fun hb5=>?_)
  ·have hr11:=cond_t hb5 hr10
   refine c_skip ?_
   refine n_then ?_
   refine c_mid (fun a w=>∃z8:Zone,∃y2:Pl,∃y3:List Part,∃y4:List (Int×Bool),∃e10:Option Addr,∃q9:Nat,∃e11:Option Nat,Zone.le z7 z8∧Fr a 103 [(0,pB b_x0 0),(3,pB b1 0),(4,pB b2 0),(8, .slice e2 p1.length q2),(9, .slice e6 p2.length q6),(10,pB b5 0),(65, .slice e7 r1.length q7),(66,vI (r1.length:Int)),(67,vI y1)]∧St z8 (box b5 [.slice e10 y3.length q9, .map e11] 119::emp::emp::ownS (Ty.map Value.bool) 117 e6 q6 p2::emp::ownS (Ty.slice PartT) 40 e2 q2 p1::emp::emp::box b2 [.slice none 0 0, .map none] 119::box b1 [vI x1k,vI x1o,vI x1f,vI x1t,vI x1m] 28::plA 126 40 117 b_x0 y2::L) w∧SliceR PartT z8 e10 q9 y3∧MapR Value.bool z8 e11 y4∧(F142_j1 (F142_l2 fuel x1f p1 p2 r1 n1) y1 y2 y3 y4)=some r) ?_ ?_
   ·skip
    refine c_block 3 ?_
    obtain ⟨p3,hp5107,hr12⟩:=bind_some hr11
    obtain ⟨ad2,ho2,hb6,cc2,hc2,hk2⟩:=SliceR.getI (SliceR.mono k7 hx4) hp5107
    subst hc2
    refine c_sq [.pointer (some ad2),vI p3] [0,3,4,8,9,10,11,12,65,66,67] hf29 (.prop ho2 (.prop hb6 (.cell (hS29.cell (hk2 0 _ rfl)) .nil))) fun a27 hf30=>?_
    refine c_sr ?_
    obtain ⟨p4,hp5118,hr13⟩:=bind_some hr12
    obtain ⟨ad3,ho3,hb7,cc3,hc3,hk3⟩:=hS29.ownGet (j:=5) rfl hp5118
    obtain ⟨e12,q10,rfl,hx7⟩:=hc3
    refine c_n 5 [.pointer (some ad3), .slice e12 p4.length q10] [0,3,4,8,9,10,11,12,65,66,67,76,77] hf30 (.prop ho3 (.prop hb7 (.cell (hk3 0 _ rfl) .nil))) fun a28 hf31=>?_
    obtain ⟨r2,hd4,hr14⟩:=bind_some hr13
    refine c_call hf31 (f91_ok fuel p4 p3 r2 hd4 z7 _ _ hS29 e12 q10 hx7) ?_
    rintro v39 ww14 a29 ⟨z9,e13,q11,e14,q12,k8,rfl,hS30,hx8,hx9⟩ hf32
    refine ⟨fun _=>trivial,?_⟩
    refine c_n 3 [] [0,3,4,8,9,10,11,12,65,66,67,79,80] hf32 .nil fun a30 hf33=>?_
    refine c_box [.slice none 0 0] 40 hS30 hf33 fun b6 ww15 a31 hS31 hf34=>⟨fun _=>trivial,?_⟩
    refine c_box [.slice none 0 0] 40 hS31 hf34 fun b7 ww16 a32 hS32 hf35=>⟨fun _=>trivial,?_⟩
    refine c_st 1 [.slice e13 r2.1.length q11] hS32 hf35 rfl fun ww17 a33 hS33 hf36=>⟨fun _=>trivial,?_⟩
    refine c_st 0 [.slice e14 r2.2.length q12] hS33 hf36 rfl fun ww18 a34 hS34 hf37=>⟨fun _=>trivial,?_⟩
    refine c_dt ?_
    refine c_seq ?_
    have hS35:=hS34.drew
    refine c_regD [(0,true),(1,true),(2,true),(3,true),(4,true),(5,true),(6,true),(7,true),(8,true),(9,false)] [9] (fun x=>x=ww18.drew) rfl ?_
    obtain ⟨p5,hp5174,hr15⟩:=bind_some hr14
    obtain ⟨ad4,ho4,hb8,cc4,hc4,hk4⟩:=hS35.ownGet (j:=5) rfl hp5174
    obtain ⟨e15,rfl,hx10⟩:=hc4
    refine c_E 9 [vI x1f, .slice e14 r2.2.length q12, .pointer (some ad4), .map e15] [0,3,4,8,9,10,11,12,13,65,66,67,81,83,89] hf37 (.cell (hS35.box (i:=11) rfl (j:=2) rfl) (.cell (hS35.box (i:=0) rfl (j:=0) rfl) (.prop ho4 (.prop hb8 (.cell (hk4 0 _ rfl) .nil))))) .nil fun a35 hf38=>?_
    have hS36:=St.swapTo (i:=13) (j:=0) (St.addEmp hS35) rfl rfl (by decide)
    have hS37:=hS36
    obtain ⟨r3,hd5,hr16⟩:=bind_some hr15
    refine c_call hf38 (f148_ok fuel y5 x1f r2.2 p5 r3 hd5 z9 _ _ b_x0 hS37 e14 q12 hx9 e15 hx10) ?_
    rintro v40 ww19 a36 ⟨z10,k9,rfl,hS38⟩ hf39
    have hS39:=St.swapTo (i:=0) (j:=13) hS38 rfl rfl (by decide)
    have hS40:=hS39
    refine ⟨fun e=>absurd e (by decide),?_⟩
    refine c_dt ?_
    refine c_sq [] [0,3,4,8,9,10,11,13,65,66,67,92] hf39 .nil fun a37 hf40=>?_
    refine c_if (decide (p3 > (0:Int))) hf40 (fun hb9=>?_) (fun hb9=>?_)
    ·have hr17:=cond_t hb9 hr16
     have hS41:=hS40.drew
     refine c_regD [(0,true),(1,true),(2,true),(3,true),(4,true),(5,true),(6,true),(7,false),(8,false)] [7,8] (fun x=>x=ww19.drew) rfl ?_
     obtain ⟨p6,hp5212,hr18⟩:=bind_some hr17
     obtain ⟨ad5,ho5,hb10,cc5,hc5,hk5⟩:=hS41.ownGet (j:=6) rfl hp5212
     obtain ⟨e16,rfl,hx11⟩:=hc5
     refine c_E 7 [.slice e8 y6.length q8, .map e9, .slice e13 r2.1.length q11, .pointer (some ad5), .map e16] [0,3,4,8,9,10,65,66,67,93,99] hf40 (.cell (hS41.box (i:=3) rfl (j:=0) rfl) (.cell (hS41.box (i:=3) rfl (j:=1) rfl) (.cell (hS41.box (i:=2) rfl (j:=0) rfl) (.prop ho5 (.prop hb10 (.cell (hk5 0 _ rfl) .nil)))))) .nil fun a38 hf41=>?_
     obtain ⟨r4,hd6,hr19⟩:=bind_some hr18
     refine c_call hf41 (f150_ok fuel y6 y7 r2.1 p6 r4 hd6 z10 _ _ hS41 e8 q8 (SliceR.mono (zt k8 k9) hx5) e9 (MapR.mono (zt k8 k9) hx6) e13 q11 (SliceR.mono k9 hx8) e16 hx11) ?_
     rintro v41 ww20 a39 ⟨z11,e17,q13,e18,k10,rfl,hS42,hx12,hx13⟩ hf42
     refine ⟨fun e=>absurd e (by decide),?_⟩
     refine c_st 3 [.slice e17 r4.1.length q13, .map e18] hS42 hf42 rfl fun ww21 a40 hS43 hf43=>⟨fun e=>absurd e (by decide),?_⟩
     refine c_done ?_
     refine n_block ?_
     refine n_then ?_
     exact ⟨z11,r3,r4.1,r4.2,e17,q13,e18,(zt (zt k8 k9) k10),hf43.to,(St.drop 3 hS43),hx12,hx13,hr19⟩
    ·have hr20:=cond_f hb9 hr16
     refine c_skip ?_
     refine n_block ?_
     refine n_then ?_
     exact ⟨z10,r3,y6,y7,e8,q8,e9,(zt k8 k9),hf40.to,(St.drop 3 hS40),(SliceR.mono (zt k8 k9) hx5),(MapR.mono (zt k8 k9) hx6),hr20⟩
   ·rintro a41 ww22 ⟨z8,y2,y3,y4,e10,q9,e11,k11,hf46,hS44,hx14,hx15,hr21⟩
    refine c_q [] [0,3,4,8,9,10,65,66,67] hf46 .nil fun a42 hf47=>?_
    refine n_then ?_
    exact ⟨n1,Nat.lt_succ_self n1,z8,y2,y3,y4,(w64 (y1 + (1:Int))),e10,q9,e11,(zt k7 k11),hf47.to,hS44,hx14,hx15,hr21⟩
  ·have hr22:=cond_f hb5 hr10
   refine c_exit 2 ?_
   refine x_then ?_
   refine x_then ?_
   refine x_block ?_
   refine n_then ?_
   refine c_sr ?_
   refine c_n 1 [.slice e8 y6.length q8, .map e9] [4,102] hf29 (.cell (hS29.box (i:=0) rfl (j:=0) rfl) (.cell (hS29.box (i:=0) rfl (j:=1) rfl) .nil)) fun a43 hf49=>?_
   refine c_st 8 [.slice e8 y6.length q8, .map e9] hS29 hf49 rfl fun ww23 a44 hS45 hf50=>⟨fun _=>trivial,?_⟩
   refine c_dt ?_
   refine c_ret ?_
   refine c_rt [.slice e8 y6.length q8, .map e9] (.agg #[.slice e8 y6.length q8, .map e9]) hf50 (.cell (hS45.box (i:=8) rfl (j:=0) rfl) (.cell (hS45.box (i:=8) rfl (j:=1) rfl) .nil)) ?_
   obtain rfl:=some_eq hr22
   exact ⟨_,rfl,z7,e8,q8,e9,(zt (zt (zt k3 k5) k6) k7),rfl,(St.pick 11 [10] hS45 (by kernel_rfl)),hx5,hx6⟩
def F143 (fuel:Nat) (x0:Pl) (x1k:Int) (x1o:Int) (x1f:Int) (x1t:Int) (x1m:Int):Option (List Part×List (Int×Bool)×Pl) :=
  ((F151 fuel x0 x1f).bind fun r1=>((F152 fuel r1.2.2 x1f).bind fun r2=>((F146 fuel r2 x1f r1.1 r1.2.1).bind fun r3=>(some ([],[],r3)))))
set_option maxRecDepth 100000 in
theorem f143_ok (fuel:Nat) (x0:Pl) (x1k:Int) (x1o:Int) (x1f:Int) (x1t:Int) (x1m:Int) (r:List Part×List (Int×Bool)×Pl) (hr:F143 fuel x0 x1k x1o x1f x1t x1m=some r) (h:Zone) (L:List Atom) (w:World) (b_x0:Nat) (hS:St h (plA 126 40 117 b_x0 x0::L) w)  :
    Calls Try.prog 143 #[pB b_x0 0, .agg #[vI x1k,vI x1o,vI x1f,vI x1t,vI x1m]] w fun e w'=>∃v,e= .returned v∧(∃h',∃o0:Option Addr,∃c0:Nat,∃o1:Option Nat,Zone.le h h'∧v= .agg #[.slice o0 r.1.length c0, .map o1]∧St h' (plA 126 40 117 b_x0 r.2.2::L) w'∧SliceR PartT h' o0 c0 r.1∧MapR Value.bool h' o1 r.2.1):=by
 refine calls_intro (N:=20) Try.func143 (by kernel_rfl) fun a hf=>?_
 refine c_sr ?_
 refine c_box [vI x1k,vI x1o,vI x1f,vI x1t,vI x1m] 28 hS hf fun b1 ww1 a1 hS1 hf1=>⟨fun _=>trivial,?_⟩
 refine c_box [.slice none 0 0, .map none] 119 hS1 hf1 fun b2 ww2 a2 hS2 hf2=>⟨fun _=>trivial,?_⟩
 refine c_dt ?_
 refine c_sr ?_
 refine c_n 3 [vI x1f] [0,3,4,6,8] hf2 (.cell (hS2.box (i:=1) rfl (j:=2) rfl) .nil) fun a3 hf3=>?_
 have hS3:=St.swapTo (i:=3) (j:=0) (St.addEmp hS2) rfl rfl (by decide)
 have hS4:=hS3
 obtain ⟨r1,hd1,hr1⟩:=bind_some hr
 refine c_call hf3 (f151_ok fuel x0 x1f r1 hd1 h _ _ b_x0 hS4 ) ?_
 rintro v1 ww3 a4 ⟨z1,e1,q1,e2,k1,rfl,hS5,hx1,hx2⟩ hf4
 have hS6:=St.swapTo (i:=0) (j:=3) hS5 rfl rfl (by decide)
 have hS7:=hS6
 refine ⟨fun _=>trivial,?_⟩
 refine c_box [.slice none 0 0, .map none] 119 hS7 hf4 fun b3 ww4 a5 hS8 hf5=>⟨fun _=>trivial,?_⟩
 refine c_st 0 [.slice e1 r1.1.length q1, .map e2] hS8 hf5 rfl fun ww5 a6 hS9 hf6=>⟨fun _=>trivial,?_⟩
 refine c_dt ?_
 refine c_sr ?_
 refine c_n 3 [vI x1f] [0,3,4,5,10,12] hf6 (.cell (hS9.box (i:=3) rfl (j:=2) rfl) .nil) fun a7 hf7=>?_
 have hS10:=St.swapTo (i:=5) (j:=0) (St.addEmp hS9) rfl rfl (by decide)
 have hS11:=hS10
 obtain ⟨r2,hd2,hr2⟩:=bind_some hr1
 refine c_call hf7 (f152_ok fuel r1.2.2 x1f r2 hd2 z1 _ _ b_x0 hS11 ) ?_
 rintro v2 ww6 a8 ⟨z2,k2,rfl,hS12⟩ hf8
 have hS13:=St.swapTo (i:=0) (j:=5) hS12 rfl rfl (by decide)
 have hS14:=hS13
 refine ⟨fun _=>trivial,?_⟩
 refine c_dt ?_
 refine c_sr ?_
 refine c_n 4 [vI x1f, .slice e1 r1.1.length q1, .map e2] [4,14,16,17] hf8 (.cell (hS14.box (i:=4) rfl (j:=2) rfl) (.cell (hS14.box (i:=1) rfl (j:=0) rfl) (.cell (hS14.box (i:=1) rfl (j:=1) rfl) .nil))) fun a9 hf9=>?_
 have hS15:=St.swapTo (i:=6) (j:=0) (St.addEmp hS14) rfl rfl (by decide)
 have hS16:=hS15
 obtain ⟨r3,hd3,hr3⟩:=bind_some hr2
 refine c_call hf9 (f146_ok fuel r2 x1f r1.1 r1.2.1 r3 hd3 z2 _ _ b_x0 hS16 e1 q1 (SliceR.mono k2 hx1) e2 (MapR.mono k2 hx2)) ?_
 rintro v3 ww7 a10 ⟨z3,k3,rfl,hS17⟩ hf10
 have hS18:=St.swapTo (i:=0) (j:=6) hS17 rfl rfl (by decide)
 have hS19:=hS18
 refine ⟨fun _=>trivial,?_⟩
 refine c_dt ?_
 refine c_sr ?_
 refine c_n 1 [] [4,19] hf10 .nil fun a11 hf11=>?_
 refine c_st 4 [.slice none 0 0, .map none] hS19 hf11 rfl fun ww8 a12 hS20 hf12=>⟨fun _=>trivial,?_⟩
 refine c_dt ?_
 refine c_ret ?_
 refine c_rt [.slice none 0 0, .map none] (.agg #[.slice none 0 0, .map none]) hf12 (.cell (hS20.box (i:=4) rfl (j:=0) rfl) (.cell (hS20.box (i:=4) rfl (j:=1) rfl) .nil)) ?_
 obtain rfl:=some_eq hr3
 exact ⟨_,rfl,z3,none,0,none,(zt (zt k1 k2) k3),rfl,(St.pick 7 [6] hS20 (by kernel_rfl)),SliceR.nil' _ _,(MapR.nil' _ _)⟩
def F130 (fuel:Nat) (x0:Int):Option (Bool) :=
  ((F71 fuel x0 0 8).bind fun r1=>(some (r1)))
set_option maxRecDepth 100000 in
theorem f130_ok (fuel:Nat) (x0:Int) (r:Bool) (hr:F130 fuel x0=some r) (h:Zone) (L:List Atom) (w:World) (hS:St h L w)  :
    Calls Try.prog 130 #[vI x0] w fun e w'=>∃v,e= .returned v∧(∃h',Zone.le h h'∧v= .bool r∧St h' L w'):=by
 refine calls_intro (N:=5) Try.func130 (by kernel_rfl) fun a hf=>?_
 refine c_sq [] [0] hf .nil fun a1 hf1=>?_
 refine c_sr ?_
 refine c_n 1 [] [3] hf1 .nil fun a2 hf2=>?_
 obtain ⟨r1,hd1,hr1⟩:=bind_some hr
 refine c_call hf2 (f71_ok fuel x0 0 8 r1 hd1 h _ _ hS ) ?_
 rintro v1 ww1 a3 ⟨z1,k1,rfl,hS1⟩ hf3
 refine ⟨fun _=>trivial,?_⟩
 refine c_t [] [2] hf3 .nil fun a4 hf4=>?_
 refine c_ret ?_
 refine c_rt [] (.bool r1) hf4 .nil ?_
 obtain rfl:=some_eq hr1
 exact ⟨_,rfl,z1,k1,rfl,hS1⟩
def F122 (fuel:Nat) (x0i:Int) (x0w:Int) (x0g:Int) (x0e:Int) (x1:Int):Option (Int) :=
  ((F123 fuel x0i x1).bind fun r1=>(some (r1)))
set_option maxRecDepth 100000 in
theorem f122_ok (fuel:Nat) (x0i:Int) (x0w:Int) (x0g:Int) (x0e:Int) (x1:Int) (r:Int) (hr:F122 fuel x0i x0w x0g x0e x1=some r) (h:Zone) (L:List Atom) (w:World) (hS:St h L w)  :
    Calls Try.prog 122 #[.agg #[vI x0i,vI x0w,vI x0g,vI x0e],vI x1] w fun e w'=>∃v,e= .returned v∧(v=vI r∧St h L w'):=by
 refine calls_intro (N:=9) Try.func122 (by kernel_rfl) fun a hf=>?_
 refine c_sr ?_
 refine c_box [vI x0i,vI x0w,vI x0g,vI x0e] 33 hS hf fun b1 ww1 a1 hS1 hf1=>⟨fun _=>trivial,?_⟩
 refine c_t [] [1,2] hf1 .nil fun a2 hf2=>?_
 refine c_sr ?_
 refine c_n 3 [vI x0i] [6,7] hf2 (.cell (hS1.box (i:=0) rfl (j:=0) rfl) .nil) fun a3 hf3=>?_
 obtain ⟨r1,hd1,hr1⟩:=bind_some hr
 refine c_call hf3 (f123_ok fuel x0i x1 r1 hd1 h _ _ hS1 ) ?_
 rintro v1 ww2 a4 ⟨rfl,hS2⟩ hf4
 refine ⟨fun _=>trivial,?_⟩
 refine c_t [] [4] hf4 .nil fun a5 hf5=>?_
 refine c_ret ?_
 refine c_rt [] (vI r1) hf5 .nil ?_
 obtain rfl:=some_eq hr1
 exact ⟨_,rfl,rfl,(St.drop 1 hS2)⟩
def F74_j1 (y1:Int) (y2:Bool):Option (Int×Bool) :=
  (some (y1,y2))
def F74_l1 (fuel:Nat) (x0:List Lot) (x1:Int):Nat→Int→Int→Option (Int×Bool)
  | 0,_,_=>none
  | n1 + 1,y1,y3 =>
    let k1:Int→Int→Option (Int×Bool):=F74_l1 fuel x0 x1 n1
    (cond (decide (y1<y3)) ((getI x0 (w64 (Int.fdiv (IntKind.wrap .u64 (w64 (y1 + y3))) 2))).bind fun p1=>((F122 fuel p1.id p1.owner p1.grade p1.wet x1).bind fun r1=>(cond (decide (r1<(0:Int))) (k1 (w64 ((w64 (Int.fdiv (IntKind.wrap .u64 (w64 (y1 + y3))) 2)) + (1:Int))) y3) (k1 y1 (w64 (Int.fdiv (IntKind.wrap .u64 (w64 (y1 + y3))) 2)))))) (cond (decide (y1<(x0.length:Int))) ((getI x0 y1).bind fun p2=>((F122 fuel p2.id p2.owner p2.grade p2.wet x1).bind fun r2=>(F74_j1 y1 (r2 == (0:Int))))) (F74_j1 y1 false)))
def F74 (fuel:Nat) (x0:List Lot) (x1:Int):Option (Int×Bool) :=
  (F74_l1 fuel x0 x1 fuel 0 (x0.length:Int))
set_option maxRecDepth 100000 in
theorem f74_ok (fuel:Nat) (x0:List Lot) (x1:Int) (r:Int×Bool) (hr:F74 fuel x0 x1=some r) (h:Zone) (L:List Atom) (w:World) (hS:St h L w) (o_x0:Option Addr) (c_x0:Nat) (hx_x0:SliceR LotT h o_x0 c_x0 x0) :
    Calls Try.prog 74 #[.slice o_x0 x0.length c_x0,vI x1] w fun e w'=>∃v,e= .returned v∧(∃h',Zone.le h h'∧v= .tuple #[vI r.1, .bool r.2]∧St h' L w'):=by
 refine calls_intro (N:=11) Try.func74 (by kernel_rfl) fun a hf=>?_
 refine c_sq [] [0,1] hf .nil fun a1 hf1=>?_
 refine c_sr ?_
 refine c_n 2 [] [6,7] hf1 .nil fun a2 hf2=>?_
 refine p_inl (i:=2) (d:=some 8) (f:=121) (args:= #[.slice o_x0 x0.length c_x0,vI x1, .func (.func 122) #[] #[]]) (N':=49) hf2 (by kernel_rfl) Try.func121 (by kernel_rfl) fun a3 hf3=>?_
 refine c_sq [] [0,1,2] hf3 .nil fun a4 hf4=>?_
 refine c_sq [] [0,1,2,8] hf4 .nil fun a5 hf5=>?_
 refine c_sq [] [0,1,2,8,9,10] hf5 .nil fun a6 hf6=>?_
 refine c_seq ?_
 refine c_block 0 ?_
 refine c_loop (fun n a w=>∃z1:Zone,∃y1:Int,∃y3:Int,Zone.le h z1∧Fr a 49 [(0, .slice o_x0 x0.length c_x0),(1,vI x1),(2, .func (.func 122) #[] #[]),(8,vI (x0.length:Int)),(9,vI y1),(10,vI y3)]∧St z1 (L) w∧(F74_l1 fuel x0 x1 n y1 y3)=some r) fuel ⟨h,0,(x0.length:Int),zr,hf6.to,hS,hr⟩ ?_
 rintro n2 a7 ww1 ⟨z1,y1,y3,k2,hf8,hS1,hr1⟩
 cases n2 with
 | zero=>cases hr1
 | succ n1 =>
 refine c_seq ?_
 refine c_sq [] [0,1,2,8,9,10,17] hf8 .nil fun a8 hf9=>?_
 refine c_if (decide (y1<y3)) hf9 (fun hb1=>?_) (fun hb1=>?_)
 ·have hr2:=cond_t hb1 hr1
  refine c_skip ?_
  refine n_then ?_
  refine c_block 1 ?_
  refine c_sq [] [0,1,2,8,9,10,11] hf9 .nil fun a9 hf10=>?_
  refine c_sr ?_
  obtain ⟨p1,hp858,hr3⟩:=bind_some hr2
  obtain ⟨ad1,ho1,hb2,cc1,hc1,hk1⟩:=SliceR.getI (SliceR.mono k2 hx_x0) hp858
  subst hc1
  refine c_n 6 [.pointer (some ad1),vI p1.id,vI p1.owner,vI p1.grade,vI p1.wet] [0,1,2,8,9,10,11,24,28,29] hf10 (.prop ho1 (.prop hb2 (.cell (hS1.cell (hk1 0 _ rfl)) (.cell (hS1.cell (hk1 1 _ rfl)) (.cell (hS1.cell (hk1 2 _ rfl)) (.cell (hS1.cell (hk1 3 _ rfl)) .nil)))))) fun a10 hf11=>?_
  obtain ⟨r1,hd1,hr4⟩:=bind_some hr3
  refine c_call hf11 (f122_ok fuel p1.id p1.owner p1.grade p1.wet x1 r1 hd1 z1 _ _ hS1 ) ?_
  rintro v1 ww2 a11 ⟨rfl,hS2⟩ hf12
  refine ⟨fun _=>trivial,?_⟩
  refine c_t [] [0,1,2,8,9,10,11,31] hf12 .nil fun a12 hf13=>?_
  refine c_if (decide (r1<(0:Int))) hf13 (fun hb3=>?_) (fun hb3=>?_)
  ·have hr5:=cond_t hb3 hr4
   refine c_q [] [0,1,2,8,9,10] hf13 .nil fun a13 hf14=>?_
   refine n_block ?_
   refine n_then ?_
   exact ⟨n1,Nat.lt_succ_self n1,z1,(w64 ((w64 (Int.fdiv (IntKind.wrap .u64 (w64 (y1 + y3))) 2)) + (1:Int))),y3,k2,hf14.to,hS2,hr5⟩
  ·have hr6:=cond_f hb3 hr4
   refine c_q [] [0,1,2,8,9,10] hf13 .nil fun a14 hf16=>?_
   refine n_block ?_
   refine n_then ?_
   exact ⟨n1,Nat.lt_succ_self n1,z1,y1,(w64 (Int.fdiv (IntKind.wrap .u64 (w64 (y1 + y3))) 2)),k2,hf16.to,hS2,hr6⟩
 ·have hr7:=cond_f hb1 hr1
  refine c_exit 0 ?_
  refine x_then ?_
  refine x_then ?_
  refine x_block ?_
  refine n_then ?_
  refine c_mid (fun a w=>∃z2:Zone,∃y2:Bool,Zone.le z1 z2∧Fr a 49 [(6,vI y1),(7, .bool y2)]∧St z2 (L) w∧(F74_j1 y1 y2)=some r) ?_ ?_
  ·skip
   refine c_reg ?_
   refine c_n 5 [] [0,1,2,9,35,39] hf9 .nil fun a15 hf18=>?_
   rcases bft (decide (y1<(x0.length:Int))) with hb4 | hb4
   ·have hr8:=cond_t hb4 hr7
    have hf19:=hf18.lit 39 hb4
    obtain ⟨p2,hp976,hr9⟩:=bind_some hr8
    obtain ⟨ad2,ho2,hb5,cc2,hc2,hk2⟩:=SliceR.getI (SliceR.mono k2 hx_x0) hp976
    subst hc2
    refine c_n 6 [.pointer (some ad2),vI p2.id,vI p2.owner,vI p2.grade,vI p2.wet] [35,39,40,44,45] hf19 (.prop ho2 (.prop hb5 (.cell (hS1.cell (hk2 0 _ rfl)) (.cell (hS1.cell (hk2 1 _ rfl)) (.cell (hS1.cell (hk2 2 _ rfl)) (.cell (hS1.cell (hk2 3 _ rfl)) .nil)))))) fun a16 hf20=>?_
    obtain ⟨r2,hd2,hr10⟩:=bind_some hr9
    refine c_call hf20 (f122_ok fuel p2.id p2.owner p2.grade p2.wet x1 r2 hd2 z1 _ _ hS1 ) ?_
    rintro v2 ww3 a17 ⟨rfl,hS3⟩ hf21
    refine ⟨fun _=>trivial,?_⟩
    refine c_t [] [6,7] hf21 .nil fun a18 hf22=>?_
    exact ⟨z1,(r2 == (0:Int)),zr,hf22.to,hS3,hr10⟩
   ·have hr11:=cond_f hb4 hr7
    have hf24:=hf18.lit 39 hb4
    refine c_t [] [6,7] hf24 .nil fun a19 hf25=>?_
    exact ⟨z1,false,zr,hf25.to,hS1,hr11⟩
  ·rintro a20 ww4 ⟨z2,y2,k3,hf27,hS4,hr12⟩
   refine c_ret ?_
   refine c_rt [] (.tuple #[vI y1, .bool y2]) hf27 .nil ?_
   refine ⟨_,rfl,fun a21 hf28=>?_⟩
   refine ⟨fun _=>trivial,?_⟩
   refine c_t [] [4,5] hf28 .nil fun a22 hf29=>?_
   refine c_ret ?_
   refine c_rt [] (.tuple #[vI y1, .bool y2]) hf29 .nil ?_
   obtain rfl:=some_eq hr12
   exact ⟨_,rfl,z2,(zt k2 k3),rfl,hS4⟩
def F124_j3 (fuel:Nat) (x0l:List Lot) (x1o:Int) (y1:Bool) (y2:Bool):Option (Bool) :=
  (cond y2 (some (false)) (cond (!y1) (some (true)) ((F74 fuel x0l x1o).bind fun r1=>(some (r1.2)))))
def F124_j2 (fuel:Nat) (x0l:List Lot) (x1o:Int) (x1f:Int) (x1t:Int) (x1m:Int) (y1:Bool) (y3:Bool) (y4:Bool) (y5:Bool) (y6:Bool):Option (Bool) :=
  (cond y6 (some (false)) (cond y3 ((F130 fuel x1f).bind fun r2=>(cond (!r2) (F124_j3 fuel x0l x1o y1 true) (cond y4 ((F130 fuel x1t).bind fun r3=>(cond (!r3) (F124_j3 fuel x0l x1o y1 true) (cond y3 (cond y4 (cond (x1f == x1t) (F124_j3 fuel x0l x1o y1 true) (cond y5 ((F71 fuel x1m 1 100000000).bind fun r4=>(F124_j3 fuel x0l x1o y1 (!r4))) (F124_j3 fuel x0l x1o y1 false))) (cond y5 ((F71 fuel x1m 1 100000000).bind fun r5=>(F124_j3 fuel x0l x1o y1 (!r5))) (F124_j3 fuel x0l x1o y1 false))) (cond y5 ((F71 fuel x1m 1 100000000).bind fun r6=>(F124_j3 fuel x0l x1o y1 (!r6))) (F124_j3 fuel x0l x1o y1 false))))) (cond y3 (cond y4 (cond (x1f == x1t) (F124_j3 fuel x0l x1o y1 true) (cond y5 ((F71 fuel x1m 1 100000000).bind fun r7=>(F124_j3 fuel x0l x1o y1 (!r7))) (F124_j3 fuel x0l x1o y1 false))) (cond y5 ((F71 fuel x1m 1 100000000).bind fun r8=>(F124_j3 fuel x0l x1o y1 (!r8))) (F124_j3 fuel x0l x1o y1 false))) (cond y5 ((F71 fuel x1m 1 100000000).bind fun r9=>(F124_j3 fuel x0l x1o y1 (!r9))) (F124_j3 fuel x0l x1o y1 false)))))) (cond y4 ((F130 fuel x1t).bind fun r10=>(cond (!r10) (F124_j3 fuel x0l x1o y1 true) (cond y3 (cond y4 (cond (x1f == x1t) (F124_j3 fuel x0l x1o y1 true) (cond y5 ((F71 fuel x1m 1 100000000).bind fun r11=>(F124_j3 fuel x0l x1o y1 (!r11))) (F124_j3 fuel x0l x1o y1 false))) (cond y5 ((F71 fuel x1m 1 100000000).bind fun r12=>(F124_j3 fuel x0l x1o y1 (!r12))) (F124_j3 fuel x0l x1o y1 false))) (cond y5 ((F71 fuel x1m 1 100000000).bind fun r13=>(F124_j3 fuel x0l x1o y1 (!r13))) (F124_j3 fuel x0l x1o y1 false))))) (cond y3 (cond y4 (cond (x1f == x1t) (F124_j3 fuel x0l x1o y1 true) (cond y5 ((F71 fuel x1m 1 100000000).bind fun r14=>(F124_j3 fuel x0l x1o y1 (!r14))) (F124_j3 fuel x0l x1o y1 false))) (cond y5 ((F71 fuel x1m 1 100000000).bind fun r15=>(F124_j3 fuel x0l x1o y1 (!r15))) (F124_j3 fuel x0l x1o y1 false))) (cond y5 ((F71 fuel x1m 1 100000000).bind fun r16=>(F124_j3 fuel x0l x1o y1 (!r16))) (F124_j3 fuel x0l x1o y1 false))))))
def F124_j1 (fuel:Nat) (x0l:List Lot) (x1o:Int) (x1f:Int) (x1t:Int) (x1m:Int) (y7:Bool) (y1:Bool) (y3:Bool) (y4:Bool) (y5:Bool) (y8:Option Nat):Option (Bool) :=
  (cond (!y7) (F124_j2 fuel x0l x1o x1f x1t x1m y1 y3 y4 y5 true) (cond (!y1) (cond (x1o != (0:Int)) (F124_j2 fuel x0l x1o x1f x1t x1m y1 y3 y4 y5 true) (cond (!y3) (cond (x1f != (0:Int)) (F124_j2 fuel x0l x1o x1f x1t x1m y1 y3 y4 y5 true) (cond (!y4) (cond (x1t != (0:Int)) (F124_j2 fuel x0l x1o x1f x1t x1m y1 y3 y4 y5 true) (cond (!y5) (F124_j2 fuel x0l x1o x1f x1t x1m y1 y3 y4 y5 (x1m != (0:Int))) (F124_j2 fuel x0l x1o x1f x1t x1m y1 y3 y4 y5 false))) (cond (!y5) (F124_j2 fuel x0l x1o x1f x1t x1m y1 y3 y4 y5 (x1m != (0:Int))) (F124_j2 fuel x0l x1o x1f x1t x1m y1 y3 y4 y5 false)))) (cond (!y4) (cond (x1t != (0:Int)) (F124_j2 fuel x0l x1o x1f x1t x1m y1 y3 y4 y5 true) (cond (!y5) (F124_j2 fuel x0l x1o x1f x1t x1m y1 y3 y4 y5 (x1m != (0:Int))) (F124_j2 fuel x0l x1o x1f x1t x1m y1 y3 y4 y5 false))) (cond (!y5) (F124_j2 fuel x0l x1o x1f x1t x1m y1 y3 y4 y5 (x1m != (0:Int))) (F124_j2 fuel x0l x1o x1f x1t x1m y1 y3 y4 y5 false))))) (cond (!y3) (cond (x1f != (0:Int)) (F124_j2 fuel x0l x1o x1f x1t x1m y1 y3 y4 y5 true) (cond (!y4) (cond (x1t != (0:Int)) (F124_j2 fuel x0l x1o x1f x1t x1m y1 y3 y4 y5 true) (cond (!y5) (F124_j2 fuel x0l x1o x1f x1t x1m y1 y3 y4 y5 (x1m != (0:Int))) (F124_j2 fuel x0l x1o x1f x1t x1m y1 y3 y4 y5 false))) (cond (!y5) (F124_j2 fuel x0l x1o x1f x1t x1m y1 y3 y4 y5 (x1m != (0:Int))) (F124_j2 fuel x0l x1o x1f x1t x1m y1 y3 y4 y5 false)))) (cond (!y4) (cond (x1t != (0:Int)) (F124_j2 fuel x0l x1o x1f x1t x1m y1 y3 y4 y5 true) (cond (!y5) (F124_j2 fuel x0l x1o x1f x1t x1m y1 y3 y4 y5 (x1m != (0:Int))) (F124_j2 fuel x0l x1o x1f x1t x1m y1 y3 y4 y5 false))) (cond (!y5) (F124_j2 fuel x0l x1o x1f x1t x1m y1 y3 y4 y5 (x1m != (0:Int))) (F124_j2 fuel x0l x1o x1f x1t x1m y1 y3 y4 y5 false))))))
def F124 (fuel:Nat) (x0l:List Lot) (x0h:List (List (List Part))) (x1k:Int) (x1o:Int) (x1f:Int) (x1t:Int) (x1m:Int):Option (Bool) :=
  ((F125 fuel ).bind fun r17=>(F124_j1 fuel x0l x1o x1f x1t x1m (hasK r17 x1k) ((lkK r17 x1k zrow).lot) ((lkK r17 x1k zrow).frm) ((lkK r17 x1k zrow).to) ((lkK r17 x1k zrow).mass) ((lkK r17 x1k zrow).fn)))
set_option maxRecDepth 100000 in
theorem f124_ok (fuel:Nat) (x0l:List Lot) (x0h:List (List (List Part))) (x1k:Int) (x1o:Int) (x1f:Int) (x1t:Int) (x1m:Int) (r:Bool) (hr:F124 fuel x0l x0h x1k x1o x1f x1t x1m=some r) (h:Zone) (L:List Atom) (w:World) (hS:St h L w) (o_x0l:Option Addr) (c_x0l:Nat) (hx_x0l:SliceR LotT h o_x0l c_x0l x0l) (V00 V01 V02 V03 V04 V05 V06 V07 V08:Value) (hx_x0h:(Ty.arr 9 (Ty.slice (Ty.slice PartT))).rep h [V00,V01,V02,V03,V04,V05,V06,V07,V08] x0h) :
    Calls Try.prog 124 #[.agg #[.slice o_x0l x0l.length c_x0l,V00,V01,V02,V03,V04,V05,V06,V07,V08], .agg #[vI x1k,vI x1o,vI x1f,vI x1t,vI x1m]] w fun e w'=>∃v,e= .returned v∧(∃h',Zone.le h h'∧v= .bool r∧St h' L w'):=by
 refine calls_intro (N:=121) Try.func124 (by kernel_rfl) fun a hf=>?_
 refine c_sr ?_
 refine c_box [.slice o_x0l x0l.length c_x0l,V00,V01,V02,V03,V04,V05,V06,V07,V08] 26 hS hf fun b1 ww1 a1 hS1 hf1=>⟨fun _=>trivial,?_⟩
 refine c_box [vI x1k,vI x1o,vI x1f,vI x1t,vI x1m] 28 hS1 hf1 fun b2 ww2 a2 hS2 hf2=>⟨fun _=>trivial,?_⟩
 refine c_t [] [2,3] hf2 .nil fun a3 hf3=>?_
 refine c_mid (fun a w=>∃z1:Zone,∃y7:Bool,∃y1:Bool,∃y3:Bool,∃y4:Bool,∃y5:Bool,∃y8:Option Nat,∃b3:Nat,Zone.le h z1∧Fr a 121 [(2,pB b1 0),(3,pB b2 0),(5,pB b3 0),(6, .bool y7)]∧St z1 (box b3 [.bool y1, .bool y3, .bool y4, .bool y5,fnV y8] 163::box b2 [vI x1k,vI x1o,vI x1f,vI x1t,vI x1m] 28::box b1 [.slice o_x0l x0l.length c_x0l,V00,V01,V02,V03,V04,V05,V06,V07,V08] 26::L) w∧(F124_j1 fuel x0l x1o x1f x1t x1m y7 y1 y3 y4 y5 y8)=some r) ?_ ?_
 ·skip
  have hS3:=hS2.drew
  have s1:=Sub.of zr hS3
  refine w_regB (by kernel_rfl) [3,8] (Sub h (box b2 [vI x1k,vI x1o,vI x1f,vI x1t,vI x1m] 28::box b1 [.slice o_x0l x0l.length c_x0l,V00,V01,V02,V03,V04,V05,V06,V07,V08] 26::L)) (by kernel_rfl) ?_
  refine k_seg' 8 [(1,true),(2,true)] (by kernel_rfl) (by kernel_rfl) (At.start s1) (by kernel_rfl) ?_
  refine c_S 2 [vI x1k] [2,3,10] s1 hf3 (fun _ s=>(.cell (s.box (i:=0) rfl (j:=0) rfl) .nil)) .nil fun a4 hf4=>?_
  refine c_done ?_
  intro hA1
  refine k_any' 7 [0,7] (by kernel_rfl) hA1 (by kernel_rfl) (by kernel_rfl) ?_
  refine (all_cons ?_ (all_cons ?_ all_nil))
  ·skip
   obtain ⟨r17,hd1,hr1⟩:=bind_some hr
   refine c_call hf4 (f125_ok fuel  r17 hd1 h _ _ hS3 ) ?_
   rintro v1 ww3 a5 ⟨z2,e1,k1,rfl,hS4,hx1⟩ hf5
   refine ⟨fun _=>Sub.of k1 hS4,?_⟩
   refine c_done ?_
   intro hA2
   have s2:=Sub.of k1 hS4
   refine k_seg' 7 [] (by kernel_rfl) (by kernel_rfl) hA2 (by kernel_rfl) ?_
   refine c_done ?_
   intro hA3
   refine k_any' 6 [3,7] (by kernel_rfl) hA3 (by kernel_rfl) (by kernel_rfl) ?_
   refine (all_cons ?_ (all_cons ?_ all_nil))
   ·skip
    refine p_lookup (i:=3) (d:=(some 11)) (t:=164) (o:=e1) (k:=x1k) (c:=true) (z:=zrow) (D:=r17) hf5 (by kernel_rfl) mp164 (MapR.look hx1 hS4) fun a6 hf6=>⟨fun e=>absurd e (by decide),?_⟩
    refine c_done ?_
    intro hA4
    refine k_seg' 0 [(4,true),(5,true),(6,true),(7,false),(8,false),(9,true)] (by kernel_rfl) (by kernel_rfl) hA4 (by kernel_rfl) ?_
    refine p_qP 3 [] [(2,pB b1 0),(3,pB b2 0),(12, .agg #[.bool ((lkK r17 x1k zrow).lot), .bool ((lkK r17 x1k zrow).frm), .bool ((lkK r17 x1k zrow).to), .bool ((lkK r17 x1k zrow).mass),fnV ((lkK r17 x1k zrow).fn)]),(13, .bool (hasK r17 x1k))] [] hf6 (by kernel_rfl) (fun _=> .nil) fun a7 hf7=>?_
    refine c_box [.bool false, .bool false, .bool false, .bool false,fnV none] 163 hS4 hf7 fun b4 ww4 a8 hS5 hf8=>⟨fun _=>Sub.of k1 (St.drop 1 hS5),?_⟩
    have s3:=Sub.of k1 (St.drop 1 hS5)
    refine p_store_eq (i:=8) (j:=0) (b:=b4) (off:=0) (vs:=[.bool ((lkK r17 x1k zrow).lot), .bool ((lkK r17 x1k zrow).frm), .bool ((lkK r17 x1k zrow).to), .bool ((lkK r17 x1k zrow).mass),fnV ((lkK r17 x1k zrow).fn)]) (cs':=[.bool ((lkK r17 x1k zrow).lot), .bool ((lkK r17 x1k zrow).frm), .bool ((lkK r17 x1k zrow).to), .bool ((lkK r17 x1k zrow).mass),fnV ((lkK r17 x1k zrow).fn)]) hS5 hf8 rfl (by kernel_rfl) (by generalize (lkK r17 x1k zrow).fn=q; cases q <;> kernel_rfl) rfl fun ww5 a9 hS6 hf9=>⟨fun e=>absurd e (by decide),?_⟩
    refine p_qP 1 [] [(2,pB b1 0),(3,pB b2 0),(5,pB b4 0),(6, .bool (hasK r17 x1k))] [] hf9 (by kernel_rfl) (fun _=> .nil) fun a10 hf10=>?_
    refine c_done ?_
    intro hA5
    refine k_done' (by kernel_rfl) (by kernel_rfl) ?_
    refine n_then ?_
    exact ⟨z2,(hasK r17 x1k),(lkK r17 x1k zrow).lot,(lkK r17 x1k zrow).frm,(lkK r17 x1k zrow).to,(lkK r17 x1k zrow).mass,(lkK r17 x1k zrow).fn,b4,k1,hf10.to,(St.pick 1 [0] hS6 (by kernel_rfl)),hr1⟩
   ·skip
    refine c_box [.bool false, .bool false, .bool false, .bool false,fnV none] 163 hS4 hf5 fun b5 ww6 a11 hS7 hf12=>⟨fun _=>Sub.of k1 (St.drop 1 hS7),?_⟩
    refine c_done ?_
    intro hA6
    have s4:=Sub.of k1 (St.drop 1 hS7)
    refine k_seg' 0 [(3,false),(4,true),(5,true),(6,true),(8,false),(9,true)] (by kernel_rfl) (by kernel_rfl) hA6 (by kernel_rfl) ?_
    refine p_lookup (i:=3) (d:=(some 11)) (t:=164) (o:=e1) (k:=x1k) (c:=true) (z:=zrow) (D:=r17) hf12 (by kernel_rfl) mp164 (MapR.look hx1 hS7) fun a12 hf13=>⟨fun e=>absurd e (by decide),?_⟩
    refine p_qP 3 [] [(2,pB b1 0),(3,pB b2 0),(5,pB b5 0),(12, .agg #[.bool ((lkK r17 x1k zrow).lot), .bool ((lkK r17 x1k zrow).frm), .bool ((lkK r17 x1k zrow).to), .bool ((lkK r17 x1k zrow).mass),fnV ((lkK r17 x1k zrow).fn)]),(13, .bool (hasK r17 x1k))] [] hf13 (by kernel_rfl) (fun _=> .nil) fun a13 hf14=>?_
    refine p_store_eq (i:=8) (j:=0) (b:=b5) (off:=0) (vs:=[.bool ((lkK r17 x1k zrow).lot), .bool ((lkK r17 x1k zrow).frm), .bool ((lkK r17 x1k zrow).to), .bool ((lkK r17 x1k zrow).mass),fnV ((lkK r17 x1k zrow).fn)]) (cs':=[.bool ((lkK r17 x1k zrow).lot), .bool ((lkK r17 x1k zrow).frm), .bool ((lkK r17 x1k zrow).to), .bool ((lkK r17 x1k zrow).mass),fnV ((lkK r17 x1k zrow).fn)]) hS7 hf14 rfl (by kernel_rfl) (by generalize (lkK r17 x1k zrow).fn=q; cases q <;> kernel_rfl) rfl fun ww7 a14 hS8 hf15=>⟨fun e=>absurd e (by decide),?_⟩
    refine p_qP 1 [] [(2,pB b1 0),(3,pB b2 0),(5,pB b5 0),(6, .bool (hasK r17 x1k))] [] hf15 (by kernel_rfl) (fun _=> .nil) fun a15 hf16=>?_
    refine c_done ?_
    intro hA7
    refine k_done' (by kernel_rfl) (by kernel_rfl) ?_
    refine n_then ?_
    exact ⟨z2,(hasK r17 x1k),(lkK r17 x1k zrow).lot,(lkK r17 x1k zrow).frm,(lkK r17 x1k zrow).to,(lkK r17 x1k zrow).mass,(lkK r17 x1k zrow).fn,b5,k1,hf16.to,(St.pick 1 [0] hS8 (by kernel_rfl)),hr1⟩
  ·skip
   refine c_box [.bool false, .bool false, .bool false, .bool false,fnV none] 163 hS3 hf4 fun b6 ww8 a16 hS9 hf18=>⟨fun _=>Sub.of zr (St.drop 1 hS9),?_⟩
   refine c_done ?_
   intro hA8
   have s5:=Sub.of zr (St.drop 1 hS9)
   refine k_seg' 0 [(0,false),(3,false),(4,true),(5,true),(6,true),(8,false),(9,true)] (by kernel_rfl) (by kernel_rfl) hA8 (by kernel_rfl) ?_
   obtain ⟨r18,hd2,hr2⟩:=bind_some hr
   refine c_call hf18 (f125_ok fuel  r18 hd2 h _ _ hS9 ) ?_
   rintro v2 ww9 a17 ⟨z3,e2,k2,rfl,hS10,hx2⟩ hf19
   refine ⟨fun _=>Sub.of k2 (St.drop 1 hS10),?_⟩
   have s6:=Sub.of k2 (St.drop 1 hS10)
   refine p_lookup (i:=3) (d:=(some 11)) (t:=164) (o:=e2) (k:=x1k) (c:=true) (z:=zrow) (D:=r18) hf19 (by kernel_rfl) mp164 (MapR.look hx2 hS10) fun a18 hf20=>⟨fun e=>absurd e (by decide),?_⟩
   refine p_qP 3 [] [(2,pB b1 0),(3,pB b2 0),(5,pB b6 0),(12, .agg #[.bool ((lkK r18 x1k zrow).lot), .bool ((lkK r18 x1k zrow).frm), .bool ((lkK r18 x1k zrow).to), .bool ((lkK r18 x1k zrow).mass),fnV ((lkK r18 x1k zrow).fn)]),(13, .bool (hasK r18 x1k))] [] hf20 (by kernel_rfl) (fun _=> .nil) fun a19 hf21=>?_
   refine p_store_eq (i:=8) (j:=0) (b:=b6) (off:=0) (vs:=[.bool ((lkK r18 x1k zrow).lot), .bool ((lkK r18 x1k zrow).frm), .bool ((lkK r18 x1k zrow).to), .bool ((lkK r18 x1k zrow).mass),fnV ((lkK r18 x1k zrow).fn)]) (cs':=[.bool ((lkK r18 x1k zrow).lot), .bool ((lkK r18 x1k zrow).frm), .bool ((lkK r18 x1k zrow).to), .bool ((lkK r18 x1k zrow).mass),fnV ((lkK r18 x1k zrow).fn)]) hS10 hf21 rfl (by kernel_rfl) (by generalize (lkK r18 x1k zrow).fn=q; cases q <;> kernel_rfl) rfl fun ww10 a20 hS11 hf22=>⟨fun e=>absurd e (by decide),?_⟩
   refine p_qP 1 [] [(2,pB b1 0),(3,pB b2 0),(5,pB b6 0),(6, .bool (hasK r18 x1k))] [] hf22 (by kernel_rfl) (fun _=> .nil) fun a21 hf23=>?_
   refine c_done ?_
   intro hA9
   refine k_done' (by kernel_rfl) (by kernel_rfl) ?_
   refine n_then ?_
   exact ⟨z3,(hasK r18 x1k),(lkK r18 x1k zrow).lot,(lkK r18 x1k zrow).frm,(lkK r18 x1k zrow).to,(lkK r18 x1k zrow).mass,(lkK r18 x1k zrow).fn,b6,k2,hf23.to,(St.pick 1 [0] hS11 (by kernel_rfl)),hr2⟩
 ·rintro a22 ww11 ⟨z1,y7,y1,y3,y4,y5,y8,b3,k3,hf25,hS12,hr3⟩
  refine c_seq ?_
  refine c_mid (fun a w=>∃z4:Zone,∃y6:Bool,Zone.le z1 z4∧Fr a 121 [(2,pB b1 0),(3,pB b2 0),(5,pB b3 0),(59, .bool y6)]∧St z4 (box b3 [.bool y1, .bool y3, .bool y4, .bool y5,fnV y8] 163::box b2 [vI x1k,vI x1o,vI x1f,vI x1t,vI x1m] 28::box b1 [.slice o_x0l x0l.length c_x0l,V00,V01,V02,V03,V04,V05,V06,V07,V08] 26::L) w∧(F124_j2 fuel x0l x1o x1f x1t x1m y1 y3 y4 y5 y6)=some r) ?_ ?_
  ·skip
   refine c_reg ?_
   refine c_n 3 [] [2,3,5,16] hf25 .nil fun a23 hf26=>?_
   rcases bft (!y7) with hb1 | hb1
   ·have hr4:=cond_t hb1 hr3
    have hf27:=hf26.lit 16 hb1
    refine c_t [] [2,3,5,59] hf27 .nil fun a24 hf28=>?_
    exact ⟨z1,true,zr,hf28.to,hS12,hr4⟩
   ·have hr5:=cond_f hb1 hr3
    have hf30:=hf26.lit 16 hb1
    refine c_n 5 [.bool y1] [2,3,5,16,21] hf30 (.cell (hS12.box (i:=0) rfl (j:=0) rfl) .nil) fun a25 hf31=>?_
    rcases bft (!y1) with hb2 | hb2
    ·have hr6:=cond_t hb2 hr5
     have hf32:=hf31.lit 21 hb2
     refine c_n 6 [vI x1o] [2,3,5,27] hf32 (.cell (hS12.box (i:=1) rfl (j:=1) rfl) .nil) fun a26 hf33=>?_
     rcases bft (x1o != (0:Int)) with hb3 | hb3
     ·have hr7:=cond_t hb3 hr6
      have hf34:=hf33.lit 27 hb3
      refine c_t [] [2,3,5,59] hf34 .nil fun a27 hf35=>?_
      exact ⟨z1,true,zr,hf35.to,hS12,hr7⟩
     ·have hr8:=cond_f hb3 hr6
      have hf37:=hf33.lit 27 hb3
      refine c_n 5 [.bool y3] [2,3,5,27,32] hf37 (.cell (hS12.box (i:=0) rfl (j:=1) rfl) .nil) fun a28 hf38=>?_
      rcases bft (!y3) with hb4 | hb4
      ·have hr9:=cond_t hb4 hr8
       have hf39:=hf38.lit 32 hb4
       refine c_n 6 [vI x1f] [2,3,5,38] hf39 (.cell (hS12.box (i:=1) rfl (j:=2) rfl) .nil) fun a29 hf40=>?_
       rcases bft (x1f != (0:Int)) with hb5 | hb5
       ·have hr10:=cond_t hb5 hr9
        have hf41:=hf40.lit 38 hb5
        refine c_t [] [2,3,5,59] hf41 .nil fun a30 hf42=>?_
        exact ⟨z1,true,zr,hf42.to,hS12,hr10⟩
       ·have hr11:=cond_f hb5 hr9
        have hf44:=hf40.lit 38 hb5
        refine c_n 5 [.bool y4] [2,3,5,38,43] hf44 (.cell (hS12.box (i:=0) rfl (j:=2) rfl) .nil) fun a31 hf45=>?_
        rcases bft (!y4) with hb6 | hb6
        ·have hr12:=cond_t hb6 hr11
         have hf46:=hf45.lit 43 hb6
         refine c_n 6 [vI x1t] [2,3,5,49] hf46 (.cell (hS12.box (i:=1) rfl (j:=3) rfl) .nil) fun a32 hf47=>?_
         rcases bft (x1t != (0:Int)) with hb7 | hb7
         ·have hr13:=cond_t hb7 hr12
          have hf48:=hf47.lit 49 hb7
          refine c_t [] [2,3,5,59] hf48 .nil fun a33 hf49=>?_
          exact ⟨z1,true,zr,hf49.to,hS12,hr13⟩
         ·have hr14:=cond_f hb7 hr12
          have hf51:=hf47.lit 49 hb7
          refine c_n 5 [.bool y5] [2,3,5,49,54] hf51 (.cell (hS12.box (i:=0) rfl (j:=3) rfl) .nil) fun a34 hf52=>?_
          rcases bft (!y5) with hb8 | hb8
          ·have hr15:=cond_t hb8 hr14
           have hf53:=hf52.lit 54 hb8
           refine c_t [vI x1m] [2,3,5,59] hf53 (.cell (hS12.box (i:=1) rfl (j:=4) rfl) .nil) fun a35 hf54=>?_
           exact ⟨z1,(x1m != (0:Int)),zr,hf54.to,hS12,hr15⟩
          ·have hr16:=cond_f hb8 hr14
           have hf56:=hf52.lit 54 hb8
           refine c_t [] [2,3,5,59] hf56 .nil fun a36 hf57=>?_
           exact ⟨z1,false,zr,hf57.to,hS12,hr16⟩
        ·have hr17:=cond_f hb6 hr11
         have hf59:=hf45.lit 43 hb6
         refine c_n 11 [.bool y5] [2,3,5,49,54] hf59 (.cell (hS12.box (i:=0) rfl (j:=3) rfl) .nil) fun a37 hf60=>?_
         rcases bft (!y5) with hb9 | hb9
         ·have hr18:=cond_t hb9 hr17
          have hf61:=hf60.lit 54 hb9
          refine c_t [vI x1m] [2,3,5,59] hf61 (.cell (hS12.box (i:=1) rfl (j:=4) rfl) .nil) fun a38 hf62=>?_
          exact ⟨z1,(x1m != (0:Int)),zr,hf62.to,hS12,hr18⟩
         ·have hr19:=cond_f hb9 hr17
          have hf64:=hf60.lit 54 hb9
          refine c_t [] [2,3,5,59] hf64 .nil fun a39 hf65=>?_
          exact ⟨z1,false,zr,hf65.to,hS12,hr19⟩
      ·have hr20:=cond_f hb4 hr8
       have hf67:=hf38.lit 32 hb4
       refine c_n 11 [.bool y4] [2,3,5,38,43] hf67 (.cell (hS12.box (i:=0) rfl (j:=2) rfl) .nil) fun a40 hf68=>?_
       rcases bft (!y4) with hb10 | hb10
       ·have hr21:=cond_t hb10 hr20
        have hf69:=hf68.lit 43 hb10
        refine c_n 6 [vI x1t] [2,3,5,49] hf69 (.cell (hS12.box (i:=1) rfl (j:=3) rfl) .nil) fun a41 hf70=>?_
        rcases bft (x1t != (0:Int)) with hb11 | hb11
        ·have hr22:=cond_t hb11 hr21
         have hf71:=hf70.lit 49 hb11
         refine c_t [] [2,3,5,59] hf71 .nil fun a42 hf72=>?_
         exact ⟨z1,true,zr,hf72.to,hS12,hr22⟩
        ·have hr23:=cond_f hb11 hr21
         have hf74:=hf70.lit 49 hb11
         refine c_n 5 [.bool y5] [2,3,5,49,54] hf74 (.cell (hS12.box (i:=0) rfl (j:=3) rfl) .nil) fun a43 hf75=>?_
         rcases bft (!y5) with hb12 | hb12
         ·have hr24:=cond_t hb12 hr23
          have hf76:=hf75.lit 54 hb12
          refine c_t [vI x1m] [2,3,5,59] hf76 (.cell (hS12.box (i:=1) rfl (j:=4) rfl) .nil) fun a44 hf77=>?_
          exact ⟨z1,(x1m != (0:Int)),zr,hf77.to,hS12,hr24⟩
         ·have hr25:=cond_f hb12 hr23
          have hf79:=hf75.lit 54 hb12
          refine c_t [] [2,3,5,59] hf79 .nil fun a45 hf80=>?_
          exact ⟨z1,false,zr,hf80.to,hS12,hr25⟩
       ·have hr26:=cond_f hb10 hr20
        have hf82:=hf68.lit 43 hb10
        refine c_n 11 [.bool y5] [2,3,5,49,54] hf82 (.cell (hS12.box (i:=0) rfl (j:=3) rfl) .nil) fun a46 hf83=>?_
        rcases bft (!y5) with hb13 | hb13
        ·have hr27:=cond_t hb13 hr26
         have hf84:=hf83.lit 54 hb13
         refine c_t [vI x1m] [2,3,5,59] hf84 (.cell (hS12.box (i:=1) rfl (j:=4) rfl) .nil) fun a47 hf85=>?_
         exact ⟨z1,(x1m != (0:Int)),zr,hf85.to,hS12,hr27⟩
        ·have hr28:=cond_f hb13 hr26
         have hf87:=hf83.lit 54 hb13
         refine c_t [] [2,3,5,59] hf87 .nil fun a48 hf88=>?_
         exact ⟨z1,false,zr,hf88.to,hS12,hr28⟩
    ·have hr29:=cond_f hb2 hr5
     have hf90:=hf31.lit 21 hb2
     refine c_n 11 [.bool y3] [2,3,5,27,32] hf90 (.cell (hS12.box (i:=0) rfl (j:=1) rfl) .nil) fun a49 hf91=>?_
     rcases bft (!y3) with hb14 | hb14
     ·have hr30:=cond_t hb14 hr29
      have hf92:=hf91.lit 32 hb14
      refine c_n 6 [vI x1f] [2,3,5,38] hf92 (.cell (hS12.box (i:=1) rfl (j:=2) rfl) .nil) fun a50 hf93=>?_
      rcases bft (x1f != (0:Int)) with hb15 | hb15
      ·have hr31:=cond_t hb15 hr30
       have hf94:=hf93.lit 38 hb15
       refine c_t [] [2,3,5,59] hf94 .nil fun a51 hf95=>?_
       exact ⟨z1,true,zr,hf95.to,hS12,hr31⟩
      ·have hr32:=cond_f hb15 hr30
       have hf97:=hf93.lit 38 hb15
       refine c_n 5 [.bool y4] [2,3,5,38,43] hf97 (.cell (hS12.box (i:=0) rfl (j:=2) rfl) .nil) fun a52 hf98=>?_
       rcases bft (!y4) with hb16 | hb16
       ·have hr33:=cond_t hb16 hr32
        have hf99:=hf98.lit 43 hb16
        refine c_n 6 [vI x1t] [2,3,5,49] hf99 (.cell (hS12.box (i:=1) rfl (j:=3) rfl) .nil) fun a53 hf100=>?_
        rcases bft (x1t != (0:Int)) with hb17 | hb17
        ·have hr34:=cond_t hb17 hr33
         have hf101:=hf100.lit 49 hb17
         refine c_t [] [2,3,5,59] hf101 .nil fun a54 hf102=>?_
         exact ⟨z1,true,zr,hf102.to,hS12,hr34⟩
        ·have hr35:=cond_f hb17 hr33
         have hf104:=hf100.lit 49 hb17
         refine c_n 5 [.bool y5] [2,3,5,49,54] hf104 (.cell (hS12.box (i:=0) rfl (j:=3) rfl) .nil) fun a55 hf105=>?_
         rcases bft (!y5) with hb18 | hb18
         ·have hr36:=cond_t hb18 hr35
          have hf106:=hf105.lit 54 hb18
          refine c_t [vI x1m] [2,3,5,59] hf106 (.cell (hS12.box (i:=1) rfl (j:=4) rfl) .nil) fun a56 hf107=>?_
          exact ⟨z1,(x1m != (0:Int)),zr,hf107.to,hS12,hr36⟩
         ·have hr37:=cond_f hb18 hr35
          have hf109:=hf105.lit 54 hb18
          refine c_t [] [2,3,5,59] hf109 .nil fun a57 hf110=>?_
          exact ⟨z1,false,zr,hf110.to,hS12,hr37⟩
       ·have hr38:=cond_f hb16 hr32
        have hf112:=hf98.lit 43 hb16
        refine c_n 11 [.bool y5] [2,3,5,49,54] hf112 (.cell (hS12.box (i:=0) rfl (j:=3) rfl) .nil) fun a58 hf113=>?_
        rcases bft (!y5) with hb19 | hb19
        ·have hr39:=cond_t hb19 hr38
         have hf114:=hf113.lit 54 hb19
         refine c_t [vI x1m] [2,3,5,59] hf114 (.cell (hS12.box (i:=1) rfl (j:=4) rfl) .nil) fun a59 hf115=>?_
         exact ⟨z1,(x1m != (0:Int)),zr,hf115.to,hS12,hr39⟩
        ·have hr40:=cond_f hb19 hr38
         have hf117:=hf113.lit 54 hb19
         refine c_t [] [2,3,5,59] hf117 .nil fun a60 hf118=>?_
         exact ⟨z1,false,zr,hf118.to,hS12,hr40⟩
     ·have hr41:=cond_f hb14 hr29
      have hf120:=hf91.lit 32 hb14
      refine c_n 11 [.bool y4] [2,3,5,38,43] hf120 (.cell (hS12.box (i:=0) rfl (j:=2) rfl) .nil) fun a61 hf121=>?_
      rcases bft (!y4) with hb20 | hb20
      ·have hr42:=cond_t hb20 hr41
       have hf122:=hf121.lit 43 hb20
       refine c_n 6 [vI x1t] [2,3,5,49] hf122 (.cell (hS12.box (i:=1) rfl (j:=3) rfl) .nil) fun a62 hf123=>?_
       rcases bft (x1t != (0:Int)) with hb21 | hb21
       ·have hr43:=cond_t hb21 hr42
        have hf124:=hf123.lit 49 hb21
        refine c_t [] [2,3,5,59] hf124 .nil fun a63 hf125=>?_
        exact ⟨z1,true,zr,hf125.to,hS12,hr43⟩
       ·have hr44:=cond_f hb21 hr42
        have hf127:=hf123.lit 49 hb21
        refine c_n 5 [.bool y5] [2,3,5,49,54] hf127 (.cell (hS12.box (i:=0) rfl (j:=3) rfl) .nil) fun a64 hf128=>?_
        rcases bft (!y5) with hb22 | hb22
        ·have hr45:=cond_t hb22 hr44
         have hf129:=hf128.lit 54 hb22
         refine c_t [vI x1m] [2,3,5,59] hf129 (.cell (hS12.box (i:=1) rfl (j:=4) rfl) .nil) fun a65 hf130=>?_
         exact ⟨z1,(x1m != (0:Int)),zr,hf130.to,hS12,hr45⟩
        ·have hr46:=cond_f hb22 hr44
         have hf132:=hf128.lit 54 hb22
         refine c_t [] [2,3,5,59] hf132 .nil fun a66 hf133=>?_
         exact ⟨z1,false,zr,hf133.to,hS12,hr46⟩
      ·have hr47:=cond_f hb20 hr41
       have hf135:=hf121.lit 43 hb20
       refine c_n 11 [.bool y5] [2,3,5,49,54] hf135 (.cell (hS12.box (i:=0) rfl (j:=3) rfl) .nil) fun a67 hf136=>?_
       rcases bft (!y5) with hb23 | hb23
       ·have hr48:=cond_t hb23 hr47
        have hf137:=hf136.lit 54 hb23
        refine c_t [vI x1m] [2,3,5,59] hf137 (.cell (hS12.box (i:=1) rfl (j:=4) rfl) .nil) fun a68 hf138=>?_
        exact ⟨z1,(x1m != (0:Int)),zr,hf138.to,hS12,hr48⟩
       ·have hr49:=cond_f hb23 hr47
        have hf140:=hf136.lit 54 hb23
        refine c_t [] [2,3,5,59] hf140 .nil fun a69 hf141=>?_
        exact ⟨z1,false,zr,hf141.to,hS12,hr49⟩
  ·rintro a70 ww12 ⟨z4,y6,k4,hf143,hS13,hr50⟩
   refine c_if y6 hf143 (fun hb24=>?_) (fun hb24=>?_)
   ·have hr51:=cond_t hb24 hr50
    refine c_sq [] [4] hf143 .nil fun a71 hf144=>?_
    refine c_ret ?_
    refine r_then ?_
    refine c_rt [] (.bool false) hf144 .nil ?_
    obtain rfl:=some_eq hr51
    exact ⟨_,rfl,z4,(zt k3 k4),rfl,(St.drop 3 hS13)⟩
   ·have hr52:=cond_f hb24 hr50
    refine c_skip ?_
    refine n_then ?_
    refine c_seq ?_
    refine c_mid (fun a w=>∃z5:Zone,∃y2:Bool,Zone.le z4 z5∧Fr a 121 [(2,pB b1 0),(3,pB b2 0),(5,pB b3 0),(107, .bool y2)]∧St z5 (box b3 [.bool y1, .bool y3, .bool y4, .bool y5,fnV y8] 163::box b2 [vI x1k,vI x1o,vI x1f,vI x1t,vI x1m] 28::box b1 [.slice o_x0l x0l.length c_x0l,V00,V01,V02,V03,V04,V05,V06,V07,V08] 26::L) w∧(F124_j3 fuel x0l x1o y1 y2)=some r) ?_ ?_
    ·skip
     refine c_reg ?_
     refine c_n 4 [.bool y3] [2,3,5,63] hf143 (.cell (hS13.box (i:=0) rfl (j:=1) rfl) .nil) fun a72 hf145=>?_
     rcases bft y3 with hb25 | hb25
     ·have hr53:=cond_t hb25 hr52
      have hf146:=hf145.lit 63 hb25
      refine c_n 2 [vI x1f] [2,3,5,63,65] hf146 (.cell (hS13.box (i:=1) rfl (j:=2) rfl) .nil) fun a73 hf147=>?_
      obtain ⟨r2,hd3,hr54⟩:=bind_some hr53
      refine c_call hf147 (f130_ok fuel x1f r2 hd3 z4 _ _ hS13 ) ?_
      rintro v3 ww13 a74 ⟨z6,k5,rfl,hS14⟩ hf148
      refine ⟨fun _=>trivial,?_⟩
      refine c_n 3 [] [2,3,5,69] hf148 .nil fun a75 hf149=>?_
      rcases bft (!r2) with hb26 | hb26
      ·have hr55:=cond_t hb26 hr54
       have hf150:=hf149.lit 69 hb26
       refine c_t [] [2,3,5,107] hf150 .nil fun a76 hf151=>?_
       exact ⟨z6,true,k5,hf151.to,hS14,hr55⟩
      ·have hr56:=cond_f hb26 hr54
       have hf153:=hf149.lit 69 hb26
       refine c_n 4 [.bool y4] [2,3,5,69,73] hf153 (.cell (hS14.box (i:=0) rfl (j:=2) rfl) .nil) fun a77 hf154=>?_
       rcases bft y4 with hb27 | hb27
       ·have hr57:=cond_t hb27 hr56
        have hf155:=hf154.lit 73 hb27
        refine c_n 2 [vI x1t] [2,3,5,69,73,75] hf155 (.cell (hS14.box (i:=1) rfl (j:=3) rfl) .nil) fun a78 hf156=>?_
        obtain ⟨r3,hd4,hr58⟩:=bind_some hr57
        refine c_call hf156 (f130_ok fuel x1t r3 hd4 z6 _ _ hS14 ) ?_
        rintro v4 ww14 a79 ⟨z7,k6,rfl,hS15⟩ hf157
        refine ⟨fun _=>trivial,?_⟩
        refine c_n 4 [] [2,3,5,80] hf157 .nil fun a80 hf158=>?_
        rcases bft (!r3) with hb28 | hb28
        ·have hr59:=cond_t hb28 hr58
         have hf159:=hf158.lit 80 hb28
         refine c_t [] [2,3,5,107] hf159 .nil fun a81 hf160=>?_
         exact ⟨z7,true,(zt k5 k6),hf160.to,hS15,hr59⟩
        ·have hr60:=cond_f hb28 hr58
         have hf162:=hf158.lit 80 hb28
         refine c_n 4 [.bool y3] [2,3,5,80,84] hf162 (.cell (hS15.box (i:=0) rfl (j:=1) rfl) .nil) fun a82 hf163=>?_
         rcases bft y3 with hb29 | hb29
         ·have hr61:=cond_t hb29 hr60
          have hf164:=hf163.lit 84 hb29
          refine c_n 5 [.bool y4] [2,3,5,80,89] hf164 (.cell (hS15.box (i:=0) rfl (j:=2) rfl) .nil) fun a83 hf165=>?_
          rcases bft y4 with hb30 | hb30
          ·have hr62:=cond_t hb30 hr61
           have hf166:=hf165.lit 89 hb30
           refine c_n 8 [vI x1f,vI x1t] [2,3,5,97] hf166 (.cell (hS15.box (i:=1) rfl (j:=2) rfl) (.cell (hS15.box (i:=1) rfl (j:=3) rfl) .nil)) fun a84 hf167=>?_
           rcases bft (x1f == x1t) with hb31 | hb31
           ·have hr63:=cond_t hb31 hr62
            have hf168:=hf167.lit 97 hb31
            refine c_t [] [2,3,5,107] hf168 .nil fun a85 hf169=>?_
            exact ⟨z7,true,(zt k5 k6),hf169.to,hS15,hr63⟩
           ·have hr64:=cond_f hb31 hr62
            have hf171:=hf167.lit 97 hb31
            refine c_n 4 [.bool y5] [2,3,5,97,101] hf171 (.cell (hS15.box (i:=0) rfl (j:=3) rfl) .nil) fun a86 hf172=>?_
            rcases bft y5 with hb32 | hb32
            ·have hr65:=cond_t hb32 hr64
             have hf173:=hf172.lit 101 hb32
             refine c_n 2 [vI x1m] [2,3,5,97,101,103] hf173 (.cell (hS15.box (i:=1) rfl (j:=4) rfl) .nil) fun a87 hf174=>?_
             obtain ⟨r4,hd5,hr66⟩:=bind_some hr65
             refine c_call hf174 (f71_ok fuel x1m 1 100000000 r4 hd5 z7 _ _ hS15 ) ?_
             rintro v5 ww15 a88 ⟨z8,k7,rfl,hS16⟩ hf175
             refine ⟨fun _=>trivial,?_⟩
             refine c_t [] [2,3,5,107] hf175 .nil fun a89 hf176=>?_
             exact ⟨z8,(!r4),(zt (zt k5 k6) k7),hf176.to,hS16,hr66⟩
            ·have hr67:=cond_f hb32 hr64
             have hf178:=hf172.lit 101 hb32
             refine c_t [] [2,3,5,107] hf178 .nil fun a90 hf179=>?_
             exact ⟨z7,false,(zt k5 k6),hf179.to,hS15,hr67⟩
          ·have hr68:=cond_f hb30 hr61
           have hf181:=hf165.lit 89 hb30
           refine c_n 12 [.bool y5] [2,3,5,97,101] hf181 (.cell (hS15.box (i:=0) rfl (j:=3) rfl) .nil) fun a91 hf182=>?_
           rcases bft y5 with hb33 | hb33
           ·have hr69:=cond_t hb33 hr68
            have hf183:=hf182.lit 101 hb33
            refine c_n 2 [vI x1m] [2,3,5,97,101,103] hf183 (.cell (hS15.box (i:=1) rfl (j:=4) rfl) .nil) fun a92 hf184=>?_
            obtain ⟨r5,hd6,hr70⟩:=bind_some hr69
            refine c_call hf184 (f71_ok fuel x1m 1 100000000 r5 hd6 z7 _ _ hS15 ) ?_
            rintro v6 ww16 a93 ⟨z9,k8,rfl,hS17⟩ hf185
            refine ⟨fun _=>trivial,?_⟩
            refine c_t [] [2,3,5,107] hf185 .nil fun a94 hf186=>?_
            exact ⟨z9,(!r5),(zt (zt k5 k6) k8),hf186.to,hS17,hr70⟩
           ·have hr71:=cond_f hb33 hr68
            have hf188:=hf182.lit 101 hb33
            refine c_t [] [2,3,5,107] hf188 .nil fun a95 hf189=>?_
            exact ⟨z7,false,(zt k5 k6),hf189.to,hS15,hr71⟩
         ·have hr72:=cond_f hb29 hr60
          have hf191:=hf163.lit 84 hb29
          refine c_n 17 [.bool y5] [2,3,5,97,101] hf191 (.cell (hS15.box (i:=0) rfl (j:=3) rfl) .nil) fun a96 hf192=>?_
          rcases bft y5 with hb34 | hb34
          ·have hr73:=cond_t hb34 hr72
           have hf193:=hf192.lit 101 hb34
           refine c_n 2 [vI x1m] [2,3,5,97,101,103] hf193 (.cell (hS15.box (i:=1) rfl (j:=4) rfl) .nil) fun a97 hf194=>?_
           obtain ⟨r6,hd7,hr74⟩:=bind_some hr73
           refine c_call hf194 (f71_ok fuel x1m 1 100000000 r6 hd7 z7 _ _ hS15 ) ?_
           rintro v7 ww17 a98 ⟨z10,k9,rfl,hS18⟩ hf195
           refine ⟨fun _=>trivial,?_⟩
           refine c_t [] [2,3,5,107] hf195 .nil fun a99 hf196=>?_
           exact ⟨z10,(!r6),(zt (zt k5 k6) k9),hf196.to,hS18,hr74⟩
          ·have hr75:=cond_f hb34 hr72
           have hf198:=hf192.lit 101 hb34
           refine c_t [] [2,3,5,107] hf198 .nil fun a100 hf199=>?_
           exact ⟨z7,false,(zt k5 k6),hf199.to,hS15,hr75⟩
       ·have hr76:=cond_f hb27 hr56
        have hf201:=hf154.lit 73 hb27
        refine c_n 11 [.bool y3] [2,3,5,80,84] hf201 (.cell (hS14.box (i:=0) rfl (j:=1) rfl) .nil) fun a101 hf202=>?_
        rcases bft y3 with hb35 | hb35
        ·have hr77:=cond_t hb35 hr76
         have hf203:=hf202.lit 84 hb35
         refine c_n 5 [.bool y4] [2,3,5,80,89] hf203 (.cell (hS14.box (i:=0) rfl (j:=2) rfl) .nil) fun a102 hf204=>?_
         rcases bft y4 with hb36 | hb36
         ·have hr78:=cond_t hb36 hr77
          have hf205:=hf204.lit 89 hb36
          refine c_n 8 [vI x1f,vI x1t] [2,3,5,97] hf205 (.cell (hS14.box (i:=1) rfl (j:=2) rfl) (.cell (hS14.box (i:=1) rfl (j:=3) rfl) .nil)) fun a103 hf206=>?_
          rcases bft (x1f == x1t) with hb37 | hb37
          ·have hr79:=cond_t hb37 hr78
           have hf207:=hf206.lit 97 hb37
           refine c_t [] [2,3,5,107] hf207 .nil fun a104 hf208=>?_
           exact ⟨z6,true,k5,hf208.to,hS14,hr79⟩
          ·have hr80:=cond_f hb37 hr78
           have hf210:=hf206.lit 97 hb37
           refine c_n 4 [.bool y5] [2,3,5,97,101] hf210 (.cell (hS14.box (i:=0) rfl (j:=3) rfl) .nil) fun a105 hf211=>?_
           rcases bft y5 with hb38 | hb38
           ·have hr81:=cond_t hb38 hr80
            have hf212:=hf211.lit 101 hb38
            refine c_n 2 [vI x1m] [2,3,5,97,101,103] hf212 (.cell (hS14.box (i:=1) rfl (j:=4) rfl) .nil) fun a106 hf213=>?_
            obtain ⟨r7,hd8,hr82⟩:=bind_some hr81
            refine c_call hf213 (f71_ok fuel x1m 1 100000000 r7 hd8 z6 _ _ hS14 ) ?_
            rintro v8 ww18 a107 ⟨z11,k10,rfl,hS19⟩ hf214
            refine ⟨fun _=>trivial,?_⟩
            refine c_t [] [2,3,5,107] hf214 .nil fun a108 hf215=>?_
            exact ⟨z11,(!r7),(zt k5 k10),hf215.to,hS19,hr82⟩
           ·have hr83:=cond_f hb38 hr80
            have hf217:=hf211.lit 101 hb38
            refine c_t [] [2,3,5,107] hf217 .nil fun a109 hf218=>?_
            exact ⟨z6,false,k5,hf218.to,hS14,hr83⟩
         ·have hr84:=cond_f hb36 hr77
          have hf220:=hf204.lit 89 hb36
          refine c_n 12 [.bool y5] [2,3,5,97,101] hf220 (.cell (hS14.box (i:=0) rfl (j:=3) rfl) .nil) fun a110 hf221=>?_
          rcases bft y5 with hb39 | hb39
          ·have hr85:=cond_t hb39 hr84
           have hf222:=hf221.lit 101 hb39
           refine c_n 2 [vI x1m] [2,3,5,97,101,103] hf222 (.cell (hS14.box (i:=1) rfl (j:=4) rfl) .nil) fun a111 hf223=>?_
           obtain ⟨r8,hd9,hr86⟩:=bind_some hr85
           refine c_call hf223 (f71_ok fuel x1m 1 100000000 r8 hd9 z6 _ _ hS14 ) ?_
           rintro v9 ww19 a112 ⟨z12,k11,rfl,hS20⟩ hf224
           refine ⟨fun _=>trivial,?_⟩
           refine c_t [] [2,3,5,107] hf224 .nil fun a113 hf225=>?_
           exact ⟨z12,(!r8),(zt k5 k11),hf225.to,hS20,hr86⟩
          ·have hr87:=cond_f hb39 hr84
           have hf227:=hf221.lit 101 hb39
           refine c_t [] [2,3,5,107] hf227 .nil fun a114 hf228=>?_
           exact ⟨z6,false,k5,hf228.to,hS14,hr87⟩
        ·have hr88:=cond_f hb35 hr76
         have hf230:=hf202.lit 84 hb35
         refine c_n 17 [.bool y5] [2,3,5,97,101] hf230 (.cell (hS14.box (i:=0) rfl (j:=3) rfl) .nil) fun a115 hf231=>?_
         rcases bft y5 with hb40 | hb40
         ·have hr89:=cond_t hb40 hr88
          have hf232:=hf231.lit 101 hb40
          refine c_n 2 [vI x1m] [2,3,5,97,101,103] hf232 (.cell (hS14.box (i:=1) rfl (j:=4) rfl) .nil) fun a116 hf233=>?_
          obtain ⟨r9,hd10,hr90⟩:=bind_some hr89
          refine c_call hf233 (f71_ok fuel x1m 1 100000000 r9 hd10 z6 _ _ hS14 ) ?_
          rintro v10 ww20 a117 ⟨z13,k12,rfl,hS21⟩ hf234
          refine ⟨fun _=>trivial,?_⟩
          refine c_t [] [2,3,5,107] hf234 .nil fun a118 hf235=>?_
          exact ⟨z13,(!r9),(zt k5 k12),hf235.to,hS21,hr90⟩
         ·have hr91:=cond_f hb40 hr88
          have hf237:=hf231.lit 101 hb40
          refine c_t [] [2,3,5,107] hf237 .nil fun a119 hf238=>?_
          exact ⟨z6,false,k5,hf238.to,hS14,hr91⟩
     ·have hr92:=cond_f hb25 hr52
      have hf240:=hf145.lit 63 hb25
      refine c_n 10 [.bool y4] [2,3,5,69,73] hf240 (.cell (hS13.box (i:=0) rfl (j:=2) rfl) .nil) fun a120 hf241=>?_
      rcases bft y4 with hb41 | hb41
      ·have hr93:=cond_t hb41 hr92
       have hf242:=hf241.lit 73 hb41
       refine c_n 2 [vI x1t] [2,3,5,69,73,75] hf242 (.cell (hS13.box (i:=1) rfl (j:=3) rfl) .nil) fun a121 hf243=>?_
       obtain ⟨r10,hd11,hr94⟩:=bind_some hr93
       refine c_call hf243 (f130_ok fuel x1t r10 hd11 z4 _ _ hS13 ) ?_
       rintro v11 ww21 a122 ⟨z14,k13,rfl,hS22⟩ hf244
       refine ⟨fun _=>trivial,?_⟩
       refine c_n 4 [] [2,3,5,80] hf244 .nil fun a123 hf245=>?_
       rcases bft (!r10) with hb42 | hb42
       ·have hr95:=cond_t hb42 hr94
        have hf246:=hf245.lit 80 hb42
        refine c_t [] [2,3,5,107] hf246 .nil fun a124 hf247=>?_
        exact ⟨z14,true,k13,hf247.to,hS22,hr95⟩
       ·have hr96:=cond_f hb42 hr94
        have hf249:=hf245.lit 80 hb42
        refine c_n 4 [.bool y3] [2,3,5,80,84] hf249 (.cell (hS22.box (i:=0) rfl (j:=1) rfl) .nil) fun a125 hf250=>?_
        rcases bft y3 with hb43 | hb43
        ·have hr97:=cond_t hb43 hr96
         have hf251:=hf250.lit 84 hb43
         refine c_n 5 [.bool y4] [2,3,5,80,89] hf251 (.cell (hS22.box (i:=0) rfl (j:=2) rfl) .nil) fun a126 hf252=>?_
         rcases bft y4 with hb44 | hb44
         ·have hr98:=cond_t hb44 hr97
          have hf253:=hf252.lit 89 hb44
          refine c_n 8 [vI x1f,vI x1t] [2,3,5,97] hf253 (.cell (hS22.box (i:=1) rfl (j:=2) rfl) (.cell (hS22.box (i:=1) rfl (j:=3) rfl) .nil)) fun a127 hf254=>?_
          rcases bft (x1f == x1t) with hb45 | hb45
          ·have hr99:=cond_t hb45 hr98
           have hf255:=hf254.lit 97 hb45
           refine c_t [] [2,3,5,107] hf255 .nil fun a128 hf256=>?_
           exact ⟨z14,true,k13,hf256.to,hS22,hr99⟩
          ·have hr100:=cond_f hb45 hr98
           have hf258:=hf254.lit 97 hb45
           refine c_n 4 [.bool y5] [2,3,5,97,101] hf258 (.cell (hS22.box (i:=0) rfl (j:=3) rfl) .nil) fun a129 hf259=>?_
           rcases bft y5 with hb46 | hb46
           ·have hr101:=cond_t hb46 hr100
            have hf260:=hf259.lit 101 hb46
            refine c_n 2 [vI x1m] [2,3,5,97,101,103] hf260 (.cell (hS22.box (i:=1) rfl (j:=4) rfl) .nil) fun a130 hf261=>?_
            obtain ⟨r11,hd12,hr102⟩:=bind_some hr101
            refine c_call hf261 (f71_ok fuel x1m 1 100000000 r11 hd12 z14 _ _ hS22 ) ?_
            rintro v12 ww22 a131 ⟨z15,k14,rfl,hS23⟩ hf262
            refine ⟨fun _=>trivial,?_⟩
            refine c_t [] [2,3,5,107] hf262 .nil fun a132 hf263=>?_
            exact ⟨z15,(!r11),(zt k13 k14),hf263.to,hS23,hr102⟩
           ·have hr103:=cond_f hb46 hr100
            have hf265:=hf259.lit 101 hb46
            refine c_t [] [2,3,5,107] hf265 .nil fun a133 hf266=>?_
            exact ⟨z14,false,k13,hf266.to,hS22,hr103⟩
         ·have hr104:=cond_f hb44 hr97
          have hf268:=hf252.lit 89 hb44
          refine c_n 12 [.bool y5] [2,3,5,97,101] hf268 (.cell (hS22.box (i:=0) rfl (j:=3) rfl) .nil) fun a134 hf269=>?_
          rcases bft y5 with hb47 | hb47
          ·have hr105:=cond_t hb47 hr104
           have hf270:=hf269.lit 101 hb47
           refine c_n 2 [vI x1m] [2,3,5,97,101,103] hf270 (.cell (hS22.box (i:=1) rfl (j:=4) rfl) .nil) fun a135 hf271=>?_
           obtain ⟨r12,hd13,hr106⟩:=bind_some hr105
           refine c_call hf271 (f71_ok fuel x1m 1 100000000 r12 hd13 z14 _ _ hS22 ) ?_
           rintro v13 ww23 a136 ⟨z16,k15,rfl,hS24⟩ hf272
           refine ⟨fun _=>trivial,?_⟩
           refine c_t [] [2,3,5,107] hf272 .nil fun a137 hf273=>?_
           exact ⟨z16,(!r12),(zt k13 k15),hf273.to,hS24,hr106⟩
          ·have hr107:=cond_f hb47 hr104
           have hf275:=hf269.lit 101 hb47
           refine c_t [] [2,3,5,107] hf275 .nil fun a138 hf276=>?_
           exact ⟨z14,false,k13,hf276.to,hS22,hr107⟩
        ·have hr108:=cond_f hb43 hr96
         have hf278:=hf250.lit 84 hb43
         refine c_n 17 [.bool y5] [2,3,5,97,101] hf278 (.cell (hS22.box (i:=0) rfl (j:=3) rfl) .nil) fun a139 hf279=>?_
         rcases bft y5 with hb48 | hb48
         ·have hr109:=cond_t hb48 hr108
          have hf280:=hf279.lit 101 hb48
          refine c_n 2 [vI x1m] [2,3,5,97,101,103] hf280 (.cell (hS22.box (i:=1) rfl (j:=4) rfl) .nil) fun a140 hf281=>?_
          obtain ⟨r13,hd14,hr110⟩:=bind_some hr109
          refine c_call hf281 (f71_ok fuel x1m 1 100000000 r13 hd14 z14 _ _ hS22 ) ?_
          rintro v14 ww24 a141 ⟨z17,k16,rfl,hS25⟩ hf282
          refine ⟨fun _=>trivial,?_⟩
          refine c_t [] [2,3,5,107] hf282 .nil fun a142 hf283=>?_
          exact ⟨z17,(!r13),(zt k13 k16),hf283.to,hS25,hr110⟩
         ·have hr111:=cond_f hb48 hr108
          have hf285:=hf279.lit 101 hb48
          refine c_t [] [2,3,5,107] hf285 .nil fun a143 hf286=>?_
          exact ⟨z14,false,k13,hf286.to,hS22,hr111⟩
      ·have hr112:=cond_f hb41 hr92
       have hf288:=hf241.lit 73 hb41
       refine c_n 11 [.bool y3] [2,3,5,80,84] hf288 (.cell (hS13.box (i:=0) rfl (j:=1) rfl) .nil) fun a144 hf289=>?_
       rcases bft y3 with hb49 | hb49
       ·have hr113:=cond_t hb49 hr112
        have hf290:=hf289.lit 84 hb49
        refine c_n 5 [.bool y4] [2,3,5,80,89] hf290 (.cell (hS13.box (i:=0) rfl (j:=2) rfl) .nil) fun a145 hf291=>?_
        rcases bft y4 with hb50 | hb50
        ·have hr114:=cond_t hb50 hr113
         have hf292:=hf291.lit 89 hb50
         refine c_n 8 [vI x1f,vI x1t] [2,3,5,97] hf292 (.cell (hS13.box (i:=1) rfl (j:=2) rfl) (.cell (hS13.box (i:=1) rfl (j:=3) rfl) .nil)) fun a146 hf293=>?_
         rcases bft (x1f == x1t) with hb51 | hb51
         ·have hr115:=cond_t hb51 hr114
          have hf294:=hf293.lit 97 hb51
          refine c_t [] [2,3,5,107] hf294 .nil fun a147 hf295=>?_
          exact ⟨z4,true,zr,hf295.to,hS13,hr115⟩
         ·have hr116:=cond_f hb51 hr114
          have hf297:=hf293.lit 97 hb51
          refine c_n 4 [.bool y5] [2,3,5,97,101] hf297 (.cell (hS13.box (i:=0) rfl (j:=3) rfl) .nil) fun a148 hf298=>?_
          rcases bft y5 with hb52 | hb52
          ·have hr117:=cond_t hb52 hr116
           have hf299:=hf298.lit 101 hb52
           refine c_n 2 [vI x1m] [2,3,5,97,101,103] hf299 (.cell (hS13.box (i:=1) rfl (j:=4) rfl) .nil) fun a149 hf300=>?_
           obtain ⟨r14,hd15,hr118⟩:=bind_some hr117
           refine c_call hf300 (f71_ok fuel x1m 1 100000000 r14 hd15 z4 _ _ hS13 ) ?_
           rintro v15 ww25 a150 ⟨z18,k17,rfl,hS26⟩ hf301
           refine ⟨fun _=>trivial,?_⟩
           refine c_t [] [2,3,5,107] hf301 .nil fun a151 hf302=>?_
           exact ⟨z18,(!r14),k17,hf302.to,hS26,hr118⟩
          ·have hr119:=cond_f hb52 hr116
           have hf304:=hf298.lit 101 hb52
           refine c_t [] [2,3,5,107] hf304 .nil fun a152 hf305=>?_
           exact ⟨z4,false,zr,hf305.to,hS13,hr119⟩
        ·have hr120:=cond_f hb50 hr113
         have hf307:=hf291.lit 89 hb50
         refine c_n 12 [.bool y5] [2,3,5,97,101] hf307 (.cell (hS13.box (i:=0) rfl (j:=3) rfl) .nil) fun a153 hf308=>?_
         rcases bft y5 with hb53 | hb53
         ·have hr121:=cond_t hb53 hr120
          have hf309:=hf308.lit 101 hb53
          refine c_n 2 [vI x1m] [2,3,5,97,101,103] hf309 (.cell (hS13.box (i:=1) rfl (j:=4) rfl) .nil) fun a154 hf310=>?_
          obtain ⟨r15,hd16,hr122⟩:=bind_some hr121
          refine c_call hf310 (f71_ok fuel x1m 1 100000000 r15 hd16 z4 _ _ hS13 ) ?_
          rintro v16 ww26 a155 ⟨z19,k18,rfl,hS27⟩ hf311
          refine ⟨fun _=>trivial,?_⟩
          refine c_t [] [2,3,5,107] hf311 .nil fun a156 hf312=>?_
          exact ⟨z19,(!r15),k18,hf312.to,hS27,hr122⟩
         ·have hr123:=cond_f hb53 hr120
          have hf314:=hf308.lit 101 hb53
          refine c_t [] [2,3,5,107] hf314 .nil fun a157 hf315=>?_
          exact ⟨z4,false,zr,hf315.to,hS13,hr123⟩
       ·have hr124:=cond_f hb49 hr112
        have hf317:=hf289.lit 84 hb49
        refine c_n 17 [.bool y5] [2,3,5,97,101] hf317 (.cell (hS13.box (i:=0) rfl (j:=3) rfl) .nil) fun a158 hf318=>?_
        rcases bft y5 with hb54 | hb54
        ·have hr125:=cond_t hb54 hr124
         have hf319:=hf318.lit 101 hb54
         refine c_n 2 [vI x1m] [2,3,5,97,101,103] hf319 (.cell (hS13.box (i:=1) rfl (j:=4) rfl) .nil) fun a159 hf320=>?_
         obtain ⟨r16,hd17,hr126⟩:=bind_some hr125
         refine c_call hf320 (f71_ok fuel x1m 1 100000000 r16 hd17 z4 _ _ hS13 ) ?_
         rintro v17 ww27 a160 ⟨z20,k19,rfl,hS28⟩ hf321
         refine ⟨fun _=>trivial,?_⟩
         refine c_t [] [2,3,5,107] hf321 .nil fun a161 hf322=>?_
         exact ⟨z20,(!r16),k19,hf322.to,hS28,hr126⟩
        ·have hr127:=cond_f hb54 hr124
         have hf324:=hf318.lit 101 hb54
         refine c_t [] [2,3,5,107] hf324 .nil fun a162 hf325=>?_
         exact ⟨z4,false,zr,hf325.to,hS13,hr127⟩
    ·rintro a163 ww28 ⟨z5,y2,k20,hf327,hS29,hr128⟩
     refine c_if y2 hf327 (fun hb55=>?_) (fun hb55=>?_)
     ·have hr129:=cond_t hb55 hr128
      refine c_sq [] [4] hf327 .nil fun a164 hf328=>?_
      refine c_ret ?_
      refine r_then ?_
      refine c_rt [] (.bool false) hf328 .nil ?_
      obtain rfl:=some_eq hr129
      exact ⟨_,rfl,z5,(zt (zt k3 k4) k20),rfl,(St.drop 3 hS29)⟩
     ·have hr130:=cond_f hb55 hr128
      refine c_skip ?_
      refine n_then ?_
      refine c_seq ?_
      refine c_sq [.bool y1] [2,3,111] hf327 (.cell (hS29.box (i:=0) rfl (j:=0) rfl) .nil) fun a165 hf329=>?_
      refine c_if (!y1) hf329 (fun hb56=>?_) (fun hb56=>?_)
      ·have hr131:=cond_t hb56 hr130
       refine c_sq [] [4] hf329 .nil fun a166 hf330=>?_
       refine c_ret ?_
       refine r_then ?_
       refine c_rt [] (.bool true) hf330 .nil ?_
       obtain rfl:=some_eq hr131
       exact ⟨_,rfl,z5,(zt (zt k3 k4) k20),rfl,(St.drop 3 hS29)⟩
      ·have hr132:=cond_f hb56 hr130
       refine c_skip ?_
       refine n_then ?_
       refine c_sr ?_
       refine c_n 4 [.slice o_x0l x0l.length c_x0l,vI x1o] [114,116] hf329 (.cell (hS29.box (i:=2) rfl (j:=0) rfl) (.cell (hS29.box (i:=1) rfl (j:=1) rfl) .nil)) fun a167 hf331=>?_
       obtain ⟨r1,hd18,hr133⟩:=bind_some hr132
       refine c_call hf331 (f74_ok fuel x0l x1o r1 hd18 z5 _ _ hS29 o_x0l c_x0l (SliceR.mono (zt (zt k3 k4) k20) hx_x0l)) ?_
       rintro v18 ww29 a168 ⟨z21,k21,rfl,hS30⟩ hf332
       refine ⟨fun _=>trivial,?_⟩
       refine c_t [] [6] hf332 .nil fun a169 hf333=>?_
       refine c_sq [] [4] hf333 .nil fun a170 hf334=>?_
       refine c_ret ?_
       refine c_rt [] (.bool r1.2) hf334 .nil ?_
       obtain rfl:=some_eq hr133
       exact ⟨_,rfl,z21,(zt (zt (zt k3 k4) k20) k21),rfl,(St.drop 3 hS30)⟩
def F75_l1 (fuel:Nat) (x0:List (List Part)):Nat→Int→Int→Option (Int)
  | 0,_,_=>none
  | n1 + 1,y1,y2 =>
    let k1:Int→Int→Option (Int):=F75_l1 fuel x0 n1
    (cond (decide (y2<(x0.length:Int))) ((getI x0 y2).bind fun p1=>((F90 fuel p1).bind fun r1=>(k1 (w64 (y1 + r1)) (w64 (y2 + (1:Int)))))) (some (y1)))
def F75 (fuel:Nat) (x0:List (List Part)):Option (Int) :=
  (F75_l1 fuel x0 fuel 0 0)
set_option maxRecDepth 100000 in
theorem f75_ok (fuel:Nat) (x0:List (List Part)) (r:Int) (hr:F75 fuel x0=some r) (h:Zone) (L:List Atom) (w:World) (hS:St h L w) (o_x0:Option Addr) (c_x0:Nat) (hx_x0:SliceR (Ty.slice PartT) h o_x0 c_x0 x0) :
    Calls Try.prog 75 #[.slice o_x0 x0.length c_x0] w fun e w'=>∃v,e= .returned v∧(∃h',Zone.le h h'∧v=vI r∧St h' L w'):=by
 refine calls_intro (N:=18) Try.func75 (by kernel_rfl) fun a hf=>?_
 refine c_sq [] [0] hf .nil fun a1 hf1=>?_
 refine c_sq [] [0,3] hf1 .nil fun a2 hf2=>?_
 refine c_seq ?_
 refine c_sq [] [3,6,7,8] hf2 .nil fun a3 hf3=>?_
 refine c_block 0 ?_
 refine c_loop (fun n a w=>∃z1:Zone,∃y1:Int,∃y2:Int,Zone.le h z1∧Fr a 18 [(3,vI y1),(6, .slice o_x0 x0.length c_x0),(7,vI (x0.length:Int)),(8,vI y2)]∧St z1 (L) w∧(F75_l1 fuel x0 n y1 y2)=some r) fuel ⟨h,0,0,zr,hf3.to,hS,hr⟩ ?_
 rintro n2 a4 ww1 ⟨z1,y1,y2,k2,hf5,hS1,hr1⟩
 cases n2 with
 | zero=>cases hr1
 | succ n1 =>
 refine c_sq [] [3,6,7,8,9] hf5 .nil fun a5 hf6=>?_
 refine c_seq ?_
 refine c_if (decide (y2<(x0.length:Int))) hf6 (fun hb1=>?_) (fun hb1=>?_)
 ·have hr2:=cond_t hb1 hr1
  refine c_skip ?_
  refine n_then ?_
  refine c_seq ?_
  refine c_block 1 ?_
  refine c_sr ?_
  obtain ⟨p1,hp753,hr3⟩:=bind_some hr2
  obtain ⟨ad1,ho1,hb2,cc1,hc1,hk1⟩:=SliceR.getI (SliceR.mono k2 hx_x0) hp753
  obtain ⟨e1,q1,rfl,hx1⟩:=hc1
  refine c_n 2 [.pointer (some ad1), .slice e1 p1.length q1] [3,6,7,8,11] hf6 (.prop ho1 (.prop hb2 (.cell (hS1.cell (hk1 0 _ rfl)) .nil))) fun a6 hf7=>?_
  refine c_box [.slice none 0 0] 40 hS1 hf7 fun b1 ww2 a7 hS2 hf8=>⟨fun _=>trivial,?_⟩
  refine c_st 0 [.slice e1 p1.length q1] hS2 hf8 rfl fun ww3 a8 hS3 hf9=>⟨fun _=>trivial,?_⟩
  refine c_dt ?_
  refine c_reg ?_
  refine c_n 2 [.slice e1 p1.length q1] [6,7,8,12,13] hf9 (.cell (hS3.box (i:=0) rfl (j:=0) rfl) .nil) fun a9 hf10=>?_
  obtain ⟨r1,hd1,hr4⟩:=bind_some hr3
  refine c_call hf10 (f90_ok fuel p1 r1 hd1 z1 _ _ hS3 e1 q1 hx1) ?_
  rintro v1 ww4 a10 ⟨z2,k3,rfl,hS4⟩ hf11
  refine ⟨fun _=>trivial,?_⟩
  refine c_z [] [3,6,7,8] hf11 .nil fun a11 hf12=>?_
  refine n_block ?_
  refine n_then ?_
  refine c_q [] [3,6,7,8] hf12 .nil fun a12 hf13=>?_
  refine n_then ?_
  exact ⟨n1,Nat.lt_succ_self n1,z2,(w64 (y1 + r1)),(w64 (y2 + (1:Int))),(zt k2 k3),hf13.to,(St.drop 1 hS4),hr4⟩
 ·have hr5:=cond_f hb1 hr1
  refine c_exit 0 ?_
  refine x_then ?_
  refine x_then ?_
  refine x_block ?_
  refine n_then ?_
  refine c_sq [] [2] hf6 .nil fun a13 hf15=>?_
  refine c_ret ?_
  refine c_rt [] (vI y1) hf15 .nil ?_
  obtain rfl:=some_eq hr5
  exact ⟨_,rfl,z1,k2,rfl,hS1⟩
def F78_j4 (y1:Bool):Option (Int) :=
  (cond y1 (some (2)) (some (0)))
def F78_j3 (fuel:Nat) (x0h:List (List (List Part))) (x1k:Int) (x1t:Int) (x1m:Int) (y2:Bool) (y3:Bool):Option (Int) :=
  (cond y3 (some (3)) (cond y2 (cond (x1k == (2:Int)) ((getI x0h x1t).bind fun p1=>(cond ((p1.length:Int) == (4:Int)) (F78_j4 true) ((getI x0h x1t).bind fun p2=>((F75 fuel p2).bind fun r1=>(F78_j4 (decide ((w64 (r1 + x1m)) > (100000000:Int)))))))) ((getI x0h x1t).bind fun p3=>((F75 fuel p3).bind fun r2=>(F78_j4 (decide ((w64 (r2 + x1m)) > (100000000:Int))))))) (F78_j4 false)))
def F78_j2 (fuel:Nat) (x0h:List (List (List Part))) (x1k:Int) (x1f:Int) (x1t:Int) (x1m:Int) (y2:Bool) (y4:Bool):Option (Int) :=
  (cond y4 (some (63)) (cond (x1k == (6:Int)) ((getI x0h x1f).bind fun p4=>(F78_j3 fuel x0h x1k x1t x1m y2 (decide ((p4.length:Int)<(2:Int))))) (F78_j3 fuel x0h x1k x1t x1m y2 false)))
def F78_j1 (fuel:Nat) (x0h:List (List (List Part))) (x1k:Int) (x1f:Int) (x1t:Int) (x1m:Int) (y5:Bool) (y6:Bool) (y2:Bool) (y7:Bool) (y8:Option Nat):Option (Int) :=
  (cond y6 ((getI x0h x1f).bind fun p5=>((F75 fuel p5).bind fun r3=>(F78_j2 fuel x0h x1k x1f x1t x1m y2 (decide (x1m > r3))))) (F78_j2 fuel x0h x1k x1f x1t x1m y2 false))
def F78 (fuel:Nat) (x0l:List Lot) (x0h:List (List (List Part))) (x1k:Int) (x1o:Int) (x1f:Int) (x1t:Int) (x1m:Int):Option (Int) :=
  ((F124 fuel x0l x0h x1k x1o x1f x1t x1m).bind fun r4=>(cond (!r4) (some (61)) ((F125 fuel ).bind fun r5=>(F78_j1 fuel x0h x1k x1f x1t x1m ((lkK r5 x1k zrow).lot) ((lkK r5 x1k zrow).frm) ((lkK r5 x1k zrow).to) ((lkK r5 x1k zrow).mass) ((lkK r5 x1k zrow).fn)))))
set_option maxRecDepth 100000 in
theorem f78_ok (fuel:Nat) (x0l:List Lot) (x0h:List (List (List Part))) (x1k:Int) (x1o:Int) (x1f:Int) (x1t:Int) (x1m:Int) (r:Int) (hr:F78 fuel x0l x0h x1k x1o x1f x1t x1m=some r) (h:Zone) (L:List Atom) (w:World) (hS:St h L w) (o_x0l:Option Addr) (c_x0l:Nat) (hx_x0l:SliceR LotT h o_x0l c_x0l x0l) (V00 V01 V02 V03 V04 V05 V06 V07 V08:Value) (hx_x0h:(Ty.arr 9 (Ty.slice (Ty.slice PartT))).rep h [V00,V01,V02,V03,V04,V05,V06,V07,V08] x0h) :
    Calls Try.prog 78 #[.agg #[.slice o_x0l x0l.length c_x0l,V00,V01,V02,V03,V04,V05,V06,V07,V08], .agg #[vI x1k,vI x1o,vI x1f,vI x1t,vI x1m]] w fun e w'=>∃v,e= .returned v∧(∃h',Zone.le h h'∧v=vI r∧St h' L w'):=by
 refine calls_intro (N:=69) Try.func78 (by kernel_rfl) fun a hf=>?_
 refine c_sr ?_
 refine c_box [.slice o_x0l x0l.length c_x0l,V00,V01,V02,V03,V04,V05,V06,V07,V08] 26 hS hf fun b1 ww1 a1 hS1 hf1=>⟨fun _=>trivial,?_⟩
 refine c_box [vI x1k,vI x1o,vI x1f,vI x1t,vI x1m] 28 hS1 hf1 fun b2 ww2 a2 hS2 hf2=>⟨fun _=>trivial,?_⟩
 refine c_t [] [2,3] hf2 .nil fun a3 hf3=>?_
 refine c_seq ?_
 refine c_sr ?_
 refine c_n 2 [.slice o_x0l x0l.length c_x0l,V00,V01,V02,V03,V04,V05,V06,V07,V08,vI x1k,vI x1o,vI x1f,vI x1t,vI x1m] [2,3,6,7] hf3 (.cell (hS2.box (i:=1) rfl (j:=0) rfl) (.cell (hS2.box (i:=1) rfl (j:=1) rfl) (.cell (hS2.box (i:=1) rfl (j:=2) rfl) (.cell (hS2.box (i:=1) rfl (j:=3) rfl) (.cell (hS2.box (i:=1) rfl (j:=4) rfl) (.cell (hS2.box (i:=1) rfl (j:=5) rfl) (.cell (hS2.box (i:=1) rfl (j:=6) rfl) (.cell (hS2.box (i:=1) rfl (j:=7) rfl) (.cell (hS2.box (i:=1) rfl (j:=8) rfl) (.cell (hS2.box (i:=1) rfl (j:=9) rfl) (.cell (hS2.box (i:=0) rfl (j:=0) rfl) (.cell (hS2.box (i:=0) rfl (j:=1) rfl) (.cell (hS2.box (i:=0) rfl (j:=2) rfl) (.cell (hS2.box (i:=0) rfl (j:=3) rfl) (.cell (hS2.box (i:=0) rfl (j:=4) rfl) .nil))))))))))))))) fun a4 hf4=>?_
 obtain ⟨r4,hd1,hr1⟩:=bind_some hr
 refine c_call hf4 (f124_ok fuel x0l x0h x1k x1o x1f x1t x1m r4 hd1 h _ _ hS2 o_x0l c_x0l hx_x0l V00 V01 V02 V03 V04 V05 V06 V07 V08 (Ty.mono _ zr hx_x0h)) ?_
 rintro v1 ww3 a5 ⟨z1,k1,rfl,hS3⟩ hf5
 refine ⟨fun _=>trivial,?_⟩
 refine c_t [] [2,3,9] hf5 .nil fun a6 hf6=>?_
 refine c_if (!r4) hf6 (fun hb1=>?_) (fun hb1=>?_)
 ·have hr2:=cond_t hb1 hr1
  refine c_sq [] [4] hf6 .nil fun a7 hf7=>?_
  refine c_ret ?_
  refine r_then ?_
  refine c_rt [] (vI 61) hf7 .nil ?_
  obtain rfl:=some_eq hr2
  exact ⟨_,rfl,z1,k1,rfl,(St.drop 2 hS3)⟩
 ·have hr3:=cond_f hb1 hr1
  refine c_skip ?_
  refine n_then ?_
  refine c_mid (fun a w=>∃z2:Zone,∃y5:Bool,∃y6:Bool,∃y2:Bool,∃y7:Bool,∃y8:Option Nat,∃b3:Nat,Zone.le z1 z2∧Fr a 69 [(2,pB b1 0),(3,pB b2 0),(5,pB b3 0)]∧St z2 (box b3 [.bool y5, .bool y6, .bool y2, .bool y7,fnV y8] 163::box b2 [vI x1k,vI x1o,vI x1f,vI x1t,vI x1m] 28::box b1 [.slice o_x0l x0l.length c_x0l,V00,V01,V02,V03,V04,V05,V06,V07,V08] 26::L) w∧(F78_j1 fuel x0h x1k x1f x1t x1m y5 y6 y2 y7 y8)=some r) ?_ ?_
  ·skip
   have hS4:=hS3.drew
   have s1:=Sub.of zr hS4
   refine w_regB (by kernel_rfl) [3,5] (Sub z1 (box b2 [vI x1k,vI x1o,vI x1f,vI x1t,vI x1m] 28::box b1 [.slice o_x0l x0l.length c_x0l,V00,V01,V02,V03,V04,V05,V06,V07,V08] 26::L)) (by kernel_rfl) ?_
   refine k_seg' 4 [(1,true),(2,true)] (by kernel_rfl) (by kernel_rfl) (At.start s1) (by kernel_rfl) ?_
   refine c_S 2 [vI x1k] [2,3,12] s1 hf6 (fun _ s=>(.cell (s.box (i:=0) rfl (j:=0) rfl) .nil)) .nil fun a8 hf8=>?_
   refine c_done ?_
   intro hA1
   refine k_any' 3 [0,4] (by kernel_rfl) hA1 (by kernel_rfl) (by kernel_rfl) ?_
   refine (all_cons ?_ (all_cons ?_ all_nil))
   ·skip
    obtain ⟨r5,hd2,hr4⟩:=bind_some hr3
    refine c_call hf8 (f125_ok fuel  r5 hd2 z1 _ _ hS4 ) ?_
    rintro v2 ww4 a9 ⟨z3,e1,k2,rfl,hS5,hx1⟩ hf9
    refine ⟨fun _=>Sub.of k2 hS5,?_⟩
    refine c_done ?_
    intro hA2
    have s2:=Sub.of k2 hS5
    refine k_seg' 3 [] (by kernel_rfl) (by kernel_rfl) hA2 (by kernel_rfl) ?_
    refine c_done ?_
    intro hA3
    refine k_any' 2 [3,4] (by kernel_rfl) hA3 (by kernel_rfl) (by kernel_rfl) ?_
    refine (all_cons ?_ (all_cons ?_ all_nil))
    ·skip
     refine p_lookup (i:=3) (d:=(some 13)) (t:=164) (o:=e1) (k:=x1k) (c:=false) (z:=zrow) (D:=r5) hf9 (by kernel_rfl) mp164 (MapR.look hx1 hS5) fun a10 hf10=>⟨fun e=>absurd e (by decide),?_⟩
     refine c_done ?_
     intro hA4
     refine k_seg' 0 [(4,false),(5,false)] (by kernel_rfl) (by kernel_rfl) hA4 (by kernel_rfl) ?_
     refine c_box [.bool false, .bool false, .bool false, .bool false,fnV none] 163 hS5 hf10 fun b4 ww5 a11 hS6 hf11=>⟨fun _=>Sub.of k2 (St.drop 1 hS6),?_⟩
     have s3:=Sub.of k2 (St.drop 1 hS6)
     refine p_store_eq (i:=5) (j:=0) (b:=b4) (off:=0) (vs:=[.bool ((lkK r5 x1k zrow).lot), .bool ((lkK r5 x1k zrow).frm), .bool ((lkK r5 x1k zrow).to), .bool ((lkK r5 x1k zrow).mass),fnV ((lkK r5 x1k zrow).fn)]) (cs':=[.bool ((lkK r5 x1k zrow).lot), .bool ((lkK r5 x1k zrow).frm), .bool ((lkK r5 x1k zrow).to), .bool ((lkK r5 x1k zrow).mass),fnV ((lkK r5 x1k zrow).fn)]) hS6 hf11 rfl (by kernel_rfl) (by generalize (lkK r5 x1k zrow).fn=q; cases q <;> kernel_rfl) rfl fun ww6 a12 hS7 hf12=>⟨fun e=>absurd e (by decide),?_⟩
     refine c_done ?_
     intro hA5
     refine k_done' (by kernel_rfl) (by kernel_rfl) ?_
     refine n_then ?_
     exact ⟨z3,(lkK r5 x1k zrow).lot,(lkK r5 x1k zrow).frm,(lkK r5 x1k zrow).to,(lkK r5 x1k zrow).mass,(lkK r5 x1k zrow).fn,b4,k2,hf12.to,(St.pick 1 [0] hS7 (by kernel_rfl)),hr4⟩
    ·skip
     refine c_box [.bool false, .bool false, .bool false, .bool false,fnV none] 163 hS5 hf9 fun b5 ww7 a13 hS8 hf14=>⟨fun _=>Sub.of k2 (St.drop 1 hS8),?_⟩
     refine c_done ?_
     intro hA6
     have s4:=Sub.of k2 (St.drop 1 hS8)
     refine k_seg' 0 [(3,false),(5,false)] (by kernel_rfl) (by kernel_rfl) hA6 (by kernel_rfl) ?_
     refine p_lookup (i:=3) (d:=(some 13)) (t:=164) (o:=e1) (k:=x1k) (c:=false) (z:=zrow) (D:=r5) hf14 (by kernel_rfl) mp164 (MapR.look hx1 hS8) fun a14 hf15=>⟨fun e=>absurd e (by decide),?_⟩
     refine p_store_eq (i:=5) (j:=0) (b:=b5) (off:=0) (vs:=[.bool ((lkK r5 x1k zrow).lot), .bool ((lkK r5 x1k zrow).frm), .bool ((lkK r5 x1k zrow).to), .bool ((lkK r5 x1k zrow).mass),fnV ((lkK r5 x1k zrow).fn)]) (cs':=[.bool ((lkK r5 x1k zrow).lot), .bool ((lkK r5 x1k zrow).frm), .bool ((lkK r5 x1k zrow).to), .bool ((lkK r5 x1k zrow).mass),fnV ((lkK r5 x1k zrow).fn)]) hS8 hf15 rfl (by kernel_rfl) (by generalize (lkK r5 x1k zrow).fn=q; cases q <;> kernel_rfl) rfl fun ww8 a15 hS9 hf16=>⟨fun e=>absurd e (by decide),?_⟩
     refine c_done ?_
     intro hA7
     refine k_done' (by kernel_rfl) (by kernel_rfl) ?_
     refine n_then ?_
     exact ⟨z3,(lkK r5 x1k zrow).lot,(lkK r5 x1k zrow).frm,(lkK r5 x1k zrow).to,(lkK r5 x1k zrow).mass,(lkK r5 x1k zrow).fn,b5,k2,hf16.to,(St.pick 1 [0] hS9 (by kernel_rfl)),hr4⟩
   ·skip
    refine c_box [.bool false, .bool false, .bool false, .bool false,fnV none] 163 hS4 hf8 fun b6 ww9 a16 hS10 hf18=>⟨fun _=>Sub.of zr (St.drop 1 hS10),?_⟩
    refine c_done ?_
    intro hA8
    have s5:=Sub.of zr (St.drop 1 hS10)
    refine k_seg' 0 [(0,false),(3,false),(5,false)] (by kernel_rfl) (by kernel_rfl) hA8 (by kernel_rfl) ?_
    obtain ⟨r6,hd3,hr5⟩:=bind_some hr3
    refine c_call hf18 (f125_ok fuel  r6 hd3 z1 _ _ hS10 ) ?_
    rintro v3 ww10 a17 ⟨z4,e2,k3,rfl,hS11,hx2⟩ hf19
    refine ⟨fun _=>Sub.of k3 (St.drop 1 hS11),?_⟩
    have s6:=Sub.of k3 (St.drop 1 hS11)
    refine p_lookup (i:=3) (d:=(some 13)) (t:=164) (o:=e2) (k:=x1k) (c:=false) (z:=zrow) (D:=r6) hf19 (by kernel_rfl) mp164 (MapR.look hx2 hS11) fun a18 hf20=>⟨fun e=>absurd e (by decide),?_⟩
    refine p_store_eq (i:=5) (j:=0) (b:=b6) (off:=0) (vs:=[.bool ((lkK r6 x1k zrow).lot), .bool ((lkK r6 x1k zrow).frm), .bool ((lkK r6 x1k zrow).to), .bool ((lkK r6 x1k zrow).mass),fnV ((lkK r6 x1k zrow).fn)]) (cs':=[.bool ((lkK r6 x1k zrow).lot), .bool ((lkK r6 x1k zrow).frm), .bool ((lkK r6 x1k zrow).to), .bool ((lkK r6 x1k zrow).mass),fnV ((lkK r6 x1k zrow).fn)]) hS11 hf20 rfl (by kernel_rfl) (by generalize (lkK r6 x1k zrow).fn=q; cases q <;> kernel_rfl) rfl fun ww11 a19 hS12 hf21=>⟨fun e=>absurd e (by decide),?_⟩
    refine c_done ?_
    intro hA9
    refine k_done' (by kernel_rfl) (by kernel_rfl) ?_
    refine n_then ?_
    exact ⟨z4,(lkK r6 x1k zrow).lot,(lkK r6 x1k zrow).frm,(lkK r6 x1k zrow).to,(lkK r6 x1k zrow).mass,(lkK r6 x1k zrow).fn,b6,k3,hf21.to,(St.pick 1 [0] hS12 (by kernel_rfl)),hr5⟩
  ·rintro a20 ww12 ⟨z2,y5,y6,y2,y7,y8,b3,k4,hf23,hS13,hr6⟩
   refine c_seq ?_
   refine c_mid (fun a w=>∃z5:Zone,∃y4:Bool,Zone.le z2 z5∧Fr a 69 [(2,pB b1 0),(3,pB b2 0),(5,pB b3 0),(27, .bool y4)]∧St z5 (box b3 [.bool y5, .bool y6, .bool y2, .bool y7,fnV y8] 163::box b2 [vI x1k,vI x1o,vI x1f,vI x1t,vI x1m] 28::box b1 [.slice o_x0l x0l.length c_x0l,V00,V01,V02,V03,V04,V05,V06,V07,V08] 26::L) w∧(F78_j2 fuel x0h x1k x1f x1t x1m y2 y4)=some r) ?_ ?_
   ·skip
    have hS14:=hS13.drew
    have s7:=Sub.of zr hS14
    refine c_regD [(0,true),(1,true),(2,true),(3,true),(4,true),(5,true),(6,true),(7,true),(8,true),(9,true),(10,true),(11,false),(12,true),(13,true)] [] _ s7 ?_
    refine c_S 4 [.bool y6] [2,3,5,17] s7 hf23 (fun _ s=>(.cell (s.box (i:=0) rfl (j:=1) rfl) .nil)) .nil fun a21 hf24=>?_
    rcases bft y6 with hb2 | hb2
    ·have hr7:=cond_t hb2 hr6
     have hf25:=hf24.lit 17 hb2
     obtain ⟨p5,hp574,hr8⟩:=bind_some hr7
     obtain ⟨hb3,_,hv1,e3,q1,hehv578,hx3⟩:=arrGet (Ty.mono _ (zt k1 k4) hx_x0h) rfl hp574
     obtain rfl:=List.head_eq_of_cons_eq hehv578
     refine c_S 7 [vI x1m,vI x1f, .slice e3 p5.length q1] [2,3,5,17,19,24] s7 hf25 (fun _ s=>(.cell (s.box (i:=1) rfl (j:=4) rfl) (.cell (s.box (i:=1) rfl (j:=2) rfl) (.prop hb3 (.cell ((arrAddr b1 1 x1f.toNat) ▸ (s.box (i:=2) rfl (getElem?_app_right [.slice o_x0l x0l.length c_x0l] _ _ hv1 []))) .nil))))) .nil fun a22 hf26=>?_
     obtain ⟨r3,hd4,hr9⟩:=bind_some hr8
     refine c_call hf26 (f75_ok fuel p5 r3 hd4 z2 _ _ hS14 e3 q1 hx3) ?_
     rintro v4 ww13 a23 ⟨z6,k5,rfl,hS15⟩ hf27
     refine ⟨fun _=>Sub.of k5 hS15,?_⟩
     have s8:=Sub.of k5 hS15
     refine c_S 2 [] [2,3,5,27] s8 hf27 (fun _ s=> .nil) .nil fun a24 hf28=>?_
     refine c_dt ?_
     exact ⟨z6,(decide (x1m > r3)),k5,hf28.to,hS15,hr9⟩
    ·have hr10:=cond_f hb2 hr6
     have hf30:=hf24.lit 17 hb2
     refine c_S 10 [] [2,3,5,27] s7 hf30 (fun _ s=> .nil) .nil fun a25 hf31=>?_
     refine c_dt ?_
     exact ⟨z2,false,zr,hf31.to,hS14,hr10⟩
   ·rintro a26 ww14 ⟨z5,y4,k6,hf33,hS16,hr11⟩
    refine c_if y4 hf33 (fun hb4=>?_) (fun hb4=>?_)
    ·have hr12:=cond_t hb4 hr11
     refine c_sq [] [4] hf33 .nil fun a27 hf34=>?_
     refine c_ret ?_
     refine r_then ?_
     refine c_rt [] (vI 63) hf34 .nil ?_
     obtain rfl:=some_eq hr12
     exact ⟨_,rfl,z5,(zt (zt k1 k4) k6),rfl,(St.drop 3 hS16)⟩
    ·have hr13:=cond_f hb4 hr11
     refine c_skip ?_
     refine n_then ?_
     refine c_seq ?_
     refine c_mid (fun a w=>∃z7:Zone,∃y3:Bool,Zone.le z5 z7∧Fr a 69 [(2,pB b1 0),(3,pB b2 0),(5,pB b3 0),(39, .bool y3)]∧St z7 (box b3 [.bool y5, .bool y6, .bool y2, .bool y7,fnV y8] 163::box b2 [vI x1k,vI x1o,vI x1f,vI x1t,vI x1m] 28::box b1 [.slice o_x0l x0l.length c_x0l,V00,V01,V02,V03,V04,V05,V06,V07,V08] 26::L) w∧(F78_j3 fuel x0h x1k x1t x1m y2 y3)=some r) ?_ ?_
     ·skip
      refine c_reg ?_
      refine c_n 4 [vI x1k] [2,3,5,31] hf33 (.cell (hS16.box (i:=1) rfl (j:=0) rfl) .nil) fun a28 hf35=>?_
      rcases bft (x1k == (6:Int)) with hb5 | hb5
      ·have hr14:=cond_t hb5 hr13
       have hf36:=hf35.lit 31 hb5
       obtain ⟨p4,hp720,hr15⟩:=bind_some hr14
       obtain ⟨hb6,_,hv2,e4,q2,hehv724,hx4⟩:=arrGet (Ty.mono _ (zt (zt k1 k4) k6) hx_x0h) rfl hp720
       obtain rfl:=List.head_eq_of_cons_eq hehv724
       refine c_t [vI x1f, .slice e4 p4.length q2] [2,3,5,39] hf36 (.cell (hS16.box (i:=1) rfl (j:=2) rfl) (.prop hb6 (.cell ((arrAddr b1 1 x1f.toNat) ▸ (hS16.box (i:=2) rfl (getElem?_app_right [.slice o_x0l x0l.length c_x0l] _ _ hv2 []))) .nil))) fun a29 hf37=>?_
       exact ⟨z5,(decide ((p4.length:Int)<(2:Int))),zr,hf37.to,hS16,hr15⟩
      ·have hr16:=cond_f hb5 hr13
       have hf39:=hf35.lit 31 hb5
       refine c_t [] [2,3,5,39] hf39 .nil fun a30 hf40=>?_
       exact ⟨z5,false,zr,hf40.to,hS16,hr16⟩
     ·rintro a31 ww15 ⟨z7,y3,k7,hf42,hS17,hr17⟩
      refine c_if y3 hf42 (fun hb7=>?_) (fun hb7=>?_)
      ·have hr18:=cond_t hb7 hr17
       refine c_sq [] [4] hf42 .nil fun a32 hf43=>?_
       refine c_ret ?_
       refine r_then ?_
       refine c_rt [] (vI 3) hf43 .nil ?_
       obtain rfl:=some_eq hr18
       exact ⟨_,rfl,z7,(zt (zt (zt k1 k4) k6) k7),rfl,(St.drop 3 hS17)⟩
      ·have hr19:=cond_f hb7 hr17
       refine c_skip ?_
       refine n_then ?_
       refine c_seq ?_
       refine c_mid (fun a w=>∃z8:Zone,∃y1:Bool,Zone.le z7 z8∧Fr a 69 [(68, .bool y1)]∧St z8 (box b3 [.bool y5, .bool y6, .bool y2, .bool y7,fnV y8] 163::box b2 [vI x1k,vI x1o,vI x1f,vI x1t,vI x1m] 28::box b1 [.slice o_x0l x0l.length c_x0l,V00,V01,V02,V03,V04,V05,V06,V07,V08] 26::L) w∧(F78_j4 y1)=some r) ?_ ?_
       ·skip
        have hS18:=hS17.drew
        have s9:=Sub.of zr hS18
        refine c_regD [(0,true),(1,true),(2,true),(3,true),(4,true),(5,true),(6,true),(7,true),(8,true),(9,true),(10,true),(11,true),(12,true),(13,true),(14,true),(15,true),(16,true),(17,true),(18,true),(19,true),(20,true),(21,true),(23,true),(24,true),(22,false),(25,true),(26,true),(27,true),(28,true)] [] _ s9 ?_
        refine c_S 4 [.bool y2] [2,3,43] s9 hf42 (fun _ s=>(.cell (s.box (i:=0) rfl (j:=2) rfl) .nil)) .nil fun a33 hf44=>?_
        rcases bft y2 with hb8 | hb8
        ·have hr20:=cond_t hb8 hr19
         have hf45:=hf44.lit 43 hb8
         refine c_S 4 [vI x1k] [2,3,43,47] s9 hf45 (fun _ s=>(.cell (s.box (i:=1) rfl (j:=0) rfl) .nil)) .nil fun a34 hf46=>?_
         rcases bft (x1k == (2:Int)) with hb9 | hb9
         ·have hr21:=cond_t hb9 hr20
          have hf47:=hf46.lit 47 hb9
          obtain ⟨p1,hp1159,hr22⟩:=bind_some hr21
          obtain ⟨hb10,_,hv3,e5,q3,hehv1163,hx5⟩:=arrGet (Ty.mono _ (zt (zt (zt k1 k4) k6) k7) hx_x0h) rfl hp1159
          obtain rfl:=List.head_eq_of_cons_eq hehv1163
          refine c_S 9 [vI x1t, .slice e5 p1.length q3] [2,3,43,56] s9 hf47 (fun _ s=>(.cell (s.box (i:=1) rfl (j:=3) rfl) (.prop hb10 (.cell ((arrAddr b1 1 x1t.toNat) ▸ (s.box (i:=2) rfl (getElem?_app_right [.slice o_x0l x0l.length c_x0l] _ _ hv3 []))) .nil)))) .nil fun a35 hf48=>?_
          rcases bft ((p1.length:Int) == (4:Int)) with hb11 | hb11
          ·have hr23:=cond_t hb11 hr22
           have hf49:=hf48.lit 56 hb11
           refine c_S 12 [] [68] s9 hf49 (fun _ s=> .nil) .nil fun a36 hf50=>?_
           refine c_dt ?_
           exact ⟨z7,true,zr,hf50.to,hS18,hr23⟩
          ·have hr24:=cond_f hb11 hr22
           have hf52:=hf48.lit 56 hb11
           obtain ⟨p2,hp1179,hr25⟩:=bind_some hr24
           obtain ⟨hb12,_,hv4,e6,q4,hehv1183,hx6⟩:=arrGet (Ty.mono _ (zt (zt (zt k1 k4) k6) k7) hx_x0h) rfl hp1179
           obtain rfl:=List.head_eq_of_cons_eq hehv1183
           refine c_S 7 [vI x1t, .slice e6 p2.length q4,vI x1m] [43,56,61,64] s9 hf52 (fun _ s=>(.cell (s.box (i:=1) rfl (j:=3) rfl) (.prop hb12 (.cell ((arrAddr b1 1 x1t.toNat) ▸ (s.box (i:=2) rfl (getElem?_app_right [.slice o_x0l x0l.length c_x0l] _ _ hv4 []))) (.cell (s.box (i:=1) rfl (j:=4) rfl) .nil))))) .nil fun a37 hf53=>?_
           obtain ⟨r1,hd5,hr26⟩:=bind_some hr25
           refine c_call hf53 (f75_ok fuel p2 r1 hd5 z7 _ _ hS18 e6 q4 hx6) ?_
           rintro v5 ww16 a38 ⟨z9,k8,rfl,hS19⟩ hf54
           refine ⟨fun _=>Sub.of k8 hS19,?_⟩
           have s10:=Sub.of k8 hS19
           refine c_S 4 [] [68] s10 hf54 (fun _ s=> .nil) .nil fun a39 hf55=>?_
           refine c_dt ?_
           exact ⟨z9,(decide ((w64 (r1 + x1m)) > (100000000:Int))),k8,hf55.to,hS19,hr26⟩
         ·have hr27:=cond_f hb9 hr20
          have hf57:=hf46.lit 47 hb9
          obtain ⟨p3,hp1212,hr28⟩:=bind_some hr27
          obtain ⟨hb13,_,hv5,e7,q5,hehv1216,hx7⟩:=arrGet (Ty.mono _ (zt (zt (zt k1 k4) k6) k7) hx_x0h) rfl hp1212
          obtain rfl:=List.head_eq_of_cons_eq hehv1216
          refine c_S 16 [vI x1t, .slice e7 p3.length q5,vI x1m] [43,56,61,64] s9 hf57 (fun _ s=>(.cell (s.box (i:=1) rfl (j:=3) rfl) (.prop hb13 (.cell ((arrAddr b1 1 x1t.toNat) ▸ (s.box (i:=2) rfl (getElem?_app_right [.slice o_x0l x0l.length c_x0l] _ _ hv5 []))) (.cell (s.box (i:=1) rfl (j:=4) rfl) .nil))))) .nil fun a40 hf58=>?_
          obtain ⟨r2,hd6,hr29⟩:=bind_some hr28
          refine c_call hf58 (f75_ok fuel p3 r2 hd6 z7 _ _ hS18 e7 q5 hx7) ?_
          rintro v6 ww17 a41 ⟨z10,k9,rfl,hS20⟩ hf59
          refine ⟨fun _=>Sub.of k9 hS20,?_⟩
          have s11:=Sub.of k9 hS20
          refine c_S 4 [] [68] s11 hf59 (fun _ s=> .nil) .nil fun a42 hf60=>?_
          refine c_dt ?_
          exact ⟨z10,(decide ((w64 (r2 + x1m)) > (100000000:Int))),k9,hf60.to,hS20,hr29⟩
        ·have hr30:=cond_f hb8 hr19
         have hf62:=hf44.lit 43 hb8
         refine c_S 25 [] [68] s9 hf62 (fun _ s=> .nil) .nil fun a43 hf63=>?_
         refine c_dt ?_
         exact ⟨z7,false,zr,hf63.to,hS18,hr30⟩
       ·rintro a44 ww18 ⟨z8,y1,k10,hf65,hS21,hr31⟩
        refine c_if y1 hf65 (fun hb14=>?_) (fun hb14=>?_)
        ·have hr32:=cond_t hb14 hr31
         refine c_sq [] [4] hf65 .nil fun a45 hf66=>?_
         refine c_ret ?_
         refine r_then ?_
         refine c_rt [] (vI 2) hf66 .nil ?_
         obtain rfl:=some_eq hr32
         exact ⟨_,rfl,z8,(zt (zt (zt (zt k1 k4) k6) k7) k10),rfl,(St.drop 3 hS21)⟩
        ·have hr33:=cond_f hb14 hr31
         refine c_skip ?_
         refine n_then ?_
         refine c_sq [] [4] hf65 .nil fun a46 hf67=>?_
         refine c_ret ?_
         refine c_rt [] (vI 0) hf67 .nil ?_
         obtain rfl:=some_eq hr33
         exact ⟨_,rfl,z8,(zt (zt (zt (zt k1 k4) k6) k7) k10),rfl,(St.drop 3 hS21)⟩
def F82 (fuel:Nat) (x0:Pl) (x1k:Int) (x1o:Int) (x1f:Int) (x1t:Int) (x1m:Int):Option (List Part×List (Int×Bool)×Int×Pl) :=
  ((F78 fuel x0.lots x0.holds x1k x1o x1f x1t x1m).bind fun r1=>(cond (r1 != (0:Int)) (some ([],[],r1,x0)) ((F125 fuel ).bind fun r2=>(cond ((lkK r2 x1k zrow).fn == some 138) ((F138 fuel x0 x1k x1o x1f x1t x1m).bind fun r3=>(some (r3.1,r3.2.1,0,r3.2.2))) (cond ((lkK r2 x1k zrow).fn == some 139) ((F139 fuel x0 x1k x1o x1f x1t x1m).bind fun r4=>(some (r4.1,r4.2.1,0,r4.2.2))) (cond ((lkK r2 x1k zrow).fn == some 140) ((F140 fuel x0 x1k x1o x1f x1t x1m).bind fun r5=>(some (r5.1,r5.2.1,0,r5.2.2))) (cond ((lkK r2 x1k zrow).fn == some 141) ((F141 fuel x0 x1k x1o x1f x1t x1m).bind fun r6=>(some (r6.1,r6.2.1,0,r6.2.2))) (cond ((lkK r2 x1k zrow).fn == some 142) ((F142 fuel x0 x1k x1o x1f x1t x1m).bind fun r7=>(some (r7.1,r7.2.1,0,r7.2.2))) (cond ((lkK r2 x1k zrow).fn == some 143) ((F143 fuel x0 x1k x1o x1f x1t x1m).bind fun r8=>(some (r8.1,r8.2.1,0,r8.2.2))) none)))))))))
set_option maxRecDepth 100000 in
theorem f82_ok (fuel:Nat) (x0:Pl) (x1k:Int) (x1o:Int) (x1f:Int) (x1t:Int) (x1m:Int) (r:List Part×List (Int×Bool)×Int×Pl) (hr:F82 fuel x0 x1k x1o x1f x1t x1m=some r) (h:Zone) (L:List Atom) (w:World) (b_x0:Nat) (hS:St h (plA 126 40 117 b_x0 x0::L) w)  :
    Calls Try.prog 82 #[pB b_x0 0, .agg #[vI x1k,vI x1o,vI x1f,vI x1t,vI x1m]] w fun e w'=>∃v,e= .returned v∧(∃h',∃o0:Option Addr,∃c0:Nat,∃o1:Option Nat,Zone.le h h'∧v= .tuple #[.agg #[.slice o0 r.1.length c0, .map o1],vI r.2.2.1]∧St h' (plA 126 40 117 b_x0 r.2.2.2::L) w'∧SliceR PartT h' o0 c0 r.1∧MapR Value.bool h' o1 r.2.1):=by
 refine calls_intro (N:=25) Try.func82 (by kernel_rfl) fun a hf=>?_
 refine c_sr ?_
 refine c_box [vI x1k,vI x1o,vI x1f,vI x1t,vI x1m] 28 hS hf fun b1 ww1 a1 hS1 hf1=>⟨fun _=>trivial,?_⟩
 refine c_box [.slice none 0 0, .map none] 119 hS1 hf1 fun b2 ww2 a2 hS2 hf2=>⟨fun _=>trivial,?_⟩
 refine c_t [] [0,3,4] hf2 .nil fun a3 hf3=>?_
 refine c_seq ?_
 refine c_seq ?_
 obtain ⟨e1,q1,v1,v2,v3,v4,v5,v6,v7,v8,v9,v10,v11,v12,v13,v14,v15,v16,v17,v18,hx1,hS3⟩:=hS2.plOpen (i:=2) rfl
 have hS4:=hS3.drew
 refine c_regD [(0,true),(1,true),(2,true),(3,true),(4,true),(5,false),(6,true)] [5] (fun x=>x=ww2.drew) rfl ?_
 refine c_E 5 [.slice e1 x0.lots.length q1,v1,v2,v3,v4,v5,v6,v7,v8,v9,vI x1k,vI x1o,vI x1f,vI x1t,vI x1m] [0,3,4,10,11] hf3 (.cell (hS4.box (i:=4) rfl (j:=0) rfl) (.cell (hS4.box (i:=4) rfl (j:=1) rfl) (.cell (hS4.box (i:=4) rfl (j:=2) rfl) (.cell (hS4.box (i:=4) rfl (j:=3) rfl) (.cell (hS4.box (i:=4) rfl (j:=4) rfl) (.cell (hS4.box (i:=4) rfl (j:=5) rfl) (.cell (hS4.box (i:=4) rfl (j:=6) rfl) (.cell (hS4.box (i:=4) rfl (j:=7) rfl) (.cell (hS4.box (i:=4) rfl (j:=8) rfl) (.cell (hS4.box (i:=4) rfl (j:=9) rfl) (.cell (hS4.box (i:=3) rfl (j:=0) rfl) (.cell (hS4.box (i:=3) rfl (j:=1) rfl) (.cell (hS4.box (i:=3) rfl (j:=2) rfl) (.cell (hS4.box (i:=3) rfl (j:=3) rfl) (.cell (hS4.box (i:=3) rfl (j:=4) rfl) .nil))))))))))))))) .nil fun a4 hf4=>?_
 obtain ⟨r1,hd1,hr1⟩:=bind_some hr
 refine c_call hf4 (lend hS4 (j:=0) rfl (n:=9) rfl fun z1 L111 k1 hx2 hS5=>f78_ok fuel x0.lots x0.holds x1k x1o x1f x1t x1m r1 hd1 z1 L111 _ hS5 e1 q1 (SliceR.mono k1 hx1) v1 v2 v3 v4 v5 v6 v7 v8 v9 hx2) ?_
 rintro v19 ww3 a5 ⟨z2,k2,rfl,hS6⟩ hf5
 refine ⟨fun e=>absurd e (by decide),?_⟩
 refine p_qP 1 [] [(0,pB b_x0 0),(3,pB b1 0),(4,pB b2 0),(6,vI r1)] [] hf5 (by kernel_rfl) (fun _=> .nil) fun a6 hf6=>?_
 refine c_done ?_
 have hS7:=hS6.plClose (i:=4) (j:=0) (k:=1) rfl (SliceR.mono k2 hx1) rfl rfl (by decide) (by decide) (by decide)
 refine n_then ?_
 refine c_sq [] [0,3,4,6,14] hf6 .nil fun a7 hf7=>?_
 refine c_if (r1 != (0:Int)) hf7 (fun hb1=>?_) (fun hb1=>?_)
 ·have hr2:=cond_t hb1 hr1
  refine c_sr ?_
  refine c_n 2 [] [4,15,16] hf7 .nil fun a8 hf8=>?_
  refine c_st 2 [.slice none 0 0, .map none] hS7 hf8 rfl fun ww4 a9 hS8 hf9=>⟨fun _=>trivial,?_⟩
  refine c_t [] [4,5] hf9 .nil fun a10 hf10=>?_
  refine c_ret ?_
  refine r_then ?_
  refine c_rt [.slice none 0 0, .map none] (.tuple #[.agg #[.slice none 0 0, .map none],vI r1]) hf10 (.cell (hS8.box (i:=2) rfl (j:=0) rfl) (.cell (hS8.box (i:=2) rfl (j:=1) rfl) .nil)) ?_
  obtain rfl:=some_eq hr2
  exact ⟨_,rfl,z2,none,0,none,k2,rfl,(St.pick 5 [4] hS8 (by kernel_rfl)),SliceR.nil' _ _,(MapR.nil' _ _)⟩
 ·have hr3:=cond_f hb1 hr1
  refine c_skip ?_
  refine n_then ?_
  refine c_seq ?_
  have hS9:=hS7.drew
  have s1:=Sub.of zr hS9
  refine c_regD [(1,true),(2,true),(5,true),(6,true),(0,false),(3,false),(4,true),(7,false),(8,false),(9,true)] [7,8] _ s1 ?_
  refine c_S 4 [vI x1k,vI x1k,vI x1o,vI x1f,vI x1t,vI x1m] [4,19,22,23] s1 hf7 (fun _ s=>(.cell (s.box (i:=3) rfl (j:=0) rfl) (.cell (s.box (i:=3) rfl (j:=0) rfl) (.cell (s.box (i:=3) rfl (j:=1) rfl) (.cell (s.box (i:=3) rfl (j:=2) rfl) (.cell (s.box (i:=3) rfl (j:=3) rfl) (.cell (s.box (i:=3) rfl (j:=4) rfl) .nil))))))) .nil fun a11 hf11=>?_
  obtain ⟨r2,hd2,hr4⟩:=bind_some hr3
  refine c_call hf11 (f125_ok fuel  r2 hd2 z2 _ _ hS9 ) ?_
  rintro v20 ww5 a12 ⟨z3,e2,k3,rfl,hS10,hx3⟩ hf12
  refine ⟨fun _=>Sub.of k3 hS10,?_⟩
  have s2:=Sub.of k3 hS10
  refine p_lookup (i:=3) (d:=(some 20)) (t:=164) (o:=e2) (k:=x1k) (c:=false) (z:=zrow) (D:=r2) hf12 (by kernel_rfl) mp164 (MapR.look hx3 hS10) fun a13 hf13=>⟨fun _=>Sub.of k3 hS10,?_⟩
  have s3:=Sub.of k3 hS10
  refine c_S 1 [] [4,21,22,23] s3 hf13 (fun _ s=> .nil) .nil fun a14 hf14=>?_
  rcases bft ((lkK r2 x1k zrow).fn == some 138) with hb2 | hb2
  ·have hr5:=cond_t hb2 hr4
   have hf15:Fr _ 25 [(4,pB b2 0),(21, .func (.func 138) #[] #[]),(22,pB b_x0 0),(23, .agg #[vI x1k,vI x1o,vI x1f,vI x1t,vI x1m])]:=Fr.conv hf14.to (congrArg (fun z=>([(4,pB b2 0),(21,fnV z),(22,pB b_x0 0),(23, .agg #[vI x1k,vI x1o,vI x1f,vI x1t,vI x1m])]:FL)) (eq_of_beq hb2))
   have hS11:=St.swapTo (i:=5) (j:=0) (St.addEmp hS10) rfl rfl (by decide)
   have hS12:=hS11
   obtain ⟨r3,hd3,hr6⟩:=bind_some hr5
   refine c_call hf15 (f138_ok fuel x0 x1k x1o x1f x1t x1m r3 hd3 z3 _ _ b_x0 hS12 ) ?_
   rintro v21 ww6 a15 ⟨z4,e3,q2,e4,k4,rfl,hS13,hx4,hx5⟩ hf16
   have hS14:=St.swapTo (i:=0) (j:=5) hS13 rfl rfl (by decide)
   have hS15:=hS14
   refine ⟨fun e=>absurd e (by decide),?_⟩
   refine c_st 3 [.slice e3 r3.1.length q2, .map e4] hS15 hf16 rfl fun ww7 a16 hS16 hf17=>⟨fun e=>absurd e (by decide),?_⟩
   refine p_qP 1 [] [(4,pB b2 0),(5,vI 0)] [] hf17 (by kernel_rfl) (fun _=> .nil) fun a17 hf18=>?_
   refine c_dt ?_
   refine c_ret ?_
   refine c_rt [.slice e3 r3.1.length q2, .map e4] (.tuple #[.agg #[.slice e3 r3.1.length q2, .map e4],vI 0]) hf18 (.cell (hS16.box (i:=3) rfl (j:=0) rfl) (.cell (hS16.box (i:=3) rfl (j:=1) rfl) .nil)) ?_
   obtain rfl:=some_eq hr6
   exact ⟨_,rfl,z4,e3,q2,e4,(zt (zt k2 k3) k4),rfl,(St.pick 6 [5] hS16 (by kernel_rfl)),hx4,hx5⟩
  ·have hr7:=cond_f hb2 hr4
   rcases bft ((lkK r2 x1k zrow).fn == some 139) with hb3 | hb3
   ·have hr8:=cond_t hb3 hr7
    have hf19:Fr _ 25 [(4,pB b2 0),(21, .func (.func 139) #[] #[]),(22,pB b_x0 0),(23, .agg #[vI x1k,vI x1o,vI x1f,vI x1t,vI x1m])]:=Fr.conv hf14.to (congrArg (fun z=>([(4,pB b2 0),(21,fnV z),(22,pB b_x0 0),(23, .agg #[vI x1k,vI x1o,vI x1f,vI x1t,vI x1m])]:FL)) (eq_of_beq hb3))
    have hS17:=St.swapTo (i:=5) (j:=0) (St.addEmp hS10) rfl rfl (by decide)
    have hS18:=hS17
    obtain ⟨r4,hd4,hr9⟩:=bind_some hr8
    refine c_call hf19 (f139_ok fuel x0 x1k x1o x1f x1t x1m r4 hd4 z3 _ _ b_x0 hS18 ) ?_
    rintro v22 ww8 a18 ⟨z5,e5,q3,e6,k5,rfl,hS19,hx6,hx7⟩ hf20
    have hS20:=St.swapTo (i:=0) (j:=5) hS19 rfl rfl (by decide)
    have hS21:=hS20
    refine ⟨fun e=>absurd e (by decide),?_⟩
    refine c_st 3 [.slice e5 r4.1.length q3, .map e6] hS21 hf20 rfl fun ww9 a19 hS22 hf21=>⟨fun e=>absurd e (by decide),?_⟩
    refine p_qP 1 [] [(4,pB b2 0),(5,vI 0)] [] hf21 (by kernel_rfl) (fun _=> .nil) fun a20 hf22=>?_
    refine c_dt ?_
    refine c_ret ?_
    refine c_rt [.slice e5 r4.1.length q3, .map e6] (.tuple #[.agg #[.slice e5 r4.1.length q3, .map e6],vI 0]) hf22 (.cell (hS22.box (i:=3) rfl (j:=0) rfl) (.cell (hS22.box (i:=3) rfl (j:=1) rfl) .nil)) ?_
    obtain rfl:=some_eq hr9
    exact ⟨_,rfl,z5,e5,q3,e6,(zt (zt k2 k3) k5),rfl,(St.pick 6 [5] hS22 (by kernel_rfl)),hx6,hx7⟩
   ·have hr10:=cond_f hb3 hr7
    rcases bft ((lkK r2 x1k zrow).fn == some 140) with hb4 | hb4
    ·have hr11:=cond_t hb4 hr10
     have hf23:Fr _ 25 [(4,pB b2 0),(21, .func (.func 140) #[] #[]),(22,pB b_x0 0),(23, .agg #[vI x1k,vI x1o,vI x1f,vI x1t,vI x1m])]:=Fr.conv hf14.to (congrArg (fun z=>([(4,pB b2 0),(21,fnV z),(22,pB b_x0 0),(23, .agg #[vI x1k,vI x1o,vI x1f,vI x1t,vI x1m])]:FL)) (eq_of_beq hb4))
     have hS23:=St.swapTo (i:=5) (j:=0) (St.addEmp hS10) rfl rfl (by decide)
     have hS24:=hS23
     obtain ⟨r5,hd5,hr12⟩:=bind_some hr11
     refine c_call hf23 (f140_ok fuel x0 x1k x1o x1f x1t x1m r5 hd5 z3 _ _ b_x0 hS24 ) ?_
     rintro v23 ww10 a21 ⟨z6,e7,q4,e8,k6,rfl,hS25,hx8,hx9⟩ hf24
     have hS26:=St.swapTo (i:=0) (j:=5) hS25 rfl rfl (by decide)
     have hS27:=hS26
     refine ⟨fun e=>absurd e (by decide),?_⟩
     refine c_st 3 [.slice e7 r5.1.length q4, .map e8] hS27 hf24 rfl fun ww11 a22 hS28 hf25=>⟨fun e=>absurd e (by decide),?_⟩
     refine p_qP 1 [] [(4,pB b2 0),(5,vI 0)] [] hf25 (by kernel_rfl) (fun _=> .nil) fun a23 hf26=>?_
     refine c_dt ?_
     refine c_ret ?_
     refine c_rt [.slice e7 r5.1.length q4, .map e8] (.tuple #[.agg #[.slice e7 r5.1.length q4, .map e8],vI 0]) hf26 (.cell (hS28.box (i:=3) rfl (j:=0) rfl) (.cell (hS28.box (i:=3) rfl (j:=1) rfl) .nil)) ?_
     obtain rfl:=some_eq hr12
     exact ⟨_,rfl,z6,e7,q4,e8,(zt (zt k2 k3) k6),rfl,(St.pick 6 [5] hS28 (by kernel_rfl)),hx8,hx9⟩
    ·have hr13:=cond_f hb4 hr10
     rcases bft ((lkK r2 x1k zrow).fn == some 141) with hb5 | hb5
     ·have hr14:=cond_t hb5 hr13
      have hf27:Fr _ 25 [(4,pB b2 0),(21, .func (.func 141) #[] #[]),(22,pB b_x0 0),(23, .agg #[vI x1k,vI x1o,vI x1f,vI x1t,vI x1m])]:=Fr.conv hf14.to (congrArg (fun z=>([(4,pB b2 0),(21,fnV z),(22,pB b_x0 0),(23, .agg #[vI x1k,vI x1o,vI x1f,vI x1t,vI x1m])]:FL)) (eq_of_beq hb5))
      have hS29:=St.swapTo (i:=5) (j:=0) (St.addEmp hS10) rfl rfl (by decide)
      have hS30:=hS29
      obtain ⟨r6,hd6,hr15⟩:=bind_some hr14
      refine c_call hf27 (f141_ok fuel x0 x1k x1o x1f x1t x1m r6 hd6 z3 _ _ b_x0 hS30 ) ?_
      rintro v24 ww12 a24 ⟨z7,e9,q5,e10,k7,rfl,hS31,hx10,hx11⟩ hf28
      have hS32:=St.swapTo (i:=0) (j:=5) hS31 rfl rfl (by decide)
      have hS33:=hS32
      refine ⟨fun e=>absurd e (by decide),?_⟩
      refine c_st 3 [.slice e9 r6.1.length q5, .map e10] hS33 hf28 rfl fun ww13 a25 hS34 hf29=>⟨fun e=>absurd e (by decide),?_⟩
      refine p_qP 1 [] [(4,pB b2 0),(5,vI 0)] [] hf29 (by kernel_rfl) (fun _=> .nil) fun a26 hf30=>?_
      refine c_dt ?_
      refine c_ret ?_
      refine c_rt [.slice e9 r6.1.length q5, .map e10] (.tuple #[.agg #[.slice e9 r6.1.length q5, .map e10],vI 0]) hf30 (.cell (hS34.box (i:=3) rfl (j:=0) rfl) (.cell (hS34.box (i:=3) rfl (j:=1) rfl) .nil)) ?_
      obtain rfl:=some_eq hr15
      exact ⟨_,rfl,z7,e9,q5,e10,(zt (zt k2 k3) k7),rfl,(St.pick 6 [5] hS34 (by kernel_rfl)),hx10,hx11⟩
     ·have hr16:=cond_f hb5 hr13
      rcases bft ((lkK r2 x1k zrow).fn == some 142) with hb6 | hb6
      ·have hr17:=cond_t hb6 hr16
       have hf31:Fr _ 25 [(4,pB b2 0),(21, .func (.func 142) #[] #[]),(22,pB b_x0 0),(23, .agg #[vI x1k,vI x1o,vI x1f,vI x1t,vI x1m])]:=Fr.conv hf14.to (congrArg (fun z=>([(4,pB b2 0),(21,fnV z),(22,pB b_x0 0),(23, .agg #[vI x1k,vI x1o,vI x1f,vI x1t,vI x1m])]:FL)) (eq_of_beq hb6))
       have hS35:=St.swapTo (i:=5) (j:=0) (St.addEmp hS10) rfl rfl (by decide)
       have hS36:=hS35
       obtain ⟨r7,hd7,hr18⟩:=bind_some hr17
       refine c_call hf31 (f142_ok fuel x0 x1k x1o x1f x1t x1m r7 hd7 z3 _ _ b_x0 hS36 ) ?_
       rintro v25 ww14 a27 ⟨z8,e11,q6,e12,k8,rfl,hS37,hx12,hx13⟩ hf32
       have hS38:=St.swapTo (i:=0) (j:=5) hS37 rfl rfl (by decide)
       have hS39:=hS38
       refine ⟨fun e=>absurd e (by decide),?_⟩
       refine c_st 3 [.slice e11 r7.1.length q6, .map e12] hS39 hf32 rfl fun ww15 a28 hS40 hf33=>⟨fun e=>absurd e (by decide),?_⟩
       refine p_qP 1 [] [(4,pB b2 0),(5,vI 0)] [] hf33 (by kernel_rfl) (fun _=> .nil) fun a29 hf34=>?_
       refine c_dt ?_
       refine c_ret ?_
       refine c_rt [.slice e11 r7.1.length q6, .map e12] (.tuple #[.agg #[.slice e11 r7.1.length q6, .map e12],vI 0]) hf34 (.cell (hS40.box (i:=3) rfl (j:=0) rfl) (.cell (hS40.box (i:=3) rfl (j:=1) rfl) .nil)) ?_
       obtain rfl:=some_eq hr18
       exact ⟨_,rfl,z8,e11,q6,e12,(zt (zt k2 k3) k8),rfl,(St.pick 6 [5] hS40 (by kernel_rfl)),hx12,hx13⟩
      ·have hr19:=cond_f hb6 hr16
       rcases bft ((lkK r2 x1k zrow).fn == some 143) with hb7 | hb7
       ·have hr20:=cond_t hb7 hr19
        have hf35:Fr _ 25 [(4,pB b2 0),(21, .func (.func 143) #[] #[]),(22,pB b_x0 0),(23, .agg #[vI x1k,vI x1o,vI x1f,vI x1t,vI x1m])]:=Fr.conv hf14.to (congrArg (fun z=>([(4,pB b2 0),(21,fnV z),(22,pB b_x0 0),(23, .agg #[vI x1k,vI x1o,vI x1f,vI x1t,vI x1m])]:FL)) (eq_of_beq hb7))
        have hS41:=St.swapTo (i:=5) (j:=0) (St.addEmp hS10) rfl rfl (by decide)
        have hS42:=hS41
        obtain ⟨r8,hd8,hr21⟩:=bind_some hr20
        refine c_call hf35 (f143_ok fuel x0 x1k x1o x1f x1t x1m r8 hd8 z3 _ _ b_x0 hS42 ) ?_
        rintro v26 ww16 a30 ⟨z9,e13,q7,e14,k9,rfl,hS43,hx14,hx15⟩ hf36
        have hS44:=St.swapTo (i:=0) (j:=5) hS43 rfl rfl (by decide)
        have hS45:=hS44
        refine ⟨fun e=>absurd e (by decide),?_⟩
        refine c_st 3 [.slice e13 r8.1.length q7, .map e14] hS45 hf36 rfl fun ww17 a31 hS46 hf37=>⟨fun e=>absurd e (by decide),?_⟩
        refine p_qP 1 [] [(4,pB b2 0),(5,vI 0)] [] hf37 (by kernel_rfl) (fun _=> .nil) fun a32 hf38=>?_
        refine c_dt ?_
        refine c_ret ?_
        refine c_rt [.slice e13 r8.1.length q7, .map e14] (.tuple #[.agg #[.slice e13 r8.1.length q7, .map e14],vI 0]) hf38 (.cell (hS46.box (i:=3) rfl (j:=0) rfl) (.cell (hS46.box (i:=3) rfl (j:=1) rfl) .nil)) ?_
        obtain rfl:=some_eq hr21
        exact ⟨_,rfl,z9,e13,q7,e14,(zt (zt k2 k3) k9),rfl,(St.pick 6 [5] hS46 (by kernel_rfl)),hx14,hx15⟩
       ·have hr22:=cond_f hb7 hr19
        cases hr22
def F97 (fuel:Nat) (x0:Int) (x1p:List Part) (x1y:List (Int×Bool)) (x2:Pl):Option (Pl) :=
  (some (x2))
set_option maxRecDepth 100000 in
theorem f97_ok (fuel:Nat) (x0:Int) (x1p:List Part) (x1y:List (Int×Bool)) (x2:Pl) (r:Pl) (hr:F97 fuel x0 x1p x1y x2=some r) (h:Zone) (L:List Atom) (w:World) (b_x2:Nat) (hS:St h (plA 126 40 117 b_x2 x2::L) w) (o_x1p:Option Addr) (c_x1p:Nat) (hx_x1p:SliceR PartT h o_x1p c_x1p x1p) (o_x1y:Option Nat) (hx_x1y:MapR Value.bool h o_x1y x1y) :
    Calls Try.prog 97 #[vI x0, .agg #[.slice o_x1p x1p.length c_x1p, .map o_x1y],pB b_x2 0] w fun e w'=>∃v,e= .returned v∧(∃h',Zone.le h h'∧v= .tuple #[]∧St h' (plA 126 40 117 b_x2 r::L) w'):=by
 refine calls_intro (N:=6) Try.func97 (by kernel_rfl) fun a hf=>?_
 refine c_reg ?_
 refine c_box [.slice o_x1p x1p.length c_x1p, .map o_x1y] 119 hS hf fun b1 ww1 a1 hS1 hf1=>⟨fun _=>trivial,?_⟩
 refine c_done ?_
 refine c_fall [] (.tuple #[]) hf1 .nil ?_
 obtain rfl:=some_eq hr
 exact ⟨_,rfl,h,zr,rfl,(St.pick 2 [1] hS1 (by kernel_rfl))⟩
def F38_j1 (fuel:Nat) (y1:Option Pl) (y2:Int) (y3:Int):Option (List Lot×List (List (List Part))×Int×Int) :=
  (cond (y3 != (0:Int)) (some ([],[[],[],[],[],[],[],[],[],[]],y2,y3)) ((y1).bind fun p1=>((F83 fuel p1.lots p1.holds).bind fun r1=>(some (r1.1,r1.2,y2,0)))))
def F38_l1 (fuel:Nat) (x1:List Deed):Nat→Pl→Int→Option (List Lot×List (List (List Part))×Int×Int)
  | 0,_,_=>none
  | n1 + 1,y4,y5 =>
    let k1:Pl→Int→Option (List Lot×List (List (List Part))×Int×Int):=F38_l1 fuel x1 n1
    (cond (decide (y5<(x1.length:Int))) ((getI x1 y5).bind fun p2=>((F82 fuel y4 p2.kind p2.lot p2.frm p2.to p2.mass).bind fun r2=>(cond (r2.2.2.1 != (0:Int)) (F38_j1 fuel none y5 r2.2.2.1) ((F97 fuel y5 r2.1 r2.2.1 r2.2.2.2).bind fun r3=>(k1 r3 (w64 (y5 + (1:Int)))))))) (F38_j1 fuel (some y4) (x1.length:Int) 0))
def F38 (fuel:Nat) (x0:List Lot) (x1:List Deed):Option (List Lot×List (List (List Part))×Int×Int) :=
  ((F110 fuel x0 x1).bind fun r4=>(cond (r4 != (0:Int)) (F38_j1 fuel none 0 r4) ((F81 fuel x0 ([[],[],[],[],[],[],[],[],[]])).bind fun r5=>(F38_l1 fuel x1 fuel r5 0))))
set_option maxRecDepth 100000 in
theorem f38_ok (fuel:Nat) (x0:List Lot) (x1:List Deed) (r:List Lot×List (List (List Part))×Int×Int) (hr:F38 fuel x0 x1=some r) (h:Zone) (L:List Atom) (w:World) (hS:St h L w) (o_x0:Option Addr) (c_x0:Nat) (hx_x0:SliceR LotT h o_x0 c_x0 x0) (o_x1:Option Addr) (c_x1:Nat) (hx_x1:SliceR DeedT h o_x1 c_x1 x1) :
    Calls Try.prog 38 #[.slice o_x0 x0.length c_x0, .slice o_x1 x1.length c_x1] w fun e w'=>∃v,e= .returned v∧(∃h',∃o0:Option Addr,∃c0:Nat,∃v1_0:Value,∃v1_1:Value,∃v1_2:Value,∃v1_3:Value,∃v1_4:Value,∃v1_5:Value,∃v1_6:Value,∃v1_7:Value,∃v1_8:Value,Zone.le h h'∧v= .tuple #[.agg #[.slice o0 r.1.length c0,v1_0,v1_1,v1_2,v1_3,v1_4,v1_5,v1_6,v1_7,v1_8],vI r.2.2.1,vI r.2.2.2]∧St h' L w'∧SliceR LotT h' o0 c0 r.1∧(Ty.arr 9 (Ty.slice (Ty.slice PartT))).rep h' [v1_0,v1_1,v1_2,v1_3,v1_4,v1_5,v1_6,v1_7,v1_8] r.2.1):=by
 refine calls_intro (N:=28) Try.func38 (by kernel_rfl) fun a hf=>?_
 refine c_sr ?_
 refine c_box [.slice none 0 0, .slice none 0 0, .slice none 0 0, .slice none 0 0, .slice none 0 0, .slice none 0 0, .slice none 0 0, .slice none 0 0, .slice none 0 0, .slice none 0 0] 26 hS hf fun b1 ww1 a1 hS1 hf1=>⟨fun _=>trivial,?_⟩
 refine c_t [] [0,1,4] hf1 .nil fun a2 hf2=>?_
 refine c_sr ?_
 refine c_n 2 [] [4,11,12] hf2 .nil fun a3 hf3=>?_
 refine c_call (f:=96) (args:= #[.slice o_x0 x0.length c_x0, .slice o_x1 x1.length c_x1, .func (.func 97) #[] #[]]) (Φ:=fun v w=>∃z1:Zone,∃y1:Option Pl,∃y2:Int,∃y3:Int,∃p3:Option Addr,Zone.le h z1∧v= .tuple #[.pointer p3,vI y2,vI y3]∧St z1 (plO 126 40 117 p3 y1::box b1 [.slice none 0 0, .slice none 0 0, .slice none 0 0, .slice none 0 0, .slice none 0 0, .slice none 0 0, .slice none 0 0, .slice none 0 0, .slice none 0 0, .slice none 0 0] 26::L) w∧(F38_j1 fuel y1 y2 y3)=some r) hf3 ?_ ?_
 ·refine calls_intro (N:=50) Try.func96 (by kernel_rfl) fun a4 hf4=>?_
  refine c_sq [] [0,1,2] hf4 .nil fun a5 hf5=>?_
  refine c_seq ?_
  refine c_sr ?_
  refine c_n 2 [] [0,1,2,15,16] hf5 .nil fun a6 hf6=>?_
  obtain ⟨r4,hd1,hr1⟩:=bind_some hr
  refine c_call hf6 (f110_ok fuel x0 x1 r4 hd1 h _ _ hS1 o_x0 c_x0 hx_x0 o_x1 c_x1 hx_x1) ?_
  rintro v1 ww2 a7 ⟨z2,k2,rfl,hS2⟩ hf7
  refine ⟨fun _=>trivial,?_⟩
  refine c_t [] [0,1,2,9] hf7 .nil fun a8 hf8=>?_
  refine c_sq [] [0,1,2,9,19] hf8 .nil fun a9 hf9=>?_
  refine c_if (r4 != (0:Int)) hf9 (fun hb1=>?_) (fun hb1=>?_)
  ·have hr2:=cond_t hb1 hr1
   refine c_sq [] [6,7,8] hf9 .nil fun a10 hf10=>?_
   refine c_ret ?_
   refine r_then ?_
   refine c_rt [] (.tuple #[.pointer none,vI 0,vI r4]) hf10 .nil ?_
   have hS3:=hS2.plNone 126 40 117
   exact ⟨_,rfl,z2,none,0,r4,none,k2,rfl,(St.pick 1 [0] hS3 (by kernel_rfl)),hr2⟩
  ·have hr3:=cond_f hb1 hr1
   refine c_skip ?_
   refine n_then ?_
   refine c_sr ?_
   refine c_n 2 [] [1,2,22] hf9 .nil fun a11 hf11=>?_
   obtain ⟨r5,hd2,hr4⟩:=bind_some hr3
   refine c_call hf11 (f81_ok fuel x0 ([[],[],[],[],[],[],[],[],[]]) r5 hd2 z2 _ _ hS2 o_x0 c_x0 (SliceR.mono k2 hx_x0) (.slice none 0 0) (.slice none 0 0) (.slice none 0 0) (.slice none 0 0) (.slice none 0 0) (.slice none 0 0) (.slice none 0 0) (.slice none 0 0) (.slice none 0 0) ⟨rfl,(Rows.cons (c:=[_]) (sliceRep (SliceR.nil' _ _)) (Rows.cons (c:=[_]) (sliceRep (SliceR.nil' _ _)) (Rows.cons (c:=[_]) (sliceRep (SliceR.nil' _ _)) (Rows.cons (c:=[_]) (sliceRep (SliceR.nil' _ _)) (Rows.cons (c:=[_]) (sliceRep (SliceR.nil' _ _)) (Rows.cons (c:=[_]) (sliceRep (SliceR.nil' _ _)) (Rows.cons (c:=[_]) (sliceRep (SliceR.nil' _ _)) (Rows.cons (c:=[_]) (sliceRep (SliceR.nil' _ _)) (Rows.cons (c:=[_]) (sliceRep (SliceR.nil' _ _)) rfl)))))))))⟩) ?_
   rintro v2 ww3 a12 ⟨z3,b2,k3,rfl,hS4⟩ hf12
   refine ⟨fun _=>trivial,?_⟩
   refine c_t [] [1,2,10] hf12 .nil fun a13 hf13=>?_
   refine c_seq ?_
   refine c_sq [] [1,2,10,24,25,26] hf13 .nil fun a14 hf14=>?_
   refine c_block 0 ?_
   refine c_loop (fun n a w=>∃z4:Zone,∃y4:Pl,∃y5:Int,Zone.le z3 z4∧Fr a 50 [(1, .slice o_x1 x1.length c_x1),(2, .func (.func 97) #[] #[]),(10,pB b2 0),(24, .slice o_x1 x1.length c_x1),(25,vI (x1.length:Int)),(26,vI y5)]∧St z4 (plA 126 40 117 b2 y4::box b1 [.slice none 0 0, .slice none 0 0, .slice none 0 0, .slice none 0 0, .slice none 0 0, .slice none 0 0, .slice none 0 0, .slice none 0 0, .slice none 0 0, .slice none 0 0] 26::L) w∧(F38_l1 fuel x1 n y4 y5)=some r) fuel ⟨z3,r5,0,zr,hf14.to,hS4,hr4⟩ ?_
   rintro n2 a15 ww4 ⟨z4,y4,y5,k4,hf16,hS5,hr5⟩
   cases n2 with
   | zero=>cases hr5
   | succ n1 =>
   refine c_sq [] [1,2,10,24,25,26,27] hf16 .nil fun a16 hf17=>?_
   refine c_seq ?_
   refine c_if (decide (y5<(x1.length:Int))) hf17 (fun hb2=>?_) (fun hb2=>?_)
   ·have hr6:=cond_t hb2 hr5
    refine c_skip ?_
    refine n_then ?_
    refine c_seq ?_
    refine c_block 1 ?_
    refine c_sr ?_
    obtain ⟨p2,hp3393,hr7⟩:=bind_some hr6
    obtain ⟨ad1,ho1,hb3,cc1,hc1,hk1⟩:=SliceR.getI (SliceR.mono (zt (zt k2 k3) k4) hx_x1) hp3393
    subst hc1
    refine c_n 3 [.pointer (some ad1),vI p2.kind,vI p2.lot,vI p2.frm,vI p2.to,vI p2.mass] [1,2,10,24,25,26,28,30] hf17 (.prop ho1 (.prop hb3 (.cell (hS5.cell (hk1 0 _ rfl)) (.cell (hS5.cell (hk1 1 _ rfl)) (.cell (hS5.cell (hk1 2 _ rfl)) (.cell (hS5.cell (hk1 3 _ rfl)) (.cell (hS5.cell (hk1 4 _ rfl)) .nil))))))) fun a17 hf18=>?_
    refine c_box [vI 0,vI 0,vI 0,vI 0,vI 0] 28 hS5 hf18 fun b3 ww5 a18 hS6 hf19=>⟨fun _=>trivial,?_⟩
    refine c_n 1 [] [1,2,10,11,12,24,25,26,30] hf19 .nil fun a19 hf20=>?_
    refine c_st 0 [vI p2.kind,vI p2.lot,vI p2.frm,vI p2.to,vI p2.mass] hS6 hf20 rfl fun ww6 a20 hS7 hf21=>⟨fun _=>trivial,?_⟩
    refine c_dt ?_
    refine c_sr ?_
    refine c_n 2 [vI p2.kind,vI p2.lot,vI p2.frm,vI p2.to,vI p2.mass] [1,2,10,11,24,25,26,32,33] hf21 (.cell (hS7.box (i:=0) rfl (j:=0) rfl) (.cell (hS7.box (i:=0) rfl (j:=1) rfl) (.cell (hS7.box (i:=0) rfl (j:=2) rfl) (.cell (hS7.box (i:=0) rfl (j:=3) rfl) (.cell (hS7.box (i:=0) rfl (j:=4) rfl) .nil))))) fun a21 hf22=>?_
    have hS8:=St.swapTo (i:=2) (j:=0) (St.addEmp hS7) rfl rfl (by decide)
    have hS9:=hS8
    obtain ⟨r2,hd3,hr8⟩:=bind_some hr7
    refine c_call hf22 (f82_ok fuel y4 p2.kind p2.lot p2.frm p2.to p2.mass r2 hd3 z4 _ _ b2 hS9 ) ?_
    rintro v3 ww7 a22 ⟨z5,e1,q1,e2,k5,rfl,hS10,hx1,hx2⟩ hf23
    have hS11:=St.swapTo (i:=0) (j:=2) hS10 rfl rfl (by decide)
    have hS12:=hS11
    refine ⟨fun _=>trivial,?_⟩
    refine c_n 3 [] [1,2,10,11,24,25,26,35,36] hf23 .nil fun a23 hf24=>?_
    refine c_box [.slice none 0 0, .map none] 119 hS12 hf24 fun b4 ww8 a24 hS13 hf25=>⟨fun _=>trivial,?_⟩
    refine c_st 0 [.slice e1 r2.1.length q1, .map e2] hS13 hf25 rfl fun ww9 a25 hS14 hf26=>⟨fun _=>trivial,?_⟩
    refine c_t [] [1,2,10,11,13,14,24,25,26] hf26 .nil fun a26 hf27=>?_
    refine c_seq ?_
    refine c_sq [] [1,2,10,11,13,14,24,25,26,38] hf27 .nil fun a27 hf28=>?_
    refine c_if (r2.2.2.1 != (0:Int)) hf28 (fun hb4=>?_) (fun hb4=>?_)
    ·have hr9:=cond_t hb4 hr8
     refine c_sq [] [6,7,8] hf28 .nil fun a28 hf29=>?_
     refine c_ret ?_
     refine r_then ?_
     refine r_block ?_
     refine r_then ?_
     refine r_then ?_
     refine r_block ?_
     refine r_then ?_
     refine c_rt [] (.tuple #[.pointer none,vI y5,vI r2.2.2.1]) hf29 .nil ?_
     have hS15:=hS14.plNone 126 40 117
     exact ⟨_,rfl,z5,none,y5,r2.2.2.1,none,(zt (zt (zt k2 k3) k4) k5),rfl,(St.pick 5 [0] hS15 (by kernel_rfl)),hr9⟩
    ·have hr10:=cond_f hb4 hr8
     refine c_skip ?_
     refine n_then ?_
     refine c_reg ?_
     refine c_n 4 [.slice e1 r2.1.length q1, .map e2] [1,2,10,24,25,26,41,42,43,44] hf28 (.cell (hS14.box (i:=0) rfl (j:=0) rfl) (.cell (hS14.box (i:=0) rfl (j:=1) rfl) .nil)) fun a29 hf30=>?_
     have hS16:=St.swapTo (i:=4) (j:=0) (St.addEmp hS14) rfl rfl (by decide)
     have hS17:=hS16
     obtain ⟨r3,hd4,hr11⟩:=bind_some hr10
     refine c_call hf30 (f97_ok fuel y5 r2.1 r2.2.1 r2.2.2.2 r3 hd4 z5 _ _ b2 hS17 e1 q1 hx1 e2 hx2) ?_
     rintro v4 ww10 a30 ⟨z6,k6,rfl,hS18⟩ hf31
     have hS19:=St.swapTo (i:=0) (j:=4) hS18 rfl rfl (by decide)
     have hS20:=hS19
     refine ⟨fun _=>trivial,?_⟩
     refine c_done ?_
     refine n_block ?_
     refine n_then ?_
     refine c_q [] [1,2,10,24,25,26] hf31 .nil fun a31 hf32=>?_
     refine n_then ?_
     exact ⟨n1,Nat.lt_succ_self n1,z6,r3,(w64 (y5 + (1:Int))),(zt (zt k4 k5) k6),hf32.to,(St.drop 4 hS20),hr11⟩
   ·have hr12:=cond_f hb2 hr5
    refine c_exit 0 ?_
    refine x_then ?_
    refine x_then ?_
    refine x_block ?_
    refine n_then ?_
    refine c_sq [] [6,7,8] hf17 .nil fun a32 hf34=>?_
    refine c_ret ?_
    refine c_rt [] (.tuple #[pB b2 0,vI (x1.length:Int),vI 0]) hf34 .nil ?_
    have hS21:=hS5.plSome (i:=0) rfl
    exact ⟨_,rfl,z4,(some y4),(x1.length:Int),0,(some ⟨b2,0,none⟩),(zt (zt k2 k3) k4),rfl,(St.pick 1 [0] hS21 (by kernel_rfl)),hr12⟩
 ·rintro v5 ww11 a33 ⟨z1,y1,y2,y3,p3,k7,rfl,hS22,hr13⟩ hf35
  refine ⟨fun _=>trivial,?_⟩
  refine c_t [] [4,7,8,9] hf35 .nil fun a34 hf36=>?_
  refine c_seq ?_
  refine c_sq [] [4,7,8,9,18] hf36 .nil fun a35 hf37=>?_
  refine c_if (y3 != (0:Int)) hf37 (fun hb5=>?_) (fun hb5=>?_)
  ·have hr14:=cond_t hb5 hr13
   refine c_sr ?_
   refine c_n 3 [] [4,19,20,21] hf37 .nil fun a36 hf38=>?_
   refine c_st 1 [.slice none 0 0, .slice none 0 0, .slice none 0 0, .slice none 0 0, .slice none 0 0, .slice none 0 0, .slice none 0 0, .slice none 0 0, .slice none 0 0, .slice none 0 0] hS22 hf38 rfl fun ww12 a37 hS23 hf39=>⟨fun _=>trivial,?_⟩
   refine c_t [] [4,5,6] hf39 .nil fun a38 hf40=>?_
   refine c_ret ?_
   refine r_then ?_
   refine c_rt [.slice none 0 0, .slice none 0 0, .slice none 0 0, .slice none 0 0, .slice none 0 0, .slice none 0 0, .slice none 0 0, .slice none 0 0, .slice none 0 0, .slice none 0 0] (.tuple #[.agg #[.slice none 0 0, .slice none 0 0, .slice none 0 0, .slice none 0 0, .slice none 0 0, .slice none 0 0, .slice none 0 0, .slice none 0 0, .slice none 0 0, .slice none 0 0],vI y2,vI y3]) hf40 (.cell (hS23.box (i:=1) rfl (j:=0) rfl) (.cell (hS23.box (i:=1) rfl (j:=1) rfl) (.cell (hS23.box (i:=1) rfl (j:=2) rfl) (.cell (hS23.box (i:=1) rfl (j:=3) rfl) (.cell (hS23.box (i:=1) rfl (j:=4) rfl) (.cell (hS23.box (i:=1) rfl (j:=5) rfl) (.cell (hS23.box (i:=1) rfl (j:=6) rfl) (.cell (hS23.box (i:=1) rfl (j:=7) rfl) (.cell (hS23.box (i:=1) rfl (j:=8) rfl) (.cell (hS23.box (i:=1) rfl (j:=9) rfl) .nil)))))))))) ?_
   obtain rfl:=some_eq hr14
   exact ⟨_,rfl,z1,none,0, .slice none 0 0, .slice none 0 0, .slice none 0 0, .slice none 0 0, .slice none 0 0, .slice none 0 0, .slice none 0 0, .slice none 0 0, .slice none 0 0,k7,rfl,(St.drop 2 hS23),SliceR.nil' _ _,⟨rfl,(Rows.cons (c:=[_]) (sliceRep (SliceR.nil' _ _)) (Rows.cons (c:=[_]) (sliceRep (SliceR.nil' _ _)) (Rows.cons (c:=[_]) (sliceRep (SliceR.nil' _ _)) (Rows.cons (c:=[_]) (sliceRep (SliceR.nil' _ _)) (Rows.cons (c:=[_]) (sliceRep (SliceR.nil' _ _)) (Rows.cons (c:=[_]) (sliceRep (SliceR.nil' _ _)) (Rows.cons (c:=[_]) (sliceRep (SliceR.nil' _ _)) (Rows.cons (c:=[_]) (sliceRep (SliceR.nil' _ _)) (Rows.cons (c:=[_]) (sliceRep (SliceR.nil' _ _)) rfl)))))))))⟩⟩
  ·have hr15:=cond_f hb5 hr13
   refine c_skip ?_
   refine n_then ?_
   refine c_seq ?_
   obtain ⟨p1,hp3524,hr16⟩:=bind_some hr15
   rw [hp3524] at hS22
   obtain ⟨b5,he1,hS24⟩:=hS22.plGet (i:=0) rfl
   subst he1
   obtain ⟨e3,q2,v6,v7,v8,v9,v10,v11,v12,v13,v14,v15,v16,v17,v18,v19,v20,v21,v22,v23,hx3,hS25⟩:=hS24.plOpen (i:=0) rfl
   refine c_reg ?_
   refine c_n 4 [.slice e3 p1.lots.length q2,v6,v7,v8,v9,v10,v11,v12,v13,v14] [4,8,25] hf37 (.cell (hS25.box (i:=2) rfl (j:=0) rfl) (.cell (hS25.box (i:=2) rfl (j:=1) rfl) (.cell (hS25.box (i:=2) rfl (j:=2) rfl) (.cell (hS25.box (i:=2) rfl (j:=3) rfl) (.cell (hS25.box (i:=2) rfl (j:=4) rfl) (.cell (hS25.box (i:=2) rfl (j:=5) rfl) (.cell (hS25.box (i:=2) rfl (j:=6) rfl) (.cell (hS25.box (i:=2) rfl (j:=7) rfl) (.cell (hS25.box (i:=2) rfl (j:=8) rfl) (.cell (hS25.box (i:=2) rfl (j:=9) rfl) .nil)))))))))) fun a39 hf41=>?_
   obtain ⟨z7,k8,hS26,hx4⟩:=hS25.ownShareN (j:=0) rfl (n:=9) rfl
   obtain ⟨r1,hd5,hr17⟩:=bind_some hr16
   refine c_call hf41 (f83_ok fuel p1.lots p1.holds r1 hd5 z7 _ _ hS26 e3 q2 (SliceR.mono k8 hx3) v6 v7 v8 v9 v10 v11 v12 v13 v14 (Ty.mono _ zr hx4)) ?_
   rintro v24 ww13 a40 ⟨z8,e4,q3,v25,v26,v27,v28,v29,v30,v31,v32,v33,k9,rfl,hS27,hx5⟩ hf42
   refine ⟨fun _=>trivial,?_⟩
   refine c_n 1 [] [4,26,27] hf42 .nil fun a41 hf43=>?_
   have hq1:=hS27.ownOnes (j:=0) rfl
   refine p_store_eq (i:=6) (j:=4) (b:=b1) (off:=0) (vs:=[.slice e4 r1.1.length q3,v25,v26,v27,v28,v29,v30,v31,v32,v33]) (cs':=[.slice e4 r1.1.length q3,v25,v26,v27,v28,v29,v30,v31,v32,v33]) hS27 hf43 rfl (by kernel_rfl) hq1 rfl fun ww14 a42 hS28 hf44=>⟨fun _=>trivial,?_⟩
   refine c_t [] [4,5,6] hf44 .nil fun a43 hf45=>?_
   refine c_ret ?_
   obtain ⟨z9,k10,hS29,hx6⟩:=hS28.ownShareN (j:=0) rfl (n:=9) rfl
   refine c_rt [.slice e4 r1.1.length q3,v25,v26,v27,v28,v29,v30,v31,v32,v33] (.tuple #[.agg #[.slice e4 r1.1.length q3,v25,v26,v27,v28,v29,v30,v31,v32,v33],vI y2,vI 0]) hf45 (.cell (hS29.box (i:=4) rfl (j:=0) rfl) (.cell (hS29.box (i:=4) rfl (j:=1) rfl) (.cell (hS29.box (i:=4) rfl (j:=2) rfl) (.cell (hS29.box (i:=4) rfl (j:=3) rfl) (.cell (hS29.box (i:=4) rfl (j:=4) rfl) (.cell (hS29.box (i:=4) rfl (j:=5) rfl) (.cell (hS29.box (i:=4) rfl (j:=6) rfl) (.cell (hS29.box (i:=4) rfl (j:=7) rfl) (.cell (hS29.box (i:=4) rfl (j:=8) rfl) (.cell (hS29.box (i:=4) rfl (j:=9) rfl) .nil)))))))))) ?_
   obtain rfl:=some_eq hr17
   exact ⟨_,rfl,z9,e4,q3,v25,v26,v27,v28,v29,v30,v31,v32,v33,(zt (zt (zt k7 k8) k9) k10),rfl,(St.drop 5 hS29),(SliceR.mono k10 hx5),(Ty.mono _ zr hx6)⟩
def F98_l1 (fuel:Nat) (x0:List Lot) (x1:List Int):Nat→Int→Option (Int)
  | 0,_=>none
  | n1 + 1,y1 =>
    let k1:Int→Option (Int):=F98_l1 fuel x0 x1 n1
    (cond (decide (y1<(x1.length:Int))) ((getI x1 y1).bind fun p1=>((F74 fuel x0 p1).bind fun r1=>(cond (!r1.2) (some (60)) (k1 (w64 (y1 + (1:Int))))))) (some (0)))
def F98 (fuel:Nat) (x0:List Lot) (x1:List Int):Option (Int) :=
  (F98_l1 fuel x0 x1 fuel 0)
set_option maxRecDepth 100000 in
theorem f98_ok (fuel:Nat) (x0:List Lot) (x1:List Int) (r:Int) (hr:F98 fuel x0 x1=some r) (h:Zone) (L:List Atom) (w:World) (hS:St h L w) (o_x0:Option Addr) (c_x0:Nat) (hx_x0:SliceR LotT h o_x0 c_x0 x0) (o_x1:Option Addr) (c_x1:Nat) (hx_x1:SliceR Ty.int h o_x1 c_x1 x1) :
    Calls Try.prog 98 #[.slice o_x0 x0.length c_x0, .slice o_x1 x1.length c_x1] w fun e w'=>∃v,e= .returned v∧(∃h',Zone.le h h'∧v=vI r∧St h' L w'):=by
 refine calls_intro (N:=24) Try.func98 (by kernel_rfl) fun a hf=>?_
 refine c_sq [] [0,1] hf .nil fun a1 hf1=>?_
 refine c_seq ?_
 refine c_sq [] [0,9,10,11] hf1 .nil fun a2 hf2=>?_
 refine c_block 0 ?_
 refine c_loop (fun n a w=>∃z1:Zone,∃y1:Int,Zone.le h z1∧Fr a 24 [(0, .slice o_x0 x0.length c_x0),(9, .slice o_x1 x1.length c_x1),(10,vI (x1.length:Int)),(11,vI y1)]∧St z1 (L) w∧(F98_l1 fuel x0 x1 n y1)=some r) fuel ⟨h,0,zr,hf2.to,hS,hr⟩ ?_
 rintro n2 a3 ww1 ⟨z1,y1,k2,hf4,hS1,hr1⟩
 cases n2 with
 | zero=>cases hr1
 | succ n1 =>
 refine c_sq [] [0,9,10,11,12] hf4 .nil fun a4 hf5=>?_
 refine c_seq ?_
 refine c_if (decide (y1<(x1.length:Int))) hf5 (fun hb1=>?_) (fun hb1=>?_)
 ·have hr2:=cond_t hb1 hr1
  refine c_skip ?_
  refine n_then ?_
  refine c_seq ?_
  refine c_block 1 ?_
  obtain ⟨p1,hp670,hr3⟩:=bind_some hr2
  obtain ⟨ad1,ho1,hb2,cc1,hc1,hk1⟩:=SliceR.getI (SliceR.mono k2 hx_x1) hp670
  subst hc1
  refine c_sq [.pointer (some ad1),vI p1] [0,6,9,10,11] hf5 (.prop ho1 (.prop hb2 (.cell (hS1.cell (hk1 0 _ rfl)) .nil))) fun a5 hf6=>?_
  refine c_sr ?_
  refine c_n 2 [] [0,9,10,11,16,17] hf6 .nil fun a6 hf7=>?_
  obtain ⟨r1,hd1,hr4⟩:=bind_some hr3
  refine c_call hf7 (f74_ok fuel x0 p1 r1 hd1 z1 _ _ hS1 o_x0 c_x0 (SliceR.mono k2 hx_x0)) ?_
  rintro v1 ww2 a7 ⟨z2,k3,rfl,hS2⟩ hf8
  refine ⟨fun _=>trivial,?_⟩
  refine c_t [] [0,8,9,10,11] hf8 .nil fun a8 hf9=>?_
  refine c_sq [] [0,9,10,11,22] hf9 .nil fun a9 hf10=>?_
  refine c_if (!r1.2) hf10 (fun hb3=>?_) (fun hb3=>?_)
  ·have hr5:=cond_t hb3 hr4
   refine c_sq [] [4] hf10 .nil fun a10 hf11=>?_
   refine c_ret ?_
   refine r_block ?_
   refine r_then ?_
   refine r_then ?_
   refine r_block ?_
   refine r_then ?_
   refine c_rt [] (vI 60) hf11 .nil ?_
   obtain rfl:=some_eq hr5
   exact ⟨_,rfl,z2,(zt k2 k3),rfl,hS2⟩
  ·have hr6:=cond_f hb3 hr4
   refine c_skip ?_
   refine n_block ?_
   refine n_then ?_
   refine c_q [] [0,9,10,11] hf10 .nil fun a11 hf12=>?_
   refine n_then ?_
   exact ⟨n1,Nat.lt_succ_self n1,z2,(w64 (y1 + (1:Int))),(zt k2 k3),hf12.to,hS2,hr6⟩
 ·have hr7:=cond_f hb1 hr1
  refine c_exit 0 ?_
  refine x_then ?_
  refine x_then ?_
  refine x_block ?_
  refine n_then ?_
  refine c_sq [] [4] hf5 .nil fun a12 hf14=>?_
  refine c_ret ?_
  refine c_rt [] (vI 0) hf14 .nil ?_
  obtain rfl:=some_eq hr7
  exact ⟨_,rfl,z1,k2,rfl,hS1⟩
def F40_j7 (y1:Int) (y2:Int):Option (Bool×Int×Int) :=
  (cond (y2 != (0:Int)) (some (false,0,y2)) (some ((decide (y1<(0:Int))),y1,0)))
def F40_j8 (y1:Int) (y3:Int) (y4:Bool):Option (Bool×Int×Int) :=
  (cond y4 (F40_j7 y1 1) (F40_j7 y1 y3))
def F40_j6 (x2:Int) (x3:Int) (y1:Int) (y3:Int):Option (Bool×Int×Int) :=
  (cond (y3 == (0:Int)) (F40_j8 y1 y3 (x2 == x3)) (F40_j8 y1 y3 false))
def F40_j1 (fuel:Nat) (x0:List Lot) (x2:Int) (x3:Int) (y1:Int) (y5:Option Pl) (y6:Int) (y7:Int):Option (Bool×Int×Int) :=
  (cond (y7 == (0:Int)) ((F98 fuel x0 ([x2,x3])).bind fun r1=>(F40_j6 x2 x3 y1 r1)) (F40_j6 x2 x3 y1 y7))
def F40_j2 (k1:Int→Int→Option (Bool×Int×Int)) (y8:Int) (y9:Int):Option (Bool×Int×Int) :=
  (k1 y9 (w64 (y8 + (1:Int))))
def F40_j3 (k1:Int→Int→Option (Bool×Int×Int)) (y10:Int) (y11:Int) (y8:Int) (y12:Bool):Option (Bool×Int×Int) :=
  (cond y12 (F40_j2 k1 y8 y10) (F40_j2 k1 y8 y11))
def F40_j4 (k1:Int→Int→Option (Bool×Int×Int)) (y10:Int) (y11:Int) (y8:Int) (y13:Int):Option (Bool×Int×Int) :=
  (F40_j3 k1 y10 y11 y8 (decide (y13≥(0:Int))))
def F40_j5 (k1:Int→Int→Option (Bool×Int×Int)) (k2:Int→Option (Bool×Int×Int)) (y10:Int) (y11:Int) (y8:Int) (y14:Int) (y15:Bool):Option (Bool×Int×Int) :=
  (cond y15 (F40_j4 k1 y10 y11 y8 y14) (k2 (w64 (y14 + (1:Int)))))
def F40_l3 (k1:Int→Int→Option (Bool×Int×Int)) (x2:Int) (x3:Int) (y10:Int) (y11:Int) (y8:Int) (p1:List (List (Int×Bool))):Nat→Int→Option (Bool×Int×Int)
  | 0,_=>none
  | n1 + 1,y14 =>
    let k2:Int→Option (Bool×Int×Int):=F40_l3 k1 x2 x3 y10 y11 y8 p1 n1
    (cond (decide (y14<(p1.length:Int))) ((getI p1 y14).bind fun p2=>(cond (lkK p2 x2 false) (F40_j5 k1 k2 y10 y11 y8 y14 (lkK p2 x3 false)) (F40_j5 k1 k2 y10 y11 y8 y14 false))) (F40_j4 k1 y10 y11 y8 (-1)))
def F40_l2 (fuel:Nat) (k3:Pl→Int→Int→Option (Bool×Int×Int)) (x2:Int) (x3:Int) (y10:Int) (r2:List Part×List (Int×Bool)×Int×Pl):Nat→Int→Int→Option (Bool×Int×Int)
  | 0,_,_=>none
  | n2 + 1,y11,y8 =>
    let k1:Int→Int→Option (Bool×Int×Int):=F40_l2 fuel k3 x2 x3 y10 r2 n2
    (cond (decide (y8<(9:Int))) ((getI r2.2.2.2.may y8).bind fun p1=>(cond (decide (y11<(0:Int))) (F40_l3 k1 x2 x3 y10 y11 y8 p1 fuel 0) (F40_j3 k1 y10 y11 y8 false))) (k3 r2.2.2.2 y11 (w64 (y10 + (1:Int)))))
def F40_l1 (fuel:Nat) (x0:List Lot) (x1:List Deed) (x2:Int) (x3:Int):Nat→Pl→Int→Int→Option (Bool×Int×Int)
  | 0,_,_,_=>none
  | n3 + 1,y16,y17,y10 =>
    let k3:Pl→Int→Int→Option (Bool×Int×Int):=F40_l1 fuel x0 x1 x2 x3 n3
    (cond (decide (y10<(x1.length:Int))) ((getI x1 y10).bind fun p3=>((F82 fuel y16 p3.kind p3.lot p3.frm p3.to p3.mass).bind fun r2=>(cond (r2.2.2.1 != (0:Int)) (F40_j1 fuel x0 x2 x3 y17 none y10 r2.2.2.1) (F40_l2 fuel k3 x2 x3 y10 r2 fuel y17 0)))) (F40_j1 fuel x0 x2 x3 y17 (some y16) (x1.length:Int) 0))
def F40 (fuel:Nat) (x0:List Lot) (x1:List Deed) (x2:Int) (x3:Int):Option (Bool×Int×Int) :=
  ((F110 fuel x0 x1).bind fun r3=>(cond (r3 != (0:Int)) (F40_j1 fuel x0 x2 x3 (-1) none 0 r3) ((F81 fuel x0 ([[],[],[],[],[],[],[],[],[]])).bind fun r4=>(F40_l1 fuel x0 x1 x2 x3 fuel r4 (-1) 0))))
set_option maxRecDepth 100000 in
theorem f40_ok (fuel:Nat) (x0:List Lot) (x1:List Deed) (x2:Int) (x3:Int) (r:Bool×Int×Int) (hr:F40 fuel x0 x1 x2 x3=some r) (h:Zone) (L:List Atom) (w:World) (hS:St h L w) (o_x0:Option Addr) (c_x0:Nat) (hx_x0:SliceR LotT h o_x0 c_x0 x0) (o_x1:Option Addr) (c_x1:Nat) (hx_x1:SliceR DeedT h o_x1 c_x1 x1) :
    Calls Try.prog 40 #[.slice o_x0 x0.length c_x0, .slice o_x1 x1.length c_x1,vI x2,vI x3] w fun e w'=>∃v,e= .returned v∧(∃h',Zone.le h h'∧v= .tuple #[.bool r.1,vI r.2.1,vI r.2.2]∧St h' L w'):=by
 refine calls_intro (N:=43) Try.func40 (by kernel_rfl) fun a hf=>?_
 refine c_sr ?_
 refine c_box [vI x2] 3 hS hf fun b1 ww1 a1 hS1 hf1=>⟨fun _=>trivial,?_⟩
 refine c_box [vI x3] 3 hS1 hf1 fun b2 ww2 a2 hS2 hf2=>⟨fun _=>trivial,?_⟩
 refine c_t [] [0,1,6,7] hf2 .nil fun a3 hf3=>?_
 refine c_sr ?_
 refine c_box [vI 0] 3 hS2 hf3 fun b3 ww3 a4 hS3 hf4=>⟨fun _=>trivial,?_⟩
 refine c_st 0 [vI (-1)] hS3 hf4 rfl fun ww4 a5 hS4 hf5=>⟨fun _=>trivial,?_⟩
 refine c_dt ?_
 refine c_sr ?_
 refine c_n 3 [] [0,6,7,11,16,17,18] hf5 .nil fun a6 hf6=>?_
 refine c_call (f:=96) (args:= #[.slice o_x0 x0.length c_x0, .slice o_x1 x1.length c_x1, .func (.func 101) #[] #[pB b3 0,pB b1 0,pB b2 0]]) (Φ:=fun v w=>∃z1:Zone,∃y1:Int,∃y5:Option Pl,∃y6:Int,∃y7:Int,∃p4:Option Addr,Zone.le h z1∧v= .tuple #[.pointer p4,vI y6,vI y7]∧St z1 (plO 126 40 117 p4 y5::box b3 [vI y1] 3::box b2 [vI x3] 3::box b1 [vI x2] 3::L) w∧(F40_j1 fuel x0 x2 x3 y1 y5 y6 y7)=some r) hf6 ?_ ?_
 ·refine calls_intro (N:=50) Try.func96 (by kernel_rfl) fun a7 hf7=>?_
  refine c_sq [] [0,1,2] hf7 .nil fun a8 hf8=>?_
  refine c_seq ?_
  refine c_sr ?_
  refine c_n 2 [] [0,1,2,15,16] hf8 .nil fun a9 hf9=>?_
  obtain ⟨r3,hd1,hr1⟩:=bind_some hr
  refine c_call hf9 (f110_ok fuel x0 x1 r3 hd1 h _ _ hS4 o_x0 c_x0 hx_x0 o_x1 c_x1 hx_x1) ?_
  rintro v1 ww5 a10 ⟨z2,k4,rfl,hS5⟩ hf10
  refine ⟨fun _=>trivial,?_⟩
  refine c_t [] [0,1,2,9] hf10 .nil fun a11 hf11=>?_
  refine c_sq [] [0,1,2,9,19] hf11 .nil fun a12 hf12=>?_
  refine c_if (r3 != (0:Int)) hf12 (fun hb1=>?_) (fun hb1=>?_)
  ·have hr2:=cond_t hb1 hr1
   refine c_sq [] [6,7,8] hf12 .nil fun a13 hf13=>?_
   refine c_ret ?_
   refine r_then ?_
   refine c_rt [] (.tuple #[.pointer none,vI 0,vI r3]) hf13 .nil ?_
   have hS6:=hS5.plNone 126 40 117
   exact ⟨_,rfl,z2, -1,none,0,r3,none,k4,rfl,(St.pick 1 [0] hS6 (by kernel_rfl)),hr2⟩
  ·have hr3:=cond_f hb1 hr1
   refine c_skip ?_
   refine n_then ?_
   refine c_sr ?_
   refine c_n 2 [] [1,2,22] hf12 .nil fun a14 hf14=>?_
   obtain ⟨r4,hd2,hr4⟩:=bind_some hr3
   refine c_call hf14 (f81_ok fuel x0 ([[],[],[],[],[],[],[],[],[]]) r4 hd2 z2 _ _ hS5 o_x0 c_x0 (SliceR.mono k4 hx_x0) (.slice none 0 0) (.slice none 0 0) (.slice none 0 0) (.slice none 0 0) (.slice none 0 0) (.slice none 0 0) (.slice none 0 0) (.slice none 0 0) (.slice none 0 0) ⟨rfl,(Rows.cons (c:=[_]) (sliceRep (SliceR.nil' _ _)) (Rows.cons (c:=[_]) (sliceRep (SliceR.nil' _ _)) (Rows.cons (c:=[_]) (sliceRep (SliceR.nil' _ _)) (Rows.cons (c:=[_]) (sliceRep (SliceR.nil' _ _)) (Rows.cons (c:=[_]) (sliceRep (SliceR.nil' _ _)) (Rows.cons (c:=[_]) (sliceRep (SliceR.nil' _ _)) (Rows.cons (c:=[_]) (sliceRep (SliceR.nil' _ _)) (Rows.cons (c:=[_]) (sliceRep (SliceR.nil' _ _)) (Rows.cons (c:=[_]) (sliceRep (SliceR.nil' _ _)) rfl)))))))))⟩) ?_
   rintro v2 ww6 a15 ⟨z3,b4,k5,rfl,hS7⟩ hf15
   refine ⟨fun _=>trivial,?_⟩
   refine c_t [] [1,2,10] hf15 .nil fun a16 hf16=>?_
   refine c_seq ?_
   refine c_sq [] [1,2,10,24,25,26] hf16 .nil fun a17 hf17=>?_
   refine c_block 0 ?_
   refine c_loop (fun n a w=>∃z4:Zone,∃y16:Pl,∃y17:Int,∃y10:Int,Zone.le z3 z4∧Fr a 50 [(1, .slice o_x1 x1.length c_x1),(2, .func (.func 101) #[] #[pB b3 0,pB b1 0,pB b2 0]),(10,pB b4 0),(24, .slice o_x1 x1.length c_x1),(25,vI (x1.length:Int)),(26,vI y10)]∧St z4 (plA 126 40 117 b4 y16::box b3 [vI y17] 3::box b2 [vI x3] 3::box b1 [vI x2] 3::L) w∧(F40_l1 fuel x0 x1 x2 x3 n y16 y17 y10)=some r) fuel ⟨z3,r4, -1,0,zr,hf17.to,hS7,hr4⟩ ?_
   rintro n4 a18 ww7 ⟨z4,y16,y17,y10,k6,hf19,hS8,hr5⟩
   cases n4 with
   | zero=>cases hr5
   | succ n3 =>
   refine c_sq [] [1,2,10,24,25,26,27] hf19 .nil fun a19 hf20=>?_
   refine c_seq ?_
   refine c_if (decide (y10<(x1.length:Int))) hf20 (fun hb2=>?_) (fun hb2=>?_)
   ·have hr6:=cond_t hb2 hr5
    refine c_skip ?_
    refine n_then ?_
    refine c_seq ?_
    refine c_block 1 ?_
    refine c_sr ?_
    obtain ⟨p3,hp10835348,hr7⟩:=bind_some hr6
    obtain ⟨ad1,ho1,hb3,cc1,hc1,hk1⟩:=SliceR.getI (SliceR.mono (zt (zt k4 k5) k6) hx_x1) hp10835348
    subst hc1
    refine c_n 3 [.pointer (some ad1),vI p3.kind,vI p3.lot,vI p3.frm,vI p3.to,vI p3.mass] [1,2,10,24,25,26,28,30] hf20 (.prop ho1 (.prop hb3 (.cell (hS8.cell (hk1 0 _ rfl)) (.cell (hS8.cell (hk1 1 _ rfl)) (.cell (hS8.cell (hk1 2 _ rfl)) (.cell (hS8.cell (hk1 3 _ rfl)) (.cell (hS8.cell (hk1 4 _ rfl)) .nil))))))) fun a20 hf21=>?_
    refine c_box [vI 0,vI 0,vI 0,vI 0,vI 0] 28 hS8 hf21 fun b5 ww8 a21 hS9 hf22=>⟨fun _=>trivial,?_⟩
    refine c_n 1 [] [1,2,10,11,12,24,25,26,30] hf22 .nil fun a22 hf23=>?_
    refine c_st 0 [vI p3.kind,vI p3.lot,vI p3.frm,vI p3.to,vI p3.mass] hS9 hf23 rfl fun ww9 a23 hS10 hf24=>⟨fun _=>trivial,?_⟩
    refine c_dt ?_
    refine c_sr ?_
    refine c_n 2 [vI p3.kind,vI p3.lot,vI p3.frm,vI p3.to,vI p3.mass] [1,2,10,11,24,25,26,32,33] hf24 (.cell (hS10.box (i:=0) rfl (j:=0) rfl) (.cell (hS10.box (i:=0) rfl (j:=1) rfl) (.cell (hS10.box (i:=0) rfl (j:=2) rfl) (.cell (hS10.box (i:=0) rfl (j:=3) rfl) (.cell (hS10.box (i:=0) rfl (j:=4) rfl) .nil))))) fun a24 hf25=>?_
    have hS11:=St.swapTo (i:=2) (j:=0) (St.addEmp hS10) rfl rfl (by decide)
    have hS12:=hS11
    obtain ⟨r2,hd3,hr8⟩:=bind_some hr7
    refine c_call hf25 (f82_ok fuel y16 p3.kind p3.lot p3.frm p3.to p3.mass r2 hd3 z4 _ _ b4 hS12 ) ?_
    rintro v3 ww10 a25 ⟨z5,e1,q1,e2,k7,rfl,hS13,hx1,hx2⟩ hf26
    have hS14:=St.swapTo (i:=0) (j:=2) hS13 rfl rfl (by decide)
    have hS15:=hS14
    refine ⟨fun _=>trivial,?_⟩
    refine c_n 3 [] [1,2,10,11,24,25,26,35,36] hf26 .nil fun a26 hf27=>?_
    refine c_box [.slice none 0 0, .map none] 119 hS15 hf27 fun b6 ww11 a27 hS16 hf28=>⟨fun _=>trivial,?_⟩
    refine c_st 0 [.slice e1 r2.1.length q1, .map e2] hS16 hf28 rfl fun ww12 a28 hS17 hf29=>⟨fun _=>trivial,?_⟩
    refine c_t [] [1,2,10,11,13,14,24,25,26] hf29 .nil fun a29 hf30=>?_
    refine c_seq ?_
    refine c_sq [] [1,2,10,11,13,14,24,25,26,38] hf30 .nil fun a30 hf31=>?_
    refine c_if (r2.2.2.1 != (0:Int)) hf31 (fun hb4=>?_) (fun hb4=>?_)
    ·have hr9:=cond_t hb4 hr8
     refine c_sq [] [6,7,8] hf31 .nil fun a31 hf32=>?_
     refine c_ret ?_
     refine r_then ?_
     refine r_block ?_
     refine r_then ?_
     refine r_then ?_
     refine r_block ?_
     refine r_then ?_
     refine c_rt [] (.tuple #[.pointer none,vI y10,vI r2.2.2.1]) hf32 .nil ?_
     have hS18:=hS17.plNone 126 40 117
     exact ⟨_,rfl,z5,y17,none,y10,r2.2.2.1,none,(zt (zt (zt k4 k5) k6) k7),rfl,(St.pick 5 [0] hS18 (by kernel_rfl)),hr9⟩
    ·have hr10:=cond_f hb4 hr8
     refine c_skip ?_
     refine n_then ?_
     refine c_reg ?_
     refine c_n 4 [.slice e1 r2.1.length q1, .map e2] [1,2,10,24,25,26,41,42,43,44] hf31 (.cell (hS17.box (i:=0) rfl (j:=0) rfl) (.cell (hS17.box (i:=0) rfl (j:=1) rfl) .nil)) fun a32 hf33=>?_
     refine p_inl (i:=4) (d:=some 45) (f:=101) (args:= #[vI y10, .agg #[.slice e1 r2.1.length q1, .map e2],pB b4 0,pB b3 0,pB b1 0,pB b2 0]) (N':=27) hf33 (by kernel_rfl) Try.func101 (by kernel_rfl) fun a33 hf34=>?_
     refine c_sr ?_
     refine c_box [.slice e1 r2.1.length q1, .map e2] 119 hS17 hf34 fun b7 ww13 a34 hS19 hf35=>⟨fun _=>trivial,?_⟩
     refine c_dt ?_
     obtain ⟨e3,q2,v4,v5,v6,v7,v8,v9,v10,v11,v12,v13,v14,v15,v16,v17,v18,v19,v20,v21,hx3,hS20⟩:=hS19.plOpen (i:=4) rfl
     refine c_sq [v13,v14,v15,v16,v17,v18,v19,v20,v21] [0,3,4,5,14,15] hf35 (.cell (hS20.box (i:=6) rfl (j:=10) rfl) (.cell (hS20.box (i:=6) rfl (j:=11) rfl) (.cell (hS20.box (i:=6) rfl (j:=12) rfl) (.cell (hS20.box (i:=6) rfl (j:=13) rfl) (.cell (hS20.box (i:=6) rfl (j:=14) rfl) (.cell (hS20.box (i:=6) rfl (j:=15) rfl) (.cell (hS20.box (i:=6) rfl (j:=16) rfl) (.cell (hS20.box (i:=6) rfl (j:=17) rfl) (.cell (hS20.box (i:=6) rfl (j:=18) rfl) .nil))))))))) fun a35 hf36=>?_
     refine c_block 0 ?_
     refine c_loop (fun n a w=>∃z6:Zone,∃y11:Int,∃y8:Int,Zone.le z5 z6∧Fr a 27 [(0,vI y10),(3,pB b3 0),(4,pB b1 0),(5,pB b2 0),(14, .agg #[v13,v14,v15,v16,v17,v18,v19,v20,v21]),(15,vI y8)]∧St z6 (ownA (Ty.slice PartT) 40 [v4,v5,v6,v7,v8,v9,v10,v11,v12] r2.2.2.2.holds::ownA (Ty.map Value.bool) 117 [v13,v14,v15,v16,v17,v18,v19,v20,v21] r2.2.2.2.may::box b7 [.slice e1 r2.1.length q1, .map e2] 119::box b6 [.slice e1 r2.1.length q1, .map e2] 119::emp::box b5 [vI p3.kind,vI p3.lot,vI p3.frm,vI p3.to,vI p3.mass] 28::box b4 [.slice e3 r2.2.2.2.lots.length q2,v4,v5,v6,v7,v8,v9,v10,v11,v12,v13,v14,v15,v16,v17,v18,v19,v20,v21] 126::box b3 [vI y11] 3::box b2 [vI x3] 3::box b1 [vI x2] 3::L) w∧(F40_l2 fuel (F40_l1 fuel x0 x1 x2 x3 n3) x2 x3 y10 r2 n y11 y8)=some r) fuel ⟨z5,y17,0,zr,hf36.to,hS20,hr10⟩ ?_
     rintro n5 a36 ww14 ⟨z6,y11,y8,k8,hf38,hS21,hr11⟩
     cases n5 with
     | zero=>cases hr11
     | succ n2 =>
     refine c_sq [] [0,3,4,5,14,15,16] hf38 .nil fun a37 hf39=>?_
     refine c_seq ?_
     refine c_if (decide (y8<(9:Int))) hf39 (fun hb5=>?_) (fun hb5=>?_)
     ·have hr12:=cond_t hb5 hr11
      refine c_skip ?_
      refine n_then ?_
      refine c_mid (fun a w=>∃z7:Zone,∃y9:Int,Zone.le z6 z7∧Fr a 27 [(0,vI y10),(3,pB b3 0),(4,pB b1 0),(5,pB b2 0),(14, .agg #[v13,v14,v15,v16,v17,v18,v19,v20,v21]),(15,vI y8)]∧St z7 (ownA (Ty.slice PartT) 40 [v4,v5,v6,v7,v8,v9,v10,v11,v12] r2.2.2.2.holds::ownA (Ty.map Value.bool) 117 [v13,v14,v15,v16,v17,v18,v19,v20,v21] r2.2.2.2.may::box b7 [.slice e1 r2.1.length q1, .map e2] 119::box b6 [.slice e1 r2.1.length q1, .map e2] 119::emp::box b5 [vI p3.kind,vI p3.lot,vI p3.frm,vI p3.to,vI p3.mass] 28::box b4 [.slice e3 r2.2.2.2.lots.length q2,v4,v5,v6,v7,v8,v9,v10,v11,v12,v13,v14,v15,v16,v17,v18,v19,v20,v21] 126::box b3 [vI y9] 3::box b2 [vI x3] 3::box b1 [vI x2] 3::L) w∧(F40_j2 (F40_l2 fuel (F40_l1 fuel x0 x1 x2 x3 n3) x2 x3 y10 r2 n2) y8 y9)=some r) ?_ ?_
      ·skip
       refine c_block 1 ?_
       obtain ⟨p1,hp11184956,hr13⟩:=bind_some hr12
       obtain ⟨e4,q3,hv1,hb6,hS22⟩:=hS21.ownOpen (j:=1) rfl hp11184956
       have hk2:=arrIdx hv1
       refine c_sq [.slice e4 p1.length q3] [0,3,4,5,10,14,15] hf39 (.prop hb6 (.prop hk2 .nil)) fun a38 hf40=>?_
       refine c_mid (fun a w=>∃z8:Zone,∃y12:Bool,Zone.le z6 z8∧Fr a 27 [(0,vI y10),(3,pB b3 0),(4,pB b1 0),(5,pB b2 0),(14, .agg #[v13,v14,v15,v16,v17,v18,v19,v20,v21]),(15,vI y8),(24, .bool y12)]∧St z8 (emp::ownA (Ty.slice PartT) 40 [v4,v5,v6,v7,v8,v9,v10,v11,v12] r2.2.2.2.holds::ownA (Ty.map Value.bool) 117 [v13,v14,v15,v16,v17,v18,v19,v20,v21] r2.2.2.2.may::box b7 [.slice e1 r2.1.length q1, .map e2] 119::box b6 [.slice e1 r2.1.length q1, .map e2] 119::emp::box b5 [vI p3.kind,vI p3.lot,vI p3.frm,vI p3.to,vI p3.mass] 28::box b4 [.slice e3 r2.2.2.2.lots.length q2,v4,v5,v6,v7,v8,v9,v10,v11,v12,v13,v14,v15,v16,v17,v18,v19,v20,v21] 126::box b3 [vI y11] 3::box b2 [vI x3] 3::box b1 [vI x2] 3::L) w∧(F40_j3 (F40_l2 fuel (F40_l1 fuel x0 x1 x2 x3 n3) x2 x3 y10 r2 n2) y10 y11 y8 y12)=some r) ?_ ?_
       ·skip
        refine c_reg ?_
        refine c_n 3 [vI y11] [0,3,4,5,10,14,15,20] hf40 (.cell (hS22.box (i:=8) rfl (j:=0) rfl) .nil) fun a39 hf41=>?_
        rcases bft (decide (y11<(0:Int))) with hb7 | hb7
        ·have hr14:=cond_t hb7 hr13
         have hf42:=hf41.lit 20 hb7
         refine c_n 2 [] [0,3,4,5,14,15,20,21,22] hf42 .nil fun a40 hf43=>?_
         refine p_inl (i:=5) (d:=some 23) (f:=99) (args:= #[.slice e4 p1.length q3, .func (.func 102) #[] #[pB b1 0,pB b2 0]]) (N':=9) hf43 (by kernel_rfl) Try.func99 (by kernel_rfl) fun a41 hf44=>?_
         refine c_sq [] [0,1] hf44 .nil fun a42 hf45=>?_
         refine c_sr ?_
         refine c_n 2 [] [5,6] hf45 .nil fun a43 hf46=>?_
         refine c_call (f:=129) (args:= #[.slice e4 p1.length q3, .func (.func 102) #[] #[pB b1 0,pB b2 0]]) (Φ:=fun v w=>∃z9:Zone,∃y13:Int,Zone.le z6 z9∧v=vI y13∧St z9 (ownS (Ty.map Value.bool) 117 e4 q3 p1::ownA (Ty.slice PartT) 40 [v4,v5,v6,v7,v8,v9,v10,v11,v12] r2.2.2.2.holds::ownH (Ty.map Value.bool) 117 [v13,v14,v15,v16,v17,v18,v19,v20,v21] r2.2.2.2.may (Int.toNat y8)::box b7 [.slice e1 r2.1.length q1, .map e2] 119::box b6 [.slice e1 r2.1.length q1, .map e2] 119::emp::box b5 [vI p3.kind,vI p3.lot,vI p3.frm,vI p3.to,vI p3.mass] 28::box b4 [.slice e3 r2.2.2.2.lots.length q2,v4,v5,v6,v7,v8,v9,v10,v11,v12,v13,v14,v15,v16,v17,v18,v19,v20,v21] 126::box b3 [vI y11] 3::box b2 [vI x3] 3::box b1 [vI x2] 3::L) w∧(F40_j4 (F40_l2 fuel (F40_l1 fuel x0 x1 x2 x3 n3) x2 x3 y10 r2 n2) y10 y11 y8 y13)=some r) hf46 ?_ ?_
         ·refine calls_intro (N:=19) Try.func129 (by kernel_rfl) fun a44 hf47=>?_
          refine c_sq [] [0,1] hf47 .nil fun a45 hf48=>?_
          refine c_seq ?_
          refine c_sq [] [0,1,7,8] hf48 .nil fun a46 hf49=>?_
          refine c_block 0 ?_
          refine c_loop (fun n a w=>∃z10:Zone,∃y14:Int,Zone.le z6 z10∧Fr a 19 [(0, .slice e4 p1.length q3),(1, .func (.func 102) #[] #[pB b1 0,pB b2 0]),(7,vI (p1.length:Int)),(8,vI y14)]∧St z10 (ownS (Ty.map Value.bool) 117 e4 q3 p1::ownA (Ty.slice PartT) 40 [v4,v5,v6,v7,v8,v9,v10,v11,v12] r2.2.2.2.holds::ownH (Ty.map Value.bool) 117 [v13,v14,v15,v16,v17,v18,v19,v20,v21] r2.2.2.2.may (Int.toNat y8)::box b7 [.slice e1 r2.1.length q1, .map e2] 119::box b6 [.slice e1 r2.1.length q1, .map e2] 119::emp::box b5 [vI p3.kind,vI p3.lot,vI p3.frm,vI p3.to,vI p3.mass] 28::box b4 [.slice e3 r2.2.2.2.lots.length q2,v4,v5,v6,v7,v8,v9,v10,v11,v12,v13,v14,v15,v16,v17,v18,v19,v20,v21] 126::box b3 [vI y11] 3::box b2 [vI x3] 3::box b1 [vI x2] 3::L) w∧(F40_l3 (F40_l2 fuel (F40_l1 fuel x0 x1 x2 x3 n3) x2 x3 y10 r2 n2) x2 x3 y10 y11 y8 p1 n y14)=some r) fuel ⟨z6,0,zr,hf49.to,hS22,hr14⟩ ?_
          rintro n6 a47 ww15 ⟨z10,y14,k9,hf51,hS23,hr15⟩
          cases n6 with
          | zero=>cases hr15
          | succ n1 =>
          refine c_sq [] [0,1,7,8,9] hf51 .nil fun a48 hf52=>?_
          refine c_seq ?_
          refine c_if (decide (y14<(p1.length:Int))) hf52 (fun hb8=>?_) (fun hb8=>?_)
          ·have hr16:=cond_t hb8 hr15
           refine c_skip ?_
           refine n_then ?_
           refine c_seq ?_
           refine c_block 1 ?_
           refine c_sq [] [0,1,5,7,8] hf52 .nil fun a49 hf53=>?_
           refine c_sr ?_
           obtain ⟨p2,hp11217514,hr17⟩:=bind_some hr16
           obtain ⟨ad2,ho2,hb9,cc2,hc2,hk3⟩:=hS23.ownGet (j:=0) rfl hp11217514
           obtain ⟨e5,rfl,hx4⟩:=hc2
           refine c_n 5 [.pointer (some ad2), .map e5] [0,1,5,7,8,11,15] hf53 (.prop ho2 (.prop hb9 (.cell (hk3 0 _ rfl) .nil))) fun a50 hf54=>?_
           refine p_inl (i:=5) (d:=some 16) (f:=102) (args:= #[.map e5,pB b1 0,pB b2 0]) (N':=13) hf54 (by kernel_rfl) Try.func102 (by kernel_rfl) fun a51 hf55=>?_
           refine c_sq [] [0,1,2] hf55 .nil fun a52 hf56=>?_
           refine c_mid (fun a w=>∃z11:Zone,∃y15:Bool,Zone.le z10 z11∧Fr a 13 [(4, .bool y15)]∧St z11 (ownS (Ty.map Value.bool) 117 e4 q3 p1::ownA (Ty.slice PartT) 40 [v4,v5,v6,v7,v8,v9,v10,v11,v12] r2.2.2.2.holds::ownH (Ty.map Value.bool) 117 [v13,v14,v15,v16,v17,v18,v19,v20,v21] r2.2.2.2.may (Int.toNat y8)::box b7 [.slice e1 r2.1.length q1, .map e2] 119::box b6 [.slice e1 r2.1.length q1, .map e2] 119::emp::box b5 [vI p3.kind,vI p3.lot,vI p3.frm,vI p3.to,vI p3.mass] 28::box b4 [.slice e3 r2.2.2.2.lots.length q2,v4,v5,v6,v7,v8,v9,v10,v11,v12,v13,v14,v15,v16,v17,v18,v19,v20,v21] 126::box b3 [vI y11] 3::box b2 [vI x3] 3::box b1 [vI x2] 3::L) w∧(F40_j5 (F40_l2 fuel (F40_l1 fuel x0 x1 x2 x3 n3) x2 x3 y10 r2 n2) (F40_l3 (F40_l2 fuel (F40_l1 fuel x0 x1 x2 x3 n3) x2 x3 y10 r2 n2) x2 x3 y10 y11 y8 p1 n1) y10 y11 y8 y14 y15)=some r) ?_ ?_
           ·skip
            refine c_reg ?_
            refine c_n 2 [vI x2] [0,2,5,6] hf56 (.cell (hS23.box (i:=10) rfl (j:=0) rfl) .nil) fun a53 hf57=>?_
            refine p_lookup (i:=2) (d:=(some 7)) (t:=117) (o:=e5) (k:=x2) (c:=false) (z:=false) (D:=p2) hf57 (by kernel_rfl) mp117 (MapR.look hx4 hS23) fun a54 hf58=>⟨fun _=>trivial,?_⟩
            refine c_n 1 [] [0,2,8] hf58 .nil fun a55 hf59=>?_
            rcases bft (lkK p2 x2 false) with hb10 | hb10
            ·have hr18:=cond_t hb10 hr17
             have hf60:=hf59.lit 8 hb10
             refine c_n 2 [vI x3] [8,9,10] hf60 (.cell (hS23.box (i:=9) rfl (j:=0) rfl) .nil) fun a56 hf61=>?_
             refine p_lookup (i:=6) (d:=(some 11)) (t:=117) (o:=e5) (k:=x3) (c:=false) (z:=false) (D:=p2) hf61 (by kernel_rfl) mp117 (MapR.look hx4 hS23) fun a57 hf62=>⟨fun _=>trivial,?_⟩
             refine c_t [] [4] hf62 .nil fun a58 hf63=>?_
             exact ⟨z10,(lkK p2 x3 false),zr,hf63.to,hS23,hr18⟩
            ·have hr19:=cond_f hb10 hr17
             have hf65:=hf59.lit 8 hb10
             refine c_t [] [4] hf65 .nil fun a59 hf66=>?_
             exact ⟨z10,false,zr,hf66.to,hS23,hr19⟩
           ·rintro a60 ww16 ⟨z11,y15,k10,hf68,hS24,hr20⟩
            refine c_ret ?_
            refine c_rt [] (.bool y15) hf68 .nil ?_
            refine ⟨_,rfl,fun a61 hf69=>?_⟩
            refine ⟨fun _=>trivial,?_⟩
            refine c_dt ?_
            refine c_if y15 hf69 (fun hb11=>?_) (fun hb11=>?_)
            ·have hr21:=cond_t hb11 hr20
             refine c_sq [] [4] hf69 .nil fun a62 hf70=>?_
             refine c_ret ?_
             refine r_block ?_
             refine r_then ?_
             refine r_then ?_
             refine r_block ?_
             refine r_then ?_
             refine c_rt [] (vI y14) hf70 .nil ?_
             exact ⟨_,rfl,z11,y14,(zt k9 k10),rfl,hS24,hr21⟩
            ·have hr22:=cond_f hb11 hr20
             refine c_skip ?_
             refine n_block ?_
             refine n_then ?_
             refine c_q [] [0,1,7,8] hf69 .nil fun a63 hf71=>?_
             refine n_then ?_
             exact ⟨n1,Nat.lt_succ_self n1,z11,(w64 (y14 + (1:Int))),(zt k9 k10),hf71.to,hS24,hr22⟩
          ·have hr23:=cond_f hb8 hr15
           refine c_exit 0 ?_
           refine x_then ?_
           refine x_then ?_
           refine x_block ?_
           refine n_then ?_
           refine c_sq [] [4] hf52 .nil fun a64 hf73=>?_
           refine c_ret ?_
           refine c_rt [] (vI (-1)) hf73 .nil ?_
           exact ⟨_,rfl,z10, -1,k9,rfl,hS23,hr23⟩
         ·rintro v22 ww17 a65 ⟨z9,y13,k11,rfl,hS25,hr24⟩ hf74
          refine ⟨fun _=>trivial,?_⟩
          refine c_t [] [4] hf74 .nil fun a66 hf75=>?_
          refine c_ret ?_
          refine c_rt [] (.bool (decide (y13≥(0:Int)))) hf75 .nil ?_
          refine ⟨_,rfl,fun a67 hf76=>?_⟩
          refine ⟨fun _=>trivial,?_⟩
          refine c_z [] [0,3,4,5,14,15,24] hf76 .nil fun a68 hf77=>?_
          have hS26:=hS25.ownClose' (j:=2) (k:=0) rfl rfl (by decide) hv1 (getI_spec hp11184956).2
          refine n_then ?_
          exact ⟨z9,(decide (y13≥(0:Int))),k11,hf77.to,hS26,hr24⟩
        ·have hr25:=cond_f hb7 hr13
         have hf79:=hf41.lit 20 hb7
         refine c_z [] [0,3,4,5,14,15,24] hf79 .nil fun a69 hf80=>?_
         have hS27:=hS22.ownClose' (j:=2) (k:=0) rfl rfl (by decide) hv1 (getI_spec hp11184956).2
         refine n_then ?_
         exact ⟨z6,false,zr,hf80.to,hS27,hr25⟩
       ·rintro a70 ww18 ⟨z8,y12,k12,hf82,hS28,hr26⟩
        refine c_if y12 hf82 (fun hb12=>?_) (fun hb12=>?_)
        ·have hr27:=cond_t hb12 hr26
         refine c_reg ?_
         refine c_n 1 [] [0,3,4,5,14,15,25] hf82 .nil fun a71 hf83=>?_
         refine c_st 8 [vI y10] hS28 hf83 rfl fun ww19 a72 hS29 hf84=>⟨fun _=>trivial,?_⟩
         refine c_done ?_
         refine n_block ?_
         refine n_then ?_
         exact ⟨z8,y10,k12,hf84.to,(St.drop 1 hS29),hr27⟩
        ·have hr28:=cond_f hb12 hr26
         refine c_skip ?_
         refine n_block ?_
         refine n_then ?_
         exact ⟨z8,y11,k12,hf82.to,(St.drop 1 hS28),hr28⟩
      ·rintro a73 ww20 ⟨z7,y9,k13,hf87,hS30,hr29⟩
       refine c_q [] [0,3,4,5,14,15] hf87 .nil fun a74 hf88=>?_
       refine n_then ?_
       exact ⟨n2,Nat.lt_succ_self n2,z7,y9,(w64 (y8 + (1:Int))),(zt k8 k13),hf88.to,hS30,hr29⟩
     ·have hr30:=cond_f hb5 hr11
      refine c_exit 0 ?_
      refine x_then ?_
      refine x_then ?_
      refine x_block ?_
      refine c_fall [] (.tuple #[]) hf39 .nil ?_
      refine ⟨_,rfl,fun a75 hf90=>?_⟩
      refine ⟨fun _=>trivial,?_⟩
      refine c_done ?_
      have hS31:=hS21.plClose (i:=6) (j:=0) (k:=1) rfl (SliceR.mono k8 hx3) rfl rfl (by decide) (by decide) (by decide)
      refine n_block ?_
      refine n_then ?_
      refine c_q [] [1,2,10,24,25,26] hf90 .nil fun a76 hf91=>?_
      refine n_then ?_
      exact ⟨n3,Nat.lt_succ_self n3,z6,r2.2.2.2,y11,(w64 (y10 + (1:Int))),(zt (zt k6 k7) k8),hf91.to,(St.drop 6 hS31),hr30⟩
   ·have hr31:=cond_f hb2 hr5
    refine c_exit 0 ?_
    refine x_then ?_
    refine x_then ?_
    refine x_block ?_
    refine n_then ?_
    refine c_sq [] [6,7,8] hf20 .nil fun a77 hf93=>?_
    refine c_ret ?_
    refine c_rt [] (.tuple #[pB b4 0,vI (x1.length:Int),vI 0]) hf93 .nil ?_
    have hS32:=hS8.plSome (i:=0) rfl
    exact ⟨_,rfl,z4,y17,(some y16),(x1.length:Int),0,(some ⟨b4,0,none⟩),(zt (zt k4 k5) k6),rfl,(St.pick 1 [0] hS32 (by kernel_rfl)),hr31⟩
 ·rintro v23 ww21 a78 ⟨z1,y1,y5,y6,y7,p4,k14,rfl,hS33,hr32⟩ hf94
  refine ⟨fun _=>trivial,?_⟩
  refine c_t [] [0,6,7,11,14] hf94 .nil fun a79 hf95=>?_
  refine c_mid (fun a w=>∃z12:Zone,∃y3:Int,Zone.le z1 z12∧Fr a 43 [(6,pB b1 0),(7,pB b2 0),(11,pB b3 0),(14,vI y3)]∧St z12 (plO 126 40 117 p4 y5::box b3 [vI y1] 3::box b2 [vI x3] 3::box b1 [vI x2] 3::L) w∧(F40_j6 x2 x3 y1 y3)=some r) ?_ ?_
  ·skip
   refine c_sq [] [0,6,7,11,14,24] hf95 .nil fun a80 hf96=>?_
   refine c_if (y7 == (0:Int)) hf96 (fun hb13=>?_) (fun hb13=>?_)
   ·have hr33:=cond_t hb13 hr32
    refine c_reg ?_
    refine c_n 3 [vI x2,vI x3] [6,7,11,25,26,27] hf96 (.cell (hS33.box (i:=3) rfl (j:=0) rfl) (.cell (hS33.box (i:=2) rfl (j:=0) rfl) .nil)) fun a81 hf97=>?_
    refine p_box (i:=3) (d:=(some 28)) (cs:=[vI x2,vI x3]) (T:=3) (v:=fun b8=> .slice (some ⟨b8,0,none⟩) 2 2) hS33 hf97 (fun b=>by kernel_rfl) fun b8 ww22 a82 hS34 hf98=>⟨fun _=>trivial,?_⟩
    have hS35:=hS34.ownBox (T:=Ty.int) (E:=3) (n:=2) (xs:=[x2,x3]) (i:=0) rfl (Rows.cons (c:=[vI x2]) rfl (Rows.cons (c:=[vI x3]) rfl rfl)) rfl (by decide)
    obtain ⟨z13,k15,hS36,hx5⟩:=hS35.share (j:=0) rfl
    obtain ⟨r1,hd4,hr34⟩:=bind_some hr33
    refine c_call hf98 (f98_ok fuel x0 ([x2,x3]) r1 hd4 z13 _ _ hS36 o_x0 c_x0 (SliceR.mono (zt k14 k15) hx_x0) (some ⟨b8,0,none⟩) 2 hx5) ?_
    rintro v24 ww23 a83 ⟨z14,k16,rfl,hS37⟩ hf99
    refine ⟨fun _=>trivial,?_⟩
    refine c_t [] [6,7,11,14] hf99 .nil fun a84 hf100=>?_
    exact ⟨z14,r1,(zt k15 k16),hf100.to,(St.drop 1 hS37),hr34⟩
   ·have hr35:=cond_f hb13 hr32
    refine c_skip ?_
    refine n_then ?_
    exact ⟨z1,y7,zr,hf96.to,hS33,hr35⟩
  ·rintro a85 ww24 ⟨z12,y3,k17,hf103,hS38,hr36⟩
   refine c_mid (fun a w=>∃z15:Zone,∃y2:Int,Zone.le z12 z15∧Fr a 43 [(11,pB b3 0),(14,vI y2)]∧St z15 (plO 126 40 117 p4 y5::box b3 [vI y1] 3::box b2 [vI x3] 3::box b1 [vI x2] 3::L) w∧(F40_j7 y1 y2)=some r) ?_ ?_
   ·skip
    refine c_mid (fun a w=>∃z16:Zone,∃y4:Bool,Zone.le z12 z16∧Fr a 43 [(11,pB b3 0),(14,vI y3),(36, .bool y4)]∧St z16 (plO 126 40 117 p4 y5::box b3 [vI y1] 3::box b2 [vI x3] 3::box b1 [vI x2] 3::L) w∧(F40_j8 y1 y3 y4)=some r) ?_ ?_
    ·skip
     refine c_reg ?_
     refine c_n 3 [] [6,7,11,14,32] hf103 .nil fun a86 hf104=>?_
     rcases bft (y3 == (0:Int)) with hb14 | hb14
     ·have hr37:=cond_t hb14 hr36
      have hf105:=hf104.lit 32 hb14
      refine c_t [vI x2,vI x3] [11,14,36] hf105 (.cell (hS38.box (i:=3) rfl (j:=0) rfl) (.cell (hS38.box (i:=2) rfl (j:=0) rfl) .nil)) fun a87 hf106=>?_
      exact ⟨z12,(x2 == x3),zr,hf106.to,hS38,hr37⟩
     ·have hr38:=cond_f hb14 hr36
      have hf108:=hf104.lit 32 hb14
      refine c_t [] [11,14,36] hf108 .nil fun a88 hf109=>?_
      exact ⟨z12,false,zr,hf109.to,hS38,hr38⟩
    ·rintro a89 ww25 ⟨z16,y4,k18,hf111,hS39,hr39⟩
     refine c_if y4 hf111 (fun hb15=>?_) (fun hb15=>?_)
     ·have hr40:=cond_t hb15 hr39
      refine c_q [] [11,14] hf111 .nil fun a90 hf112=>?_
      refine n_then ?_
      exact ⟨z16,1,k18,hf112.to,hS39,hr40⟩
     ·have hr41:=cond_f hb15 hr39
      refine c_skip ?_
      refine n_then ?_
      exact ⟨z16,y3,k18,hf111.to,hS39,hr41⟩
   ·rintro a91 ww26 ⟨z15,y2,k19,hf115,hS40,hr42⟩
    refine c_seq ?_
    refine c_sq [] [11,14,38] hf115 .nil fun a92 hf116=>?_
    refine c_if (y2 != (0:Int)) hf116 (fun hb16=>?_) (fun hb16=>?_)
    ·have hr43:=cond_t hb16 hr42
     refine c_sq [] [8,9,10] hf116 .nil fun a93 hf117=>?_
     refine c_ret ?_
     refine r_then ?_
     refine c_rt [] (.tuple #[.bool false,vI 0,vI y2]) hf117 .nil ?_
     obtain rfl:=some_eq hr43
     exact ⟨_,rfl,z15,(zt (zt k14 k17) k19),rfl,(St.drop 4 hS40)⟩
    ·have hr44:=cond_f hb16 hr42
     refine c_skip ?_
     refine n_then ?_
     have hS41:=hS40.drew
     refine c_sqD [(0,true),(1,true),(2,true),(3,true),(4,true),(5,true)] [] [vI y1,vI y1] [8,9,10] hf116 (.cell (hS41.box (i:=1) rfl (j:=0) rfl) (.cell (hS41.box (i:=1) rfl (j:=0) rfl) .nil)) .nil fun a94 hf118=>?_
     refine c_ret ?_
     refine c_rt [] (.tuple #[.bool (decide (y1<(0:Int))),vI y1,vI 0]) hf118 .nil ?_
     obtain rfl:=some_eq hr44
     exact ⟨_,rfl,z15,(zt (zt k14 k17) k19),rfl,(St.drop 4 hS41)⟩
def F21_l3 (fuel:Nat) (k1:Int→Option (Int)) (x0l:List Lot) (y1:Int) (p1:List Part):Nat→Int→Option (Int)
  | 0,_=>none
  | n1 + 1,y2 =>
    let k2:Int→Option (Int):=F21_l3 fuel k1 x0l y1 p1 n1
    (cond (decide (y2<(p1.length:Int))) ((getI p1 y2).bind fun p2=>((F74 fuel x0l p2.lot).bind fun r1=>(cond (!r1.2) (some (62)) (k2 (w64 (y2 + (1:Int))))))) (k1 (w64 (y1 + (1:Int)))))
def F21_j1 (fuel:Nat) (k1:Int→Option (Int)) (x0l:List Lot) (y1:Int) (p1:List Part) (y3:Bool):Option (Int) :=
  (cond y3 (some (62)) (F21_l3 fuel k1 x0l y1 p1 fuel 0))
def F21_l2 (fuel:Nat) (k3:Int→Option (Int)) (x0l:List Lot) (y4:Int) (p3:List (List Part)):Nat→Int→Option (Int)
  | 0,_=>none
  | n2 + 1,y1 =>
    let k1:Int→Option (Int):=F21_l2 fuel k3 x0l y4 p3 n2
    (cond (decide (y1<(p3.length:Int))) ((getI p3 y1).bind fun p1=>((F73 fuel p1).bind fun r2=>(cond (!r2) (F21_j1 fuel k1 x0l y1 p1 true) (F21_j1 fuel k1 x0l y1 p1 ((p1.length:Int) == (0:Int)))))) ((F75 fuel p3).bind fun r3=>(cond (decide (r3 > (100000000:Int))) (some (62)) (k3 (w64 (y4 + (1:Int)))))))
def F21_l1 (fuel:Nat) (x0l:List Lot) (x0h:List (List (List Part))):Nat→Int→Option (Int)
  | 0,_=>none
  | n3 + 1,y4 =>
    let k3:Int→Option (Int):=F21_l1 fuel x0l x0h n3
    (cond (decide (y4<(9:Int))) ((getI x0h y4).bind fun p3=>(cond (decide ((p3.length:Int) > (4:Int))) (some (62)) (F21_l2 fuel k3 x0l y4 p3 fuel 0))) (some (0)))
def F21 (fuel:Nat) (x0l:List Lot) (x0h:List (List (List Part))):Option (Int) :=
  ((F19 fuel x0l).bind fun r4=>(cond (r4 != (0:Int)) (some (62)) (F21_l1 fuel x0l x0h fuel 0)))
set_option maxRecDepth 100000 in
theorem f21_ok (fuel:Nat) (x0l:List Lot) (x0h:List (List (List Part))) (r:Int) (hr:F21 fuel x0l x0h=some r) (h:Zone) (L:List Atom) (w:World) (hS:St h L w) (o_x0l:Option Addr) (c_x0l:Nat) (hx_x0l:SliceR LotT h o_x0l c_x0l x0l) (V00 V01 V02 V03 V04 V05 V06 V07 V08:Value) (hx_x0h:(Ty.arr 9 (Ty.slice (Ty.slice PartT))).rep h [V00,V01,V02,V03,V04,V05,V06,V07,V08] x0h) :
    Calls Try.prog 21 #[.agg #[.slice o_x0l x0l.length c_x0l,V00,V01,V02,V03,V04,V05,V06,V07,V08]] w fun e w'=>∃v,e= .returned v∧(∃h',Zone.le h h'∧v=vI r∧St h' L w'):=by
 refine calls_intro (N:=61) Try.func21 (by kernel_rfl) fun a hf=>?_
 refine c_sr ?_
 refine c_box [.slice o_x0l x0l.length c_x0l,V00,V01,V02,V03,V04,V05,V06,V07,V08] 26 hS hf fun b1 ww1 a1 hS1 hf1=>⟨fun _=>trivial,?_⟩
 refine c_t [] [1] hf1 .nil fun a2 hf2=>?_
 refine c_seq ?_
 refine c_sr ?_
 refine c_n 2 [.slice o_x0l x0l.length c_x0l] [1,12] hf2 (.cell (hS1.box (i:=0) rfl (j:=0) rfl) .nil) fun a3 hf3=>?_
 obtain ⟨r4,hd1,hr1⟩:=bind_some hr
 refine c_call hf3 (f19_ok fuel x0l r4 hd1 h _ _ hS1 o_x0l c_x0l hx_x0l) ?_
 rintro v1 ww2 a4 ⟨z1,k4,rfl,hS2⟩ hf4
 refine ⟨fun _=>trivial,?_⟩
 refine c_t [] [1,14] hf4 .nil fun a5 hf5=>?_
 refine c_if (r4 != (0:Int)) hf5 (fun hb1=>?_) (fun hb1=>?_)
 ·have hr2:=cond_t hb1 hr1
  refine c_sq [] [2] hf5 .nil fun a6 hf6=>?_
  refine c_ret ?_
  refine r_then ?_
  refine c_rt [] (vI 62) hf6 .nil ?_
  obtain rfl:=some_eq hr2
  exact ⟨_,rfl,z1,k4,rfl,(St.drop 1 hS2)⟩
 ·have hr3:=cond_f hb1 hr1
  refine c_skip ?_
  refine n_then ?_
  refine c_seq ?_
  refine c_sq [V00,V01,V02,V03,V04,V05,V06,V07,V08] [1,16,17] hf5 (.cell (hS2.box (i:=0) rfl (j:=1) rfl) (.cell (hS2.box (i:=0) rfl (j:=2) rfl) (.cell (hS2.box (i:=0) rfl (j:=3) rfl) (.cell (hS2.box (i:=0) rfl (j:=4) rfl) (.cell (hS2.box (i:=0) rfl (j:=5) rfl) (.cell (hS2.box (i:=0) rfl (j:=6) rfl) (.cell (hS2.box (i:=0) rfl (j:=7) rfl) (.cell (hS2.box (i:=0) rfl (j:=8) rfl) (.cell (hS2.box (i:=0) rfl (j:=9) rfl) .nil))))))))) fun a7 hf7=>?_
  refine c_block 0 ?_
  refine c_loop (fun n a w=>∃z2:Zone,∃y4:Int,Zone.le z1 z2∧Fr a 61 [(1,pB b1 0),(16, .agg #[V00,V01,V02,V03,V04,V05,V06,V07,V08]),(17,vI y4)]∧St z2 (box b1 [.slice o_x0l x0l.length c_x0l,V00,V01,V02,V03,V04,V05,V06,V07,V08] 26::L) w∧(F21_l1 fuel x0l x0h n y4)=some r) fuel ⟨z1,0,zr,hf7.to,hS2,hr3⟩ ?_
  rintro n4 a8 ww3 ⟨z2,y4,k5,hf9,hS3,hr4⟩
  cases n4 with
  | zero=>cases hr4
  | succ n3 =>
  refine c_sq [] [1,16,17,18] hf9 .nil fun a9 hf10=>?_
  refine c_seq ?_
  refine c_if (decide (y4<(9:Int))) hf10 (fun hb2=>?_) (fun hb2=>?_)
  ·have hr5:=cond_t hb2 hr4
   refine c_skip ?_
   refine n_then ?_
   refine c_seq ?_
   refine c_block 1 ?_
   obtain ⟨p3,hp140844,hr6⟩:=bind_some hr5
   obtain ⟨hb3,_,hv1,e1,q1,hehv140848,hx1⟩:=arrGet (Ty.mono _ (zt k4 k5) hx_x0h) rfl hp140844
   obtain rfl:=List.head_eq_of_cons_eq hehv140848
   have hk1:=arrIdx hv1
   refine c_sq [.slice e1 p3.length q1] [1,4,16,17] hf10 (.prop hb3 (.prop hk1 .nil)) fun a10 hf11=>?_
   refine c_seq ?_
   refine c_sq [] [1,4,16,17,22] hf11 .nil fun a11 hf12=>?_
   refine c_if (decide ((p3.length:Int) > (4:Int))) hf12 (fun hb4=>?_) (fun hb4=>?_)
   ·have hr7:=cond_t hb4 hr6
    refine c_sq [] [2] hf12 .nil fun a12 hf13=>?_
    refine c_ret ?_
    refine r_then ?_
    refine r_block ?_
    refine r_then ?_
    refine r_then ?_
    refine r_block ?_
    refine r_then ?_
    refine c_rt [] (vI 62) hf13 .nil ?_
    obtain rfl:=some_eq hr7
    exact ⟨_,rfl,z2,(zt k4 k5),rfl,(St.drop 1 hS3)⟩
   ·have hr8:=cond_f hb4 hr6
    refine c_skip ?_
    refine n_then ?_
    refine c_seq ?_
    refine c_sq [] [1,4,16,17,23,24,25] hf12 .nil fun a13 hf14=>?_
    refine c_block 2 ?_
    refine c_loop (fun n a w=>∃z3:Zone,∃y1:Int,Zone.le z2 z3∧Fr a 61 [(1,pB b1 0),(4, .slice e1 p3.length q1),(16, .agg #[V00,V01,V02,V03,V04,V05,V06,V07,V08]),(17,vI y4),(23, .slice e1 p3.length q1),(24,vI (p3.length:Int)),(25,vI y1)]∧St z3 (box b1 [.slice o_x0l x0l.length c_x0l,V00,V01,V02,V03,V04,V05,V06,V07,V08] 26::L) w∧(F21_l2 fuel (F21_l1 fuel x0l x0h n3) x0l y4 p3 n y1)=some r) fuel ⟨z2,0,zr,hf14.to,hS3,hr8⟩ ?_
    rintro n5 a14 ww4 ⟨z3,y1,k6,hf16,hS4,hr9⟩
    cases n5 with
    | zero=>cases hr9
    | succ n2 =>
    refine c_sq [] [1,4,16,17,23,24,25,26] hf16 .nil fun a15 hf17=>?_
    refine c_seq ?_
    refine c_if (decide (y1<(p3.length:Int))) hf17 (fun hb5=>?_) (fun hb5=>?_)
    ·have hr10:=cond_t hb5 hr9
     refine c_skip ?_
     refine n_then ?_
     refine c_seq ?_
     refine c_block 3 ?_
     refine c_sr ?_
     obtain ⟨p1,hp149621,hr11⟩:=bind_some hr10
     obtain ⟨ad1,ho1,hb6,cc1,hc1,hk2⟩:=SliceR.getI (SliceR.mono k6 hx1) hp149621
     obtain ⟨e2,q2,rfl,hx2⟩:=hc1
     refine c_n 2 [.pointer (some ad1), .slice e2 p1.length q2] [1,4,16,17,23,24,25,28] hf17 (.prop ho1 (.prop hb6 (.cell (hS4.cell (hk2 0 _ rfl)) .nil))) fun a16 hf18=>?_
     refine c_box [.slice none 0 0] 40 hS4 hf18 fun b2 ww5 a17 hS5 hf19=>⟨fun _=>trivial,?_⟩
     refine c_st 0 [.slice e2 p1.length q2] hS5 hf19 rfl fun ww6 a18 hS6 hf20=>⟨fun _=>trivial,?_⟩
     refine c_dt ?_
     refine c_seq ?_
     refine c_mid (fun a w=>∃z4:Zone,∃y3:Bool,Zone.le z3 z4∧Fr a 61 [(1,pB b1 0),(4, .slice e1 p3.length q1),(6,pB b2 0),(16, .agg #[V00,V01,V02,V03,V04,V05,V06,V07,V08]),(17,vI y4),(23, .slice e1 p3.length q1),(24,vI (p3.length:Int)),(25,vI y1),(37, .bool y3)]∧St z4 (box b2 [.slice e2 p1.length q2] 40::box b1 [.slice o_x0l x0l.length c_x0l,V00,V01,V02,V03,V04,V05,V06,V07,V08] 26::L) w∧(F21_j1 fuel (F21_l2 fuel (F21_l1 fuel x0l x0h n3) x0l y4 p3 n2) x0l y1 p1 y3)=some r) ?_ ?_
     ·skip
      refine c_reg ?_
      refine c_n 1 [.slice e2 p1.length q2] [1,4,6,16,17,23,24,25,29] hf20 (.cell (hS6.box (i:=0) rfl (j:=0) rfl) .nil) fun a19 hf21=>?_
      obtain ⟨r2,hd2,hr12⟩:=bind_some hr11
      refine c_call hf21 (f73_ok fuel p1 r2 hd2 z3 _ _ hS6 e2 q2 hx2) ?_
      rintro v2 ww7 a20 ⟨z5,k7,rfl,hS7⟩ hf22
      refine ⟨fun _=>trivial,?_⟩
      refine c_n 2 [] [1,4,6,16,17,23,24,25,32] hf22 .nil fun a21 hf23=>?_
      rcases bft (!r2) with hb7 | hb7
      ·have hr13:=cond_t hb7 hr12
       have hf24:=hf23.lit 32 hb7
       refine c_t [] [1,4,6,16,17,23,24,25,33,34,35,36,37] hf24 .nil fun a22 hf25=>?_
       exact ⟨z5,true,k7,hf25.to,hS7,hr13⟩
      ·have hr14:=cond_f hb7 hr12
       have hf27:=hf23.lit 32 hb7
       refine c_t [.slice e2 p1.length q2] [1,4,6,16,17,23,24,25,33,34,35,36,37] hf27 (.cell (hS7.box (i:=0) rfl (j:=0) rfl) .nil) fun a23 hf28=>?_
       exact ⟨z5,((p1.length:Int) == (0:Int)),k7,hf28.to,hS7,hr14⟩
     ·rintro a24 ww8 ⟨z4,y3,k8,hf30,hS8,hr15⟩
      refine c_if y3 hf30 (fun hb8=>?_) (fun hb8=>?_)
      ·have hr16:=cond_t hb8 hr15
       refine c_sq [] [2] hf30 .nil fun a25 hf31=>?_
       refine c_ret ?_
       refine r_then ?_
       refine r_block ?_
       refine r_then ?_
       refine r_then ?_
       refine r_block ?_
       refine r_then ?_
       refine r_block ?_
       refine r_then ?_
       refine r_then ?_
       refine r_block ?_
       refine r_then ?_
       refine c_rt [] (vI 62) hf31 .nil ?_
       obtain rfl:=some_eq hr16
       exact ⟨_,rfl,z4,(zt (zt (zt k4 k5) k6) k8),rfl,(St.drop 2 hS8)⟩
      ·have hr17:=cond_f hb8 hr15
       refine c_skip ?_
       refine n_then ?_
       refine c_sq [.slice e2 p1.length q2] [1,4,16,17,23,24,25,39,40,41] hf30 (.cell (hS8.box (i:=0) rfl (j:=0) rfl) .nil) fun a26 hf32=>?_
       refine c_block 4 ?_
       refine c_loop (fun n a w=>∃z6:Zone,∃y2:Int,Zone.le z4 z6∧Fr a 61 [(1,pB b1 0),(4, .slice e1 p3.length q1),(16, .agg #[V00,V01,V02,V03,V04,V05,V06,V07,V08]),(17,vI y4),(23, .slice e1 p3.length q1),(24,vI (p3.length:Int)),(25,vI y1),(39, .slice e2 p1.length q2),(40,vI (p1.length:Int)),(41,vI y2)]∧St z6 (box b2 [.slice e2 p1.length q2] 40::box b1 [.slice o_x0l x0l.length c_x0l,V00,V01,V02,V03,V04,V05,V06,V07,V08] 26::L) w∧(F21_l3 fuel (F21_l2 fuel (F21_l1 fuel x0l x0h n3) x0l y4 p3 n2) x0l y1 p1 n y2)=some r) fuel ⟨z4,0,zr,hf32.to,hS8,hr17⟩ ?_
       rintro n6 a27 ww9 ⟨z6,y2,k9,hf34,hS9,hr18⟩
       cases n6 with
       | zero=>cases hr18
       | succ n1 =>
       refine c_sq [] [1,4,16,17,23,24,25,39,40,41,42] hf34 .nil fun a28 hf35=>?_
       refine c_seq ?_
       refine c_if (decide (y2<(p1.length:Int))) hf35 (fun hb9=>?_) (fun hb9=>?_)
       ·have hr19:=cond_t hb9 hr18
        refine c_skip ?_
        refine n_then ?_
        refine c_seq ?_
        refine c_block 5 ?_
        refine c_sr ?_
        obtain ⟨p2,hp150183,hr20⟩:=bind_some hr19
        obtain ⟨ad2,ho2,hb10,cc2,hc2,hk3⟩:=SliceR.getI (SliceR.mono (zt k8 k9) hx2) hp150183
        subst hc2
        refine c_n 2 [.pointer (some ad2),vI p2.lot,vI p2.mass] [1,4,16,17,23,24,25,39,40,41,44] hf35 (.prop ho2 (.prop hb10 (.cell (hS9.cell (hk3 0 _ rfl)) (.cell (hS9.cell (hk3 1 _ rfl)) .nil)))) fun a29 hf36=>?_
        refine c_box [vI 0,vI 0] 56 hS9 hf36 fun b3 ww10 a30 hS10 hf37=>⟨fun _=>trivial,?_⟩
        refine c_st 0 [vI p2.lot,vI p2.mass] hS10 hf37 rfl fun ww11 a31 hS11 hf38=>⟨fun _=>trivial,?_⟩
        refine c_dt ?_
        refine c_sr ?_
        refine c_n 4 [.slice o_x0l x0l.length c_x0l,vI p2.lot] [1,4,16,17,23,24,25,39,40,41,47,49] hf38 (.cell (hS11.box (i:=2) rfl (j:=0) rfl) (.cell (hS11.box (i:=0) rfl (j:=0) rfl) .nil)) fun a32 hf39=>?_
        obtain ⟨r1,hd3,hr21⟩:=bind_some hr20
        refine c_call hf39 (f74_ok fuel x0l p2.lot r1 hd3 z6 _ _ hS11 o_x0l c_x0l (SliceR.mono (zt (zt (zt (zt k4 k5) k6) k8) k9) hx_x0l)) ?_
        rintro v3 ww12 a33 ⟨z7,k10,rfl,hS12⟩ hf40
        refine ⟨fun _=>trivial,?_⟩
        refine c_t [] [1,4,10,16,17,23,24,25,39,40,41] hf40 .nil fun a34 hf41=>?_
        refine c_sq [] [1,4,16,17,23,24,25,39,40,41,54] hf41 .nil fun a35 hf42=>?_
        refine c_if (!r1.2) hf42 (fun hb11=>?_) (fun hb11=>?_)
        ·have hr22:=cond_t hb11 hr21
         refine c_sq [] [2] hf42 .nil fun a36 hf43=>?_
         refine c_ret ?_
         refine r_block ?_
         refine r_then ?_
         refine r_then ?_
         refine r_block ?_
         refine r_block ?_
         refine r_then ?_
         refine r_then ?_
         refine r_block ?_
         refine r_then ?_
         refine r_block ?_
         refine r_then ?_
         refine r_then ?_
         refine r_block ?_
         refine r_then ?_
         refine c_rt [] (vI 62) hf43 .nil ?_
         obtain rfl:=some_eq hr22
         exact ⟨_,rfl,z7,(zt (zt (zt (zt (zt k4 k5) k6) k8) k9) k10),rfl,(St.drop 3 hS12)⟩
        ·have hr23:=cond_f hb11 hr21
         refine c_skip ?_
         refine n_block ?_
         refine n_then ?_
         refine c_q [] [1,4,16,17,23,24,25,39,40,41] hf42 .nil fun a37 hf44=>?_
         refine n_then ?_
         exact ⟨n1,Nat.lt_succ_self n1,z7,(w64 (y2 + (1:Int))),(zt k9 k10),hf44.to,(St.drop 1 hS12),hr23⟩
       ·have hr24:=cond_f hb9 hr18
        refine c_exit 4 ?_
        refine x_then ?_
        refine x_then ?_
        refine x_block ?_
        refine n_block ?_
        refine n_then ?_
        refine c_q [] [1,4,16,17,23,24,25] hf35 .nil fun a38 hf46=>?_
        refine n_then ?_
        exact ⟨n2,Nat.lt_succ_self n2,z6,(w64 (y1 + (1:Int))),(zt (zt k6 k8) k9),hf46.to,(St.drop 1 hS9),hr24⟩
    ·have hr25:=cond_f hb5 hr9
     refine c_exit 2 ?_
     refine x_then ?_
     refine x_then ?_
     refine x_block ?_
     refine n_then ?_
     refine c_sr ?_
     refine c_n 1 [] [1,16,17,57] hf17 .nil fun a39 hf48=>?_
     obtain ⟨r3,hd4,hr26⟩:=bind_some hr25
     refine c_call hf48 (f75_ok fuel p3 r3 hd4 z3 _ _ hS4 e1 q1 (SliceR.mono k6 hx1)) ?_
     rintro v4 ww13 a40 ⟨z8,k11,rfl,hS13⟩ hf49
     refine ⟨fun _=>trivial,?_⟩
     refine c_t [] [1,16,17,59] hf49 .nil fun a41 hf50=>?_
     refine c_if (decide (r3 > (100000000:Int))) hf50 (fun hb12=>?_) (fun hb12=>?_)
     ·have hr27:=cond_t hb12 hr26
      refine c_sq [] [2] hf50 .nil fun a42 hf51=>?_
      refine c_ret ?_
      refine r_block ?_
      refine r_then ?_
      refine r_then ?_
      refine r_block ?_
      refine r_then ?_
      refine c_rt [] (vI 62) hf51 .nil ?_
      obtain rfl:=some_eq hr27
      exact ⟨_,rfl,z8,(zt (zt (zt k4 k5) k6) k11),rfl,(St.drop 1 hS13)⟩
     ·have hr28:=cond_f hb12 hr26
      refine c_skip ?_
      refine n_block ?_
      refine n_then ?_
      refine c_q [] [1,16,17] hf50 .nil fun a43 hf52=>?_
      refine n_then ?_
      exact ⟨n3,Nat.lt_succ_self n3,z8,(w64 (y4 + (1:Int))),(zt (zt k5 k6) k11),hf52.to,hS13,hr28⟩
  ·have hr29:=cond_f hb2 hr4
   refine c_exit 0 ?_
   refine x_then ?_
   refine x_then ?_
   refine x_block ?_
   refine n_then ?_
   refine c_sq [] [2] hf10 .nil fun a44 hf54=>?_
   refine c_ret ?_
   refine c_rt [] (vI 0) hf54 .nil ?_
   obtain rfl:=some_eq hr29
   exact ⟨_,rfl,z2,(zt k4 k5),rfl,(St.drop 1 hS3)⟩
def F103 (fuel:Nat) (x0l:List Lot) (x0h:List (List (List Part))) (x1:Int):Option (Int) :=
  ((F21 fuel x0l x0h).bind fun r1=>(cond (r1 != (0:Int)) (some (r1)) ((F130 fuel x1).bind fun r2=>(cond (!r2) (some (1)) (some (0))))))
set_option maxRecDepth 100000 in
theorem f103_ok (fuel:Nat) (x0l:List Lot) (x0h:List (List (List Part))) (x1:Int) (r:Int) (hr:F103 fuel x0l x0h x1=some r) (h:Zone) (L:List Atom) (w:World) (hS:St h L w) (o_x0l:Option Addr) (c_x0l:Nat) (hx_x0l:SliceR LotT h o_x0l c_x0l x0l) (V00 V01 V02 V03 V04 V05 V06 V07 V08:Value) (hx_x0h:(Ty.arr 9 (Ty.slice (Ty.slice PartT))).rep h [V00,V01,V02,V03,V04,V05,V06,V07,V08] x0h) :
    Calls Try.prog 103 #[.agg #[.slice o_x0l x0l.length c_x0l,V00,V01,V02,V03,V04,V05,V06,V07,V08],vI x1] w fun e w'=>∃v,e= .returned v∧(∃h',Zone.le h h'∧v=vI r∧St h' L w'):=by
 refine calls_intro (N:=14) Try.func103 (by kernel_rfl) fun a hf=>?_
 refine c_sr ?_
 refine c_box [.slice o_x0l x0l.length c_x0l,V00,V01,V02,V03,V04,V05,V06,V07,V08] 26 hS hf fun b1 ww1 a1 hS1 hf1=>⟨fun _=>trivial,?_⟩
 refine c_t [] [1,2] hf1 .nil fun a2 hf2=>?_
 refine c_seq ?_
 refine c_sr ?_
 refine c_n 1 [.slice o_x0l x0l.length c_x0l,V00,V01,V02,V03,V04,V05,V06,V07,V08] [1,6] hf2 (.cell (hS1.box (i:=0) rfl (j:=0) rfl) (.cell (hS1.box (i:=0) rfl (j:=1) rfl) (.cell (hS1.box (i:=0) rfl (j:=2) rfl) (.cell (hS1.box (i:=0) rfl (j:=3) rfl) (.cell (hS1.box (i:=0) rfl (j:=4) rfl) (.cell (hS1.box (i:=0) rfl (j:=5) rfl) (.cell (hS1.box (i:=0) rfl (j:=6) rfl) (.cell (hS1.box (i:=0) rfl (j:=7) rfl) (.cell (hS1.box (i:=0) rfl (j:=8) rfl) (.cell (hS1.box (i:=0) rfl (j:=9) rfl) .nil)))))))))) fun a3 hf3=>?_
 obtain ⟨r1,hd1,hr1⟩:=bind_some hr
 refine c_call hf3 (f21_ok fuel x0l x0h r1 hd1 h _ _ hS1 o_x0l c_x0l hx_x0l V00 V01 V02 V03 V04 V05 V06 V07 V08 (Ty.mono _ zr hx_x0h)) ?_
 rintro v1 ww2 a4 ⟨z1,k1,rfl,hS2⟩ hf4
 refine ⟨fun _=>trivial,?_⟩
 refine c_t [] [1,5] hf4 .nil fun a5 hf5=>?_
 refine c_sq [] [1,5,9] hf5 .nil fun a6 hf6=>?_
 refine c_if (r1 != (0:Int)) hf6 (fun hb1=>?_) (fun hb1=>?_)
 ·have hr2:=cond_t hb1 hr1
  refine c_sq [] [4] hf6 .nil fun a7 hf7=>?_
  refine c_ret ?_
  refine r_then ?_
  refine c_rt [] (vI r1) hf7 .nil ?_
  obtain rfl:=some_eq hr2
  exact ⟨_,rfl,z1,k1,rfl,(St.drop 1 hS2)⟩
 ·have hr3:=cond_f hb1 hr1
  refine c_skip ?_
  refine n_then ?_
  refine c_seq ?_
  refine c_sr ?_
  refine c_n 1 [] [11] hf6 .nil fun a8 hf8=>?_
  obtain ⟨r2,hd2,hr4⟩:=bind_some hr3
  refine c_call hf8 (f130_ok fuel x1 r2 hd2 z1 _ _ hS2 ) ?_
  rintro v2 ww3 a9 ⟨z2,k2,rfl,hS3⟩ hf9
  refine ⟨fun _=>trivial,?_⟩
  refine c_t [] [13] hf9 .nil fun a10 hf10=>?_
  refine c_if (!r2) hf10 (fun hb2=>?_) (fun hb2=>?_)
  ·have hr5:=cond_t hb2 hr4
   refine c_sq [] [4] hf10 .nil fun a11 hf11=>?_
   refine c_ret ?_
   refine r_then ?_
   refine c_rt [] (vI 1) hf11 .nil ?_
   obtain rfl:=some_eq hr5
   exact ⟨_,rfl,z2,(zt k1 k2),rfl,(St.drop 1 hS3)⟩
  ·have hr6:=cond_f hb2 hr4
   refine c_skip ?_
   refine n_then ?_
   refine c_sq [] [4] hf10 .nil fun a12 hf12=>?_
   refine c_ret ?_
   refine c_rt [] (vI 0) hf12 .nil ?_
   obtain rfl:=some_eq hr6
   exact ⟨_,rfl,z2,(zt k1 k2),rfl,(St.drop 1 hS3)⟩
def F117_l1 (x0:Int) (x1:Int):Nat→Int→Int→Option (Int×Int)
  | 0,_,_=>none
  | n1 + 1,y1,y2 =>
    let k1:Int→Int→Option (Int×Int):=F117_l1 x0 x1 n1
    (cond (decide (y2 > (0:Int))) ((nz y2).bind fun _=>(k1 y2 (Int.tmod y1 y2))) ((nz y1).bind fun _=>((nz y1).bind fun _=>(some ((w64 (Int.tdiv x0 y1)),(w64 (Int.tdiv x1 y1)))))))
def F117 (fuel:Nat) (x0:Int) (x1:Int):Option (Int×Int) :=
  (F117_l1 x0 x1 fuel x0 x1)
set_option maxRecDepth 100000 in
theorem f117_ok (fuel:Nat) (x0:Int) (x1:Int) (r:Int×Int) (hr:F117 fuel x0 x1=some r) (h:Zone) (L:List Atom) (w:World) (hS:St h L w)  :
    Calls Try.prog 117 #[vI x0,vI x1] w fun e w'=>∃v,e= .returned v∧(∃h',Zone.le h h'∧v= .agg #[vI r.1,vI r.2]∧St h' L w'):=by
 refine calls_intro (N:=22) Try.func117 (by kernel_rfl) fun a hf=>?_
 refine c_sr ?_
 refine c_box [vI 0,vI 0] 100 hS hf fun b1 ww1 a1 hS1 hf1=>⟨fun _=>trivial,?_⟩
 refine c_dt ?_
 refine c_sq [] [0,1,4,5,6] hf1 .nil fun a2 hf2=>?_
 refine c_seq ?_
 refine c_block 0 ?_
 refine c_loop (fun n a w=>∃z1:Zone,∃y1:Int,∃y2:Int,Zone.le h z1∧Fr a 22 [(0,vI x0),(1,vI x1),(4,pB b1 0),(5,vI y1),(6,vI y2)]∧St z1 (box b1 [vI 0,vI 0] 100::L) w∧(F117_l1 x0 x1 n y1 y2)=some r) fuel ⟨h,x0,x1,zr,hf2.to,hS1,hr⟩ ?_
 rintro n2 a3 ww2 ⟨z1,y1,y2,k2,hf4,hS2,hr1⟩
 cases n2 with
 | zero=>cases hr1
 | succ n1 =>
 refine c_seq ?_
 refine c_sq [] [0,1,4,5,6,10] hf4 .nil fun a4 hf5=>?_
 refine c_if (decide (y2 > (0:Int))) hf5 (fun hb1=>?_) (fun hb1=>?_)
 ·have hr2:=cond_t hb1 hr1
  refine c_skip ?_
  refine n_then ?_
  refine c_block 1 ?_
  have hS3:=hS2.drew
  obtain ⟨u1,hd1,hr3⟩:=bind_some hr2
  refine c_qD [(0,true),(1,true),(2,true),(3,true),(4,true),(5,true)] [] [] [0,1,4,5,6] hf5 (.prop (nz_spec hd1) .nil) .nil fun a5 hf6=>?_
  refine n_block ?_
  refine n_then ?_
  exact ⟨n1,Nat.lt_succ_self n1,z1,y2,(Int.tmod y1 y2),k2,hf6.to,hS3,hr3⟩
 ·have hr4:=cond_f hb1 hr1
  refine c_exit 0 ?_
  refine x_then ?_
  refine x_then ?_
  refine x_block ?_
  refine n_then ?_
  refine c_seq ?_
  have hS4:=hS2.drew
  refine c_regD [(0,true),(1,true),(2,true),(3,true),(4,true),(5,true),(6,true),(7,false)] [7] (fun x=>x=ww2.drew) rfl ?_
  obtain ⟨u2,hd2,hr5⟩:=bind_some hr4
  obtain ⟨u3,hd3,hr6⟩:=bind_some hr5
  refine c_E 7 [] [4,21] hf5 (.prop (nz_spec hd2) (.prop (nz_spec hd3) .nil)) .nil fun a6 hf8=>?_
  refine c_st 0 [vI (w64 (Int.tdiv x0 y1)),vI (w64 (Int.tdiv x1 y1))] hS4 hf8 rfl fun ww3 a7 hS5 hf9=>⟨fun e=>absurd e (by decide),?_⟩
  refine c_dt ?_
  refine c_ret ?_
  refine c_rt [vI (w64 (Int.tdiv x0 y1)),vI (w64 (Int.tdiv x1 y1))] (.agg #[vI (w64 (Int.tdiv x0 y1)),vI (w64 (Int.tdiv x1 y1))]) hf9 (.cell (hS5.box (i:=0) rfl (j:=0) rfl) (.cell (hS5.box (i:=0) rfl (j:=1) rfl) .nil)) ?_
  obtain rfl:=some_eq hr6
  exact ⟨_,rfl,z1,k2,rfl,(St.drop 1 hS5)⟩
def F61_l2 (fuel:Nat) (k1:Int→Int→Option (Int×Int×Int)) (x0l:List Lot) (y1:Int) (p1:List Part):Nat→Int→Int→Option (Int×Int×Int)
  | 0,_,_=>none
  | n1 + 1,y2,y3 =>
    let k2:Int→Int→Option (Int×Int×Int):=F61_l2 fuel k1 x0l y1 p1 n1
    (cond (decide (y3<(p1.length:Int))) ((getI p1 y3).bind fun p2=>((F74 fuel x0l p2.lot).bind fun r1=>((getI x0l r1.1).bind fun p3=>(k2 (w64 (y2 + (w64 (p2.mass * p3.wet)))) (w64 (y3 + (1:Int))))))) (k1 y2 (w64 (y1 + (1:Int)))))
def F61_l1 (fuel:Nat) (x0l:List Lot) (r2:Int) (p4:List (List Part)):Nat→Int→Int→Option (Int×Int×Int)
  | 0,_,_=>none
  | n2 + 1,y4,y1 =>
    let k1:Int→Int→Option (Int×Int×Int):=F61_l1 fuel x0l r2 p4 n2
    (cond (decide (y1<(p4.length:Int))) ((getI p4 y1).bind fun p1=>(F61_l2 fuel k1 x0l y1 p1 fuel y4 0)) ((F117 fuel y4 r2).bind fun r3=>(some (r3.1,r3.2,0))))
def F61 (fuel:Nat) (x0l:List Lot) (x0h:List (List (List Part))) (x1:Int):Option (Int×Int×Int) :=
  ((F103 fuel x0l x0h x1).bind fun r4=>(cond (r4 != (0:Int)) (some (0,0,r4)) ((getI x0h x1).bind fun p5=>((F75 fuel p5).bind fun r2=>(cond (r2 == (0:Int)) (some (0,0,3)) ((getI x0h x1).bind fun p4=>(F61_l1 fuel x0l r2 p4 fuel 0 0)))))))
set_option maxRecDepth 100000 in
theorem f61_ok (fuel:Nat) (x0l:List Lot) (x0h:List (List (List Part))) (x1:Int) (r:Int×Int×Int) (hr:F61 fuel x0l x0h x1=some r) (h:Zone) (L:List Atom) (w:World) (hS:St h L w) (o_x0l:Option Addr) (c_x0l:Nat) (hx_x0l:SliceR LotT h o_x0l c_x0l x0l) (V00 V01 V02 V03 V04 V05 V06 V07 V08:Value) (hx_x0h:(Ty.arr 9 (Ty.slice (Ty.slice PartT))).rep h [V00,V01,V02,V03,V04,V05,V06,V07,V08] x0h) :
    Calls Try.prog 61 #[.agg #[.slice o_x0l x0l.length c_x0l,V00,V01,V02,V03,V04,V05,V06,V07,V08],vI x1] w fun e w'=>∃v,e= .returned v∧(∃h',Zone.le h h'∧v= .tuple #[.agg #[vI r.1,vI r.2.1],vI r.2.2]∧St h' L w'):=by
 refine calls_intro (N:=70) Try.func61 (by kernel_rfl) fun a hf=>?_
 refine c_sr ?_
 refine c_box [.slice o_x0l x0l.length c_x0l,V00,V01,V02,V03,V04,V05,V06,V07,V08] 26 hS hf fun b1 ww1 a1 hS1 hf1=>⟨fun _=>trivial,?_⟩
 refine c_box [vI 0,vI 0] 100 hS1 hf1 fun b2 ww2 a2 hS2 hf2=>⟨fun _=>trivial,?_⟩
 refine c_t [] [1,2,4] hf2 .nil fun a3 hf3=>?_
 refine c_seq ?_
 refine c_sr ?_
 refine c_n 2 [.slice o_x0l x0l.length c_x0l,V00,V01,V02,V03,V04,V05,V06,V07,V08] [1,2,4,15,16] hf3 (.cell (hS2.box (i:=1) rfl (j:=0) rfl) (.cell (hS2.box (i:=1) rfl (j:=1) rfl) (.cell (hS2.box (i:=1) rfl (j:=2) rfl) (.cell (hS2.box (i:=1) rfl (j:=3) rfl) (.cell (hS2.box (i:=1) rfl (j:=4) rfl) (.cell (hS2.box (i:=1) rfl (j:=5) rfl) (.cell (hS2.box (i:=1) rfl (j:=6) rfl) (.cell (hS2.box (i:=1) rfl (j:=7) rfl) (.cell (hS2.box (i:=1) rfl (j:=8) rfl) (.cell (hS2.box (i:=1) rfl (j:=9) rfl) .nil)))))))))) fun a4 hf4=>?_
 obtain ⟨r4,hd1,hr1⟩:=bind_some hr
 refine c_call hf4 (f103_ok fuel x0l x0h x1 r4 hd1 h _ _ hS2 o_x0l c_x0l hx_x0l V00 V01 V02 V03 V04 V05 V06 V07 V08 (Ty.mono _ zr hx_x0h)) ?_
 rintro v1 ww3 a5 ⟨z1,k3,rfl,hS3⟩ hf5
 refine ⟨fun _=>trivial,?_⟩
 refine c_t [] [1,2,4,6] hf5 .nil fun a6 hf6=>?_
 refine c_sq [] [1,2,4,6,19] hf6 .nil fun a7 hf7=>?_
 refine c_if (r4 != (0:Int)) hf7 (fun hb1=>?_) (fun hb1=>?_)
 ·have hr2:=cond_t hb1 hr1
  refine c_sr ?_
  refine c_n 2 [] [4,20,21] hf7 .nil fun a8 hf8=>?_
  refine c_st 0 [vI 0,vI 0] hS3 hf8 rfl fun ww4 a9 hS4 hf9=>⟨fun _=>trivial,?_⟩
  refine c_t [] [4,5] hf9 .nil fun a10 hf10=>?_
  refine c_ret ?_
  refine r_then ?_
  refine c_rt [vI 0,vI 0] (.tuple #[.agg #[vI 0,vI 0],vI r4]) hf10 (.cell (hS4.box (i:=0) rfl (j:=0) rfl) (.cell (hS4.box (i:=0) rfl (j:=1) rfl) .nil)) ?_
  obtain rfl:=some_eq hr2
  exact ⟨_,rfl,z1,k3,rfl,(St.drop 2 hS4)⟩
 ·have hr3:=cond_f hb1 hr1
  refine c_skip ?_
  refine n_then ?_
  refine c_sr ?_
  obtain ⟨p5,hp78,hr4⟩:=bind_some hr3
  obtain ⟨hb2,_,hv1,e1,q1,hehv82,hx1⟩:=arrGet (Ty.mono _ k3 hx_x0h) rfl hp78
  obtain rfl:=List.head_eq_of_cons_eq hehv82
  refine c_n 4 [.slice e1 p5.length q1] [1,2,4,25] hf7 (.prop hb2 (.cell ((arrAddr b1 1 x1.toNat) ▸ (hS3.box (i:=1) rfl (getElem?_app_right [.slice o_x0l x0l.length c_x0l] _ _ hv1 []))) .nil)) fun a11 hf11=>?_
  obtain ⟨r2,hd2,hr5⟩:=bind_some hr4
  refine c_call hf11 (f75_ok fuel p5 r2 hd2 z1 _ _ hS3 e1 q1 hx1) ?_
  rintro v2 ww5 a12 ⟨z2,k4,rfl,hS5⟩ hf12
  refine ⟨fun _=>trivial,?_⟩
  refine c_t [] [1,2,4,7,8] hf12 .nil fun a13 hf13=>?_
  refine c_seq ?_
  refine c_sq [] [1,2,4,7,8,28] hf13 .nil fun a14 hf14=>?_
  refine c_if (r2 == (0:Int)) hf14 (fun hb3=>?_) (fun hb3=>?_)
  ·have hr6:=cond_t hb3 hr5
   refine c_sr ?_
   refine c_n 1 [] [4,29] hf14 .nil fun a15 hf15=>?_
   refine c_st 0 [vI 0,vI 0] hS5 hf15 rfl fun ww6 a16 hS6 hf16=>⟨fun _=>trivial,?_⟩
   refine c_t [] [4,5] hf16 .nil fun a17 hf17=>?_
   refine c_ret ?_
   refine r_then ?_
   refine c_rt [vI 0,vI 0] (.tuple #[.agg #[vI 0,vI 0],vI 3]) hf17 (.cell (hS6.box (i:=0) rfl (j:=0) rfl) (.cell (hS6.box (i:=0) rfl (j:=1) rfl) .nil)) ?_
   obtain rfl:=some_eq hr6
   exact ⟨_,rfl,z2,(zt k3 k4),rfl,(St.drop 2 hS6)⟩
  ·have hr7:=cond_f hb3 hr5
   refine c_skip ?_
   refine n_then ?_
   refine c_seq ?_
   obtain ⟨p4,hp4131,hr8⟩:=bind_some hr7
   obtain ⟨hb4,_,hv2,e2,q2,hehv4135,hx2⟩:=arrGet (Ty.mono _ (zt k3 k4) hx_x0h) rfl hp4131
   obtain rfl:=List.head_eq_of_cons_eq hehv4135
   refine c_sq [.slice e2 p4.length q2] [2,4,7,8,33,34,35] hf14 (.prop hb4 (.cell ((arrAddr b1 1 x1.toNat) ▸ (hS5.box (i:=1) rfl (getElem?_app_right [.slice o_x0l x0l.length c_x0l] _ _ hv2 []))) .nil)) fun a18 hf18=>?_
   refine c_block 0 ?_
   refine c_loop (fun n a w=>∃z3:Zone,∃y4:Int,∃y1:Int,Zone.le z2 z3∧Fr a 70 [(2,pB b1 0),(4,pB b2 0),(7,vI r2),(8,vI y4),(33, .slice e2 p4.length q2),(34,vI (p4.length:Int)),(35,vI y1)]∧St z3 (box b2 [vI 0,vI 0] 100::box b1 [.slice o_x0l x0l.length c_x0l,V00,V01,V02,V03,V04,V05,V06,V07,V08] 26::L) w∧(F61_l1 fuel x0l r2 p4 n y4 y1)=some r) fuel ⟨z2,0,0,zr,hf18.to,hS5,hr8⟩ ?_
   rintro n3 a19 ww7 ⟨z3,y4,y1,k5,hf20,hS7,hr9⟩
   cases n3 with
   | zero=>cases hr9
   | succ n2 =>
   refine c_sq [] [2,4,7,8,33,34,35,36] hf20 .nil fun a20 hf21=>?_
   refine c_seq ?_
   refine c_if (decide (y1<(p4.length:Int))) hf21 (fun hb5=>?_) (fun hb5=>?_)
   ·have hr10:=cond_t hb5 hr9
    refine c_skip ?_
    refine n_then ?_
    refine c_seq ?_
    refine c_block 1 ?_
    refine c_sr ?_
    obtain ⟨p1,hp7635,hr11⟩:=bind_some hr10
    obtain ⟨ad1,ho1,hb6,cc1,hc1,hk1⟩:=SliceR.getI (SliceR.mono k5 hx2) hp7635
    obtain ⟨e3,q3,rfl,hx3⟩:=hc1
    refine c_n 2 [.pointer (some ad1), .slice e3 p1.length q3] [2,4,7,8,33,34,35,38] hf21 (.prop ho1 (.prop hb6 (.cell (hS7.cell (hk1 0 _ rfl)) .nil))) fun a21 hf22=>?_
    refine c_box [.slice none 0 0] 40 hS7 hf22 fun b3 ww8 a22 hS8 hf23=>⟨fun _=>trivial,?_⟩
    refine c_st 0 [.slice e3 p1.length q3] hS8 hf23 rfl fun ww9 a23 hS9 hf24=>⟨fun _=>trivial,?_⟩
    refine c_dt ?_
    refine c_sq [.slice e3 p1.length q3] [2,4,7,8,33,34,35,40,41,42] hf24 (.cell (hS9.box (i:=0) rfl (j:=0) rfl) .nil) fun a24 hf25=>?_
    refine c_block 2 ?_
    refine c_loop (fun n a w=>∃z4:Zone,∃y2:Int,∃y3:Int,Zone.le z3 z4∧Fr a 70 [(2,pB b1 0),(4,pB b2 0),(7,vI r2),(8,vI y2),(33, .slice e2 p4.length q2),(34,vI (p4.length:Int)),(35,vI y1),(40, .slice e3 p1.length q3),(41,vI (p1.length:Int)),(42,vI y3)]∧St z4 (box b3 [.slice e3 p1.length q3] 40::box b2 [vI 0,vI 0] 100::box b1 [.slice o_x0l x0l.length c_x0l,V00,V01,V02,V03,V04,V05,V06,V07,V08] 26::L) w∧(F61_l2 fuel (F61_l1 fuel x0l r2 p4 n2) x0l y1 p1 n y2 y3)=some r) fuel ⟨z3,y4,0,zr,hf25.to,hS9,hr11⟩ ?_
    rintro n4 a25 ww10 ⟨z4,y2,y3,k6,hf27,hS10,hr12⟩
    cases n4 with
    | zero=>cases hr12
    | succ n1 =>
    refine c_sq [] [2,4,7,8,33,34,35,40,41,42,43] hf27 .nil fun a26 hf28=>?_
    refine c_seq ?_
    refine c_if (decide (y3<(p1.length:Int))) hf28 (fun hb7=>?_) (fun hb7=>?_)
    ·have hr13:=cond_t hb7 hr12
     refine c_skip ?_
     refine n_then ?_
     refine c_seq ?_
     refine c_block 3 ?_
     refine c_sr ?_
     obtain ⟨p2,hp8072,hr14⟩:=bind_some hr13
     obtain ⟨ad2,ho2,hb8,cc2,hc2,hk2⟩:=SliceR.getI (SliceR.mono k6 hx3) hp8072
     subst hc2
     refine c_n 2 [.pointer (some ad2),vI p2.lot,vI p2.mass] [2,4,7,8,33,34,35,40,41,42,45] hf28 (.prop ho2 (.prop hb8 (.cell (hS10.cell (hk2 0 _ rfl)) (.cell (hS10.cell (hk2 1 _ rfl)) .nil)))) fun a27 hf29=>?_
     refine c_box [vI 0,vI 0] 56 hS10 hf29 fun b4 ww11 a28 hS11 hf30=>⟨fun _=>trivial,?_⟩
     refine c_st 0 [vI p2.lot,vI p2.mass] hS11 hf30 rfl fun ww12 a29 hS12 hf31=>⟨fun _=>trivial,?_⟩
     refine c_dt ?_
     refine c_sr ?_
     refine c_n 4 [.slice o_x0l x0l.length c_x0l,vI p2.lot] [2,4,7,8,12,33,34,35,40,41,42,48,50] hf31 (.cell (hS12.box (i:=3) rfl (j:=0) rfl) (.cell (hS12.box (i:=0) rfl (j:=0) rfl) .nil)) fun a30 hf32=>?_
     obtain ⟨r1,hd3,hr15⟩:=bind_some hr14
     refine c_call hf32 (f74_ok fuel x0l p2.lot r1 hd3 z4 _ _ hS12 o_x0l c_x0l (SliceR.mono (zt (zt (zt k3 k4) k5) k6) hx_x0l)) ?_
     rintro v3 ww13 a31 ⟨z5,k7,rfl,hS13⟩ hf33
     refine ⟨fun _=>trivial,?_⟩
     refine c_t [] [2,4,7,8,12,13,33,34,35,40,41,42] hf33 .nil fun a32 hf34=>?_
     have hS14:=hS13.drew
     obtain ⟨p3,hp8112,hr16⟩:=bind_some hr15
     obtain ⟨ad3,ho3,hb9,cc3,hc3,hk3⟩:=SliceR.getI (SliceR.mono (zt (zt (zt (zt k3 k4) k5) k6) k7) hx_x0l) hp8112
     subst hc3
     refine c_qD [(0,true),(1,true),(2,true),(3,true),(4,true),(5,true),(6,true),(7,true),(8,true),(9,true),(10,true),(11,true)] [] [vI p2.mass, .slice o_x0l x0l.length c_x0l, .pointer (some ad3),vI p3.wet] [2,4,7,8,33,34,35,40,41,42] hf34 (.cell (hS14.box (i:=0) rfl (j:=1) rfl) (.cell (hS14.box (i:=3) rfl (j:=0) rfl) (.prop ho3 (.prop hb9 (.cell (hS14.cell (hk3 3 _ rfl)) .nil))))) .nil fun a33 hf35=>?_
     refine n_block ?_
     refine n_then ?_
     refine c_q [] [2,4,7,8,33,34,35,40,41,42] hf35 .nil fun a34 hf36=>?_
     refine n_then ?_
     exact ⟨n1,Nat.lt_succ_self n1,z5,(w64 (y2 + (w64 (p2.mass * p3.wet)))),(w64 (y3 + (1:Int))),(zt k6 k7),hf36.to,(St.drop 1 hS14),hr16⟩
    ·have hr17:=cond_f hb7 hr12
     refine c_exit 2 ?_
     refine x_then ?_
     refine x_then ?_
     refine x_block ?_
     refine n_block ?_
     refine n_then ?_
     refine c_q [] [2,4,7,8,33,34,35] hf28 .nil fun a35 hf38=>?_
     refine n_then ?_
     exact ⟨n2,Nat.lt_succ_self n2,z4,y2,(w64 (y1 + (1:Int))),(zt k5 k6),hf38.to,(St.drop 1 hS10),hr17⟩
   ·have hr18:=cond_f hb5 hr9
    refine c_exit 0 ?_
    refine x_then ?_
    refine x_then ?_
    refine x_block ?_
    refine n_then ?_
    refine c_sr ?_
    refine c_n 2 [] [4,67,68] hf21 .nil fun a36 hf40=>?_
    obtain ⟨r3,hd4,hr19⟩:=bind_some hr18
    refine c_call hf40 (f117_ok fuel y4 r2 r3 hd4 z3 _ _ hS7 ) ?_
    rintro v4 ww14 a37 ⟨z6,k8,rfl,hS15⟩ hf41
    refine ⟨fun _=>trivial,?_⟩
    refine c_st 0 [vI r3.1,vI r3.2] hS15 hf41 rfl fun ww15 a38 hS16 hf42=>⟨fun _=>trivial,?_⟩
    refine c_t [] [4,5] hf42 .nil fun a39 hf43=>?_
    refine c_ret ?_
    refine c_rt [vI r3.1,vI r3.2] (.tuple #[.agg #[vI r3.1,vI r3.2],vI 0]) hf43 (.cell (hS16.box (i:=0) rfl (j:=0) rfl) (.cell (hS16.box (i:=0) rfl (j:=1) rfl) .nil)) ?_
    obtain rfl:=some_eq hr19
    exact ⟨_,rfl,z6,(zt (zt (zt k3 k4) k5) k8),rfl,(St.drop 2 hS16)⟩
def F69 (fuel:Nat):Option (List Lot) :=
  (some ([⟨1,1,1,1300⟩,⟨2,2,1,1500⟩,⟨3,1,2,1000⟩]))
set_option maxRecDepth 100000 in
theorem f69_ok (fuel:Nat)  (r:List Lot) (hr:F69 fuel=some r) (h:Zone) (L:List Atom) (w:World) (hS:St h L w)  :
    Calls Try.prog 69 #[] w fun e w'=>∃v,e= .returned v∧(∃h',∃o0:Option Addr,∃c0:Nat,Zone.le h h'∧v= .slice o0 r.length c0∧St h' L w'∧SliceR LotT h' o0 c0 r):=by
 refine calls_intro (N:=5) Try.func69 (by kernel_rfl) fun a hf=>?_
 refine c_sq [] [] hf .nil fun a1 hf1=>?_
 refine c_sr ?_
 refine c_n 3 [] [1,2,3] hf1 .nil fun a2 hf2=>?_
 refine p_box (i:=3) (d:=(some 4)) (cs:=[vI 1,vI 1,vI 1,vI 1300,vI 2,vI 2,vI 1,vI 1500,vI 3,vI 1,vI 2,vI 1000]) (T:=33) (v:=fun b1=> .slice (some ⟨b1,0,none⟩) 3 3) hS hf2 (fun b=>by kernel_rfl) fun b1 ww1 a3 hS1 hf3=>⟨fun _=>trivial,?_⟩
 have hS2:=hS1.ownBox (T:=LotT) (E:=33) (n:=3) (xs:=[⟨1,1,1,1300⟩,⟨2,2,1,1500⟩,⟨3,1,2,1000⟩]) (i:=0) rfl (Rows.cons (c:=[vI 1,vI 1,vI 1,vI 1300]) rfl (Rows.cons (c:=[vI 2,vI 2,vI 1,vI 1500]) rfl (Rows.cons (c:=[vI 3,vI 1,vI 2,vI 1000]) rfl rfl))) rfl (by decide)
 refine c_t [] [0] hf3 .nil fun a4 hf4=>?_
 refine c_ret ?_
 obtain ⟨z1,k1,hS3,hx1⟩:=hS2.share (j:=0) rfl
 refine c_rt [] (.slice (some ⟨b1,0,none⟩) 3 3) hf4 .nil ?_
 obtain rfl:=some_eq hr
 exact ⟨_,rfl,z1,(some ⟨b1,0,none⟩),3,k1,rfl,(St.drop 1 hS3),hx1⟩
def F70 (fuel:Nat):Option (List Deed) :=
  (some ([⟨1,1,0,0,60⟩,⟨1,2,0,0,40⟩,⟨3,0,0,0,50⟩,⟨2,3,0,0,10⟩,⟨4,0,0,4,20⟩]))
set_option maxRecDepth 100000 in
theorem f70_ok (fuel:Nat)  (r:List Deed) (hr:F70 fuel=some r) (h:Zone) (L:List Atom) (w:World) (hS:St h L w)  :
    Calls Try.prog 70 #[] w fun e w'=>∃v,e= .returned v∧(∃h',∃o0:Option Addr,∃c0:Nat,Zone.le h h'∧v= .slice o0 r.length c0∧St h' L w'∧SliceR DeedT h' o0 c0 r):=by
 refine calls_intro (N:=7) Try.func70 (by kernel_rfl) fun a hf=>?_
 refine c_sq [] [] hf .nil fun a1 hf1=>?_
 refine c_sr ?_
 refine c_n 5 [] [1,2,3,4,5] hf1 .nil fun a2 hf2=>?_
 refine p_box (i:=5) (d:=(some 6)) (cs:=[vI 1,vI 1,vI 0,vI 0,vI 60,vI 1,vI 2,vI 0,vI 0,vI 40,vI 3,vI 0,vI 0,vI 0,vI 50,vI 2,vI 3,vI 0,vI 0,vI 10,vI 4,vI 0,vI 0,vI 4,vI 20]) (T:=28) (v:=fun b1=> .slice (some ⟨b1,0,none⟩) 5 5) hS hf2 (fun b=>by kernel_rfl) fun b1 ww1 a3 hS1 hf3=>⟨fun _=>trivial,?_⟩
 have hS2:=hS1.ownBox (T:=DeedT) (E:=28) (n:=5) (xs:=[⟨1,1,0,0,60⟩,⟨1,2,0,0,40⟩,⟨3,0,0,0,50⟩,⟨2,3,0,0,10⟩,⟨4,0,0,4,20⟩]) (i:=0) rfl (Rows.cons (c:=[vI 1,vI 1,vI 0,vI 0,vI 60]) rfl (Rows.cons (c:=[vI 1,vI 2,vI 0,vI 0,vI 40]) rfl (Rows.cons (c:=[vI 3,vI 0,vI 0,vI 0,vI 50]) rfl (Rows.cons (c:=[vI 2,vI 3,vI 0,vI 0,vI 10]) rfl (Rows.cons (c:=[vI 4,vI 0,vI 0,vI 4,vI 20]) rfl rfl))))) rfl (by decide)
 refine c_t [] [0] hf3 .nil fun a4 hf4=>?_
 refine c_ret ?_
 obtain ⟨z1,k1,hS3,hx1⟩:=hS2.share (j:=0) rfl
 refine c_rt [] (.slice (some ⟨b1,0,none⟩) 5 5) hf4 .nil ?_
 obtain rfl:=some_eq hr
 exact ⟨_,rfl,z1,(some ⟨b1,0,none⟩),5,k1,rfl,(St.drop 1 hS3),hx1⟩
def F16_j1 (y1:Bool):Option (Bool) :=
  (some (y1))
def F16 (fuel:Nat):Option (Bool) :=
  ((F69 fuel ).bind fun r1=>((F70 fuel ).bind fun r2=>((F38 fuel r1 r2).bind fun r3=>((F30 fuel ([⟨1,1⟩,⟨2,99⟩]) 50).bind fun r4=>((F61 fuel r3.1 r3.2.1 4).bind fun r5=>((F69 fuel ).bind fun r6=>((F70 fuel ).bind fun r7=>((F40 fuel r6 r7 1 3).bind fun r8=>(cond (r3.2.2.2 == (0:Int)) (cond (r3.2.2.1 == (5:Int)) (cond (r4.2.2 == (0:Int)) (cond ((r4.1.length:Int) == (2:Int)) (cond ((r4.2.1.length:Int) == (1:Int)) ((getI r4.2.1 0).bind fun p1=>(cond (p1.mass == (50:Int)) (cond (r5.2.2 == (0:Int)) (cond ((r5.1 == (1190:Int)) && ((r5.2.1 == (1:Int)) && true)) (cond (r8.2.2 == (0:Int)) (cond (!r8.1) (cond (r8.2.1 == (4:Int)) ((F17 fuel 0 0 0 0).bind fun r9=>(F16_j1 (r9 == (60:Int)))) (F16_j1 false)) (F16_j1 false)) (F16_j1 false)) (F16_j1 false)) (F16_j1 false)) (F16_j1 false))) (F16_j1 false)) (F16_j1 false)) (F16_j1 false)) (F16_j1 false)) (F16_j1 false))))))))))
set_option maxRecDepth 100000 in
theorem f16_ok (fuel:Nat)  (r:Bool) (hr:F16 fuel=some r) (h:Zone) (L:List Atom) (w:World) (hS:St h L w)  :
    Calls Try.prog 16 #[] w fun e w'=>∃v,e= .returned v∧(∃h',Zone.le h h'∧v= .bool r∧St h' L w'):=by
 refine calls_intro (N:=96) Try.func16 (by kernel_rfl) fun a hf=>?_
 refine c_sq [] [] hf .nil fun a1 hf1=>?_
 refine c_sr ?_
 obtain ⟨r1,hd1,hr1⟩:=bind_some hr
 refine c_call hf1 (f69_ok fuel  r1 hd1 h _ _ hS ) ?_
 rintro v1 ww1 a2 ⟨z1,e1,q1,k1,rfl,hS1,hx1⟩ hf2
 refine ⟨fun _=>trivial,?_⟩
 obtain ⟨r2,hd2,hr2⟩:=bind_some hr1
 refine c_call hf2 (f70_ok fuel  r2 hd2 z1 _ _ hS1 ) ?_
 rintro v2 ww2 a3 ⟨z2,e2,q2,k2,rfl,hS2,hx2⟩ hf3
 refine ⟨fun _=>trivial,?_⟩
 obtain ⟨r3,hd3,hr3⟩:=bind_some hr2
 refine c_call hf3 (f38_ok fuel r1 r2 r3 hd3 z2 _ _ hS2 e1 q1 (SliceR.mono k2 hx1) e2 q2 hx2) ?_
 rintro v3 ww3 a4 ⟨z3,e3,q3,v4,v5,v6,v7,v8,v9,v10,v11,v12,k3,rfl,hS3,hx3,hx4⟩ hf4
 refine ⟨fun _=>trivial,?_⟩
 refine c_n 4 [] [16,17,18] hf4 .nil fun a5 hf5=>?_
 refine c_box [.slice none 0 0, .slice none 0 0, .slice none 0 0, .slice none 0 0, .slice none 0 0, .slice none 0 0, .slice none 0 0, .slice none 0 0, .slice none 0 0, .slice none 0 0] 26 hS3 hf5 fun b1 ww4 a6 hS4 hf6=>⟨fun _=>trivial,?_⟩
 have hq1:=oneCells_of (Ty.one _ (Ty.mono _ zr hx4))
 refine p_store_eq (i:=8) (j:=0) (b:=b1) (off:=0) (vs:=[.slice e3 r3.1.length q3,v4,v5,v6,v7,v8,v9,v10,v11,v12]) (cs':=[.slice e3 r3.1.length q3,v4,v5,v6,v7,v8,v9,v10,v11,v12]) hS4 hf6 rfl (by kernel_rfl) hq1 rfl fun ww5 a7 hS5 hf7=>⟨fun _=>trivial,?_⟩
 refine c_t [] [1,2,3] hf7 .nil fun a8 hf8=>?_
 refine c_sr ?_
 refine c_n 2 [] [1,2,3,20,21] hf8 .nil fun a9 hf9=>?_
 refine p_box (i:=2) (d:=(some 22)) (cs:=[vI 1,vI 1,vI 2,vI 99]) (T:=56) (v:=fun b2=> .slice (some ⟨b2,0,none⟩) 2 2) hS5 hf9 (fun b=>by kernel_rfl) fun b2 ww6 a10 hS6 hf10=>⟨fun _=>trivial,?_⟩
 have hS7:=hS6.ownBox (T:=PartT) (E:=56) (n:=2) (xs:=[⟨1,1⟩,⟨2,99⟩]) (i:=0) rfl (Rows.cons (c:=[vI 1,vI 1]) rfl (Rows.cons (c:=[vI 2,vI 99]) rfl rfl)) rfl (by decide)
 refine c_n 1 [] [1,2,3,23] hf10 .nil fun a11 hf11=>?_
 obtain ⟨z4,k4,hS8,hx5⟩:=hS7.share (j:=0) rfl
 obtain ⟨r4,hd4,hr4⟩:=bind_some hr3
 refine c_call hf11 (f30_ok fuel ([⟨1,1⟩,⟨2,99⟩]) 50 r4 hd4 z4 _ _ hS8 (some ⟨b2,0,none⟩) 2 hx5) ?_
 rintro v13 ww7 a12 ⟨z5,e4,q4,e5,q5,k5,rfl,hS9,hx6,hx7⟩ hf12
 refine ⟨fun _=>trivial,?_⟩
 refine c_n 4 [] [1,2,3,25,26,27] hf12 .nil fun a13 hf13=>?_
 refine c_box [.slice none 0 0] 40 hS9 hf13 fun b3 ww8 a14 hS10 hf14=>⟨fun _=>trivial,?_⟩
 refine c_box [.slice none 0 0] 40 hS10 hf14 fun b4 ww9 a15 hS11 hf15=>⟨fun _=>trivial,?_⟩
 refine c_st 1 [.slice e4 r4.1.length q4] hS11 hf15 rfl fun ww10 a16 hS12 hf16=>⟨fun _=>trivial,?_⟩
 refine c_st 0 [.slice e5 r4.2.1.length q5] hS12 hf16 rfl fun ww11 a17 hS13 hf17=>⟨fun _=>trivial,?_⟩
 refine c_t [] [1,2,3,4,5,6] hf17 .nil fun a18 hf18=>?_
 refine c_sr ?_
 refine c_n 1 [.slice e3 r3.1.length q3,v4,v5,v6,v7,v8,v9,v10,v11,v12] [2,3,4,5,6,29] hf18 (.cell (hS13.box (i:=3) rfl (j:=0) rfl) (.cell (hS13.box (i:=3) rfl (j:=1) rfl) (.cell (hS13.box (i:=3) rfl (j:=2) rfl) (.cell (hS13.box (i:=3) rfl (j:=3) rfl) (.cell (hS13.box (i:=3) rfl (j:=4) rfl) (.cell (hS13.box (i:=3) rfl (j:=5) rfl) (.cell (hS13.box (i:=3) rfl (j:=6) rfl) (.cell (hS13.box (i:=3) rfl (j:=7) rfl) (.cell (hS13.box (i:=3) rfl (j:=8) rfl) (.cell (hS13.box (i:=3) rfl (j:=9) rfl) .nil)))))))))) fun a19 hf19=>?_
 obtain ⟨r5,hd5,hr5⟩:=bind_some hr4
 refine c_call hf19 (f61_ok fuel r3.1 r3.2.1 4 r5 hd5 z5 _ _ hS13 e3 q3 (SliceR.mono (zt k4 k5) hx3) v4 v5 v6 v7 v8 v9 v10 v11 v12 (Ty.mono _ (zt k4 k5) hx4)) ?_
 rintro v14 ww12 a20 ⟨z6,k6,rfl,hS14⟩ hf20
 refine ⟨fun _=>trivial,?_⟩
 refine c_n 3 [] [2,3,4,5,6,31,32] hf20 .nil fun a21 hf21=>?_
 refine c_box [vI 0,vI 0] 100 hS14 hf21 fun b5 ww13 a22 hS15 hf22=>⟨fun _=>trivial,?_⟩
 refine c_st 0 [vI r5.1,vI r5.2.1] hS15 hf22 rfl fun ww14 a23 hS16 hf23=>⟨fun _=>trivial,?_⟩
 refine c_t [] [2,3,4,5,6,7,8] hf23 .nil fun a24 hf24=>?_
 refine c_sr ?_
 obtain ⟨r6,hd6,hr6⟩:=bind_some hr5
 refine c_call hf24 (f69_ok fuel  r6 hd6 z6 _ _ hS16 ) ?_
 rintro v15 ww15 a25 ⟨z7,e6,q6,k7,rfl,hS17,hx8⟩ hf25
 refine ⟨fun _=>trivial,?_⟩
 obtain ⟨r7,hd7,hr7⟩:=bind_some hr6
 refine c_call hf25 (f70_ok fuel  r7 hd7 z7 _ _ hS17 ) ?_
 rintro v16 ww16 a26 ⟨z8,e7,q7,k8,rfl,hS18,hx9⟩ hf26
 refine ⟨fun _=>trivial,?_⟩
 obtain ⟨r8,hd8,hr8⟩:=bind_some hr7
 refine c_call hf26 (f40_ok fuel r6 r7 1 3 r8 hd8 z8 _ _ hS18 e6 q6 (SliceR.mono k8 hx8) e7 q7 hx9) ?_
 rintro v17 ww17 a27 ⟨z9,k9,rfl,hS19⟩ hf27
 refine ⟨fun _=>trivial,?_⟩
 refine c_t [] [2,3,4,5,6,7,8,9,10,11] hf27 .nil fun a28 hf28=>?_
 refine c_mid (fun a w=>∃z10:Zone,∃y1:Bool,Zone.le z9 z10∧Fr a 96 [(0, .bool y1)]∧St z10 (box b5 [vI r5.1,vI r5.2.1] 100::box b4 [.slice e5 r4.2.1.length q5] 40::box b3 [.slice e4 r4.1.length q4] 40::emp::box b1 [.slice e3 r3.1.length q3,v4,v5,v6,v7,v8,v9,v10,v11,v12] 26::L) w∧(F16_j1 y1)=some r) ?_ ?_
 ·skip
  refine c_reg ?_
  refine c_n 3 [] [2,4,5,6,7,8,9,10,11,42] hf28 .nil fun a29 hf29=>?_
  rcases bft (r3.2.2.2 == (0:Int)) with hb1 | hb1
  ·have hr9:=cond_t hb1 hr8
   have hf30:=hf29.lit 42 hb1
   refine c_n 4 [] [4,5,6,7,8,9,10,11,46] hf30 .nil fun a30 hf31=>?_
   rcases bft (r3.2.2.1 == (5:Int)) with hb2 | hb2
   ·have hr10:=cond_t hb2 hr9
    have hf32:=hf31.lit 46 hb2
    refine c_n 4 [] [4,5,7,8,9,10,11,50] hf32 .nil fun a31 hf33=>?_
    rcases bft (r4.2.2 == (0:Int)) with hb3 | hb3
    ·have hr11:=cond_t hb3 hr10
     have hf34:=hf33.lit 50 hb3
     refine c_n 6 [.slice e4 r4.1.length q4] [5,7,8,9,10,11,56] hf34 (.cell (hS19.box (i:=2) rfl (j:=0) rfl) .nil) fun a32 hf35=>?_
     rcases bft ((r4.1.length:Int) == (2:Int)) with hb4 | hb4
     ·have hr12:=cond_t hb4 hr11
      have hf36:=hf35.lit 56 hb4
      refine c_n 6 [.slice e5 r4.2.1.length q5] [5,7,8,9,10,11,62] hf36 (.cell (hS19.box (i:=1) rfl (j:=0) rfl) .nil) fun a33 hf37=>?_
      rcases bft ((r4.2.1.length:Int) == (1:Int)) with hb5 | hb5
      ·have hr13:=cond_t hb5 hr12
       have hf38:=hf37.lit 62 hb5
       obtain ⟨p1,hp510,hr14⟩:=bind_some hr13
       obtain ⟨ad1,ho1,hb6,cc1,hc1,hk1⟩:=SliceR.getI (SliceR.mono (zt (zt (zt k6 k7) k8) k9) hx7) hp510
       subst hc1
       refine c_n 8 [.slice e5 r4.2.1.length q5, .pointer (some ad1),vI p1.mass] [7,8,9,10,11,70] hf38 (.cell (hS19.box (i:=1) rfl (j:=0) rfl) (.prop ho1 (.prop hb6 (.cell (hS19.cell (hk1 1 _ rfl)) .nil)))) fun a34 hf39=>?_
       rcases bft (p1.mass == (50:Int)) with hb7 | hb7
       ·have hr15:=cond_t hb7 hr14
        have hf40:=hf39.lit 70 hb7
        refine c_n 4 [] [7,9,10,11,74] hf40 .nil fun a35 hf41=>?_
        rcases bft (r5.2.2 == (0:Int)) with hb8 | hb8
        ·have hr16:=cond_t hb8 hr15
         have hf42:=hf41.lit 74 hb8
         refine c_n 5 [vI r5.1,vI r5.2.1] [9,10,11,79] hf42 (.cell (hS19.box (i:=0) rfl (j:=0) rfl) (.cell (hS19.box (i:=0) rfl (j:=1) rfl) .nil)) fun a36 hf43=>?_
         rcases bft ((r5.1 == (1190:Int)) && ((r5.2.1 == (1:Int)) && true)) with hb9 | hb9
         ·have hr17:=cond_t hb9 hr16
          have hf44:=hf43.lit 79 hb9
          refine c_n 4 [] [9,10,83] hf44 .nil fun a37 hf45=>?_
          rcases bft (r8.2.2 == (0:Int)) with hb10 | hb10
          ·have hr18:=cond_t hb10 hr17
           have hf46:=hf45.lit 83 hb10
           refine c_n 4 [] [10,87] hf46 .nil fun a38 hf47=>?_
           rcases bft (!r8.1) with hb11 | hb11
           ·have hr19:=cond_t hb11 hr18
            have hf48:=hf47.lit 87 hb11
            refine c_n 4 [] [91] hf48 .nil fun a39 hf49=>?_
            rcases bft (r8.2.1 == (4:Int)) with hb12 | hb12
            ·have hr20:=cond_t hb12 hr19
             have hf50:=hf49.lit 91 hb12
             refine c_n 1 [] [91,92] hf50 .nil fun a40 hf51=>?_
             obtain ⟨r9,hd9,hr21⟩:=bind_some hr20
             refine c_call hf51 (f17_ok fuel 0 0 0 0 r9 hd9 z9 _ _ hS19 ) ?_
             rintro v18 ww18 a41 ⟨z11,k10,rfl,hS20⟩ hf52
             refine ⟨fun _=>trivial,?_⟩
             refine c_t [] [0] hf52 .nil fun a42 hf53=>?_
             exact ⟨z11,(r9 == (60:Int)),k10,hf53.to,hS20,hr21⟩
            ·have hr22:=cond_f hb12 hr19
             have hf55:=hf49.lit 91 hb12
             refine c_t [] [0] hf55 .nil fun a43 hf56=>?_
             exact ⟨z9,false,zr,hf56.to,hS19,hr22⟩
           ·have hr23:=cond_f hb11 hr18
            have hf58:=hf47.lit 87 hb11
            refine c_t [] [0] hf58 .nil fun a44 hf59=>?_
            exact ⟨z9,false,zr,hf59.to,hS19,hr23⟩
          ·have hr24:=cond_f hb10 hr17
           have hf61:=hf45.lit 83 hb10
           refine c_t [] [0] hf61 .nil fun a45 hf62=>?_
           exact ⟨z9,false,zr,hf62.to,hS19,hr24⟩
         ·have hr25:=cond_f hb9 hr16
          have hf64:=hf43.lit 79 hb9
          refine c_t [] [0] hf64 .nil fun a46 hf65=>?_
          exact ⟨z9,false,zr,hf65.to,hS19,hr25⟩
        ·have hr26:=cond_f hb8 hr15
         have hf67:=hf41.lit 74 hb8
         refine c_t [] [0] hf67 .nil fun a47 hf68=>?_
         exact ⟨z9,false,zr,hf68.to,hS19,hr26⟩
       ·have hr27:=cond_f hb7 hr14
        have hf70:=hf39.lit 70 hb7
        refine c_t [] [0] hf70 .nil fun a48 hf71=>?_
        exact ⟨z9,false,zr,hf71.to,hS19,hr27⟩
      ·have hr28:=cond_f hb5 hr12
       have hf73:=hf37.lit 62 hb5
       refine c_t [] [0] hf73 .nil fun a49 hf74=>?_
       exact ⟨z9,false,zr,hf74.to,hS19,hr28⟩
     ·have hr29:=cond_f hb4 hr11
      have hf76:=hf35.lit 56 hb4
      refine c_t [] [0] hf76 .nil fun a50 hf77=>?_
      exact ⟨z9,false,zr,hf77.to,hS19,hr29⟩
    ·have hr30:=cond_f hb3 hr10
     have hf79:=hf33.lit 50 hb3
     refine c_t [] [0] hf79 .nil fun a51 hf80=>?_
     exact ⟨z9,false,zr,hf80.to,hS19,hr30⟩
   ·have hr31:=cond_f hb2 hr9
    have hf82:=hf31.lit 46 hb2
    refine c_t [] [0] hf82 .nil fun a52 hf83=>?_
    exact ⟨z9,false,zr,hf83.to,hS19,hr31⟩
  ·have hr32:=cond_f hb1 hr8
   have hf85:=hf29.lit 42 hb1
   refine c_t [] [0] hf85 .nil fun a53 hf86=>?_
   exact ⟨z9,false,zr,hf86.to,hS19,hr32⟩
 ·rintro a54 ww19 ⟨z10,y1,k11,hf88,hS21,hr33⟩
  refine c_ret ?_
  refine c_rt [] (.bool y1) hf88 .nil ?_
  obtain rfl:=some_eq hr33
  exact ⟨_,rfl,z10,(zt (zt (zt (zt (zt (zt (zt (zt (zt k1 k2) k3) k4) k5) k6) k7) k8) k9) k11),rfl,(St.drop 5 hS21)⟩
end Go.Proofs.Ytlmgjjmighajdaa
