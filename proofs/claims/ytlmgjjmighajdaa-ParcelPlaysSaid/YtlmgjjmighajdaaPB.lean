/-
  A part of the walk and of the plain law of one given statement. No condition.
-/
import Derived.Test.YtlmgjjmighajdaaDC
import Derived.Test.YtlmgjjmighajdaaSp
import Derived.Test.YtlmgjjmighajdaaJ1
set_option linter.unusedVariables false
namespace Go.Proofs.Ytlmgjjmighajdaa
open Go.Sl Go.Sx
def F35 (fuel:Nat) (x0:Int) (x1:Int):Option (Int) :=
  ((nz x1).bind fun _=>((nz x1).bind fun _=>(some ((Int.tmod (w64 ((Int.tmod x0 x1) + x1)) x1)))))
set_option maxRecDepth 100000 in
theorem f35_ok (fuel:Nat) (x0:Int) (x1:Int) (r:Int) (hr:F35 fuel x0 x1=some r) (h:Zone) (L:List Atom) (w:World) (hS:St h L w)  :
    Calls Try.prog 35 #[vI x0,vI x1] w fun e w'=>∃v,e= .returned v∧(v=vI r∧St h L w'):=by
 refine calls_intro (N:=12) Try.func35 (by kernel_rfl) fun a hf=>?_
 refine c_sq [] [0,1] hf .nil fun a1 hf1=>?_
 obtain ⟨u1,hd1,hr1⟩:=bind_some hr
 obtain ⟨u2,hd2,hr2⟩:=bind_some hr1
 refine c_sq [] [4] hf1 (.prop (nz_spec hd1) (.prop (nz_spec hd2) .nil)) fun a2 hf2=>?_
 refine c_ret ?_
 refine c_rt [] (vI (Int.tmod (w64 ((Int.tmod x0 x1) + x1)) x1)) hf2 .nil ?_
 obtain rfl:=some_eq hr2
 exact ⟨_,rfl,rfl,hS⟩
theorem LotT_flat:Flat LotT:=fun _ _ _ _ h=>h
theorem DeedT_flat:Flat DeedT:=fun _ _ _ _ h=>h
def F94_j1 (fuel:Nat) (k1:(List Lot)→Int→Int→Option (List Lot)) (x0:List A4) (y1:List Lot) (y2:Int) (y3:Int) (y4:Bool):Option (List Lot) :=
  (cond y4 ((getI x0 y3).bind fun p1=>((F35 fuel p1.a0 3).bind fun r1=>((getI x0 y3).bind fun p2=>((getI x0 y3).bind fun p3=>((getI x0 y3).bind fun p4=>((F35 fuel p2.a1 3).bind fun r2=>((F35 fuel p3.a2 3).bind fun r3=>((F35 fuel p4.a3 10001).bind fun r4=>((appC y1 ([⟨(w64 ((w64 (y2 + (1:Int))) + r1)),(w64 ((1:Int) + r2)),(w64 ((1:Int) + r3)),r4⟩])).bind fun d1=>(k1 d1 (w64 ((w64 (y2 + (1:Int))) + r1)) (w64 (y3 + (1:Int))))))))))))) (some (y1)))
def F94_l1 (fuel:Nat) (x0:List A4):Nat→(List Lot)→Int→Int→Option (List Lot)
  | 0,_,_,_=>none
  | n1 + 1,y1,y2,y3 =>
    let k1:(List Lot)→Int→Int→Option (List Lot):=F94_l1 fuel x0 n1
    (cond (decide (y3<(x0.length:Int))) (F94_j1 fuel k1 x0 y1 y2 y3 (decide (y3<(8:Int)))) (F94_j1 fuel k1 x0 y1 y2 y3 false))
def F94 (fuel:Nat) (x0:List A4):Option (List Lot) :=
  (F94_l1 fuel x0 fuel ([]) 0 0)
set_option maxRecDepth 100000 in
theorem f94_ok (fuel:Nat) (x0:List A4) (r:List Lot) (hr:F94 fuel x0=some r) (h:Zone) (L:List Atom) (w:World) (hS:St h L w) (o_x0:Option Addr) (c_x0:Nat) (hx_x0:SliceR A4T h o_x0 c_x0 x0) :
    Calls Try.prog 94 #[.slice o_x0 x0.length c_x0] w fun e w'=>∃v,e= .returned v∧(∃h',∃o0:Option Addr,∃c0:Nat,Zone.le h h'∧v= .slice o0 r.length c0∧St h' (ownS LotT 33 o0 c0 r::L) w'):=by
 refine calls_intro (N:=51) Try.func94 (by kernel_rfl) fun a hf=>?_
 refine c_sq [] [0] hf .nil fun a1 hf1=>?_
 refine c_sq [] [0,3] hf1 .nil fun a2 hf2=>?_
 refine c_sq [] [0,3,4] hf2 .nil fun a3 hf3=>?_
 refine c_seq ?_
 refine c_sq [] [0,3,4,5] hf3 .nil fun a4 hf4=>?_
 refine c_block 0 ?_
 have hS1:=hS.ownNil LotT 33
 refine c_loop (fun n a w=>∃z1:Zone,∃y1:List Lot,∃y2:Int,∃y3:Int,∃e1:Option Addr,∃q1:Nat,Zone.le h z1∧Fr a 51 [(0, .slice o_x0 x0.length c_x0),(3, .slice e1 y1.length q1),(4,vI y2),(5,vI y3)]∧St z1 (ownS LotT 33 e1 q1 y1::L) w∧(F94_l1 fuel x0 n y1 y2 y3)=some r) fuel ⟨h,[],0,0,none,0,zr,hf4.to,hS1,hr⟩ ?_
 rintro n2 a5 ww1 ⟨z1,y1,y2,y3,e1,q1,k2,hf6,hS2,hr1⟩
 cases n2 with
 | zero=>cases hr1
 | succ n1 =>
 refine c_seq ?_
 refine c_mid (fun a w=>∃z2:Zone,∃y4:Bool,Zone.le z1 z2∧Fr a 51 [(0, .slice o_x0 x0.length c_x0),(3, .slice e1 y1.length q1),(4,vI y2),(5,vI y3),(13, .bool y4)]∧St z2 (ownS LotT 33 e1 q1 y1::L) w∧(F94_j1 fuel (F94_l1 fuel x0 n1) x0 y1 y2 y3 y4)=some r) ?_ ?_
 ·skip
  refine c_reg ?_
  refine c_n 5 [] [0,3,4,5,10] hf6 .nil fun a6 hf7=>?_
  rcases bft (decide (y3<(x0.length:Int))) with hb1 | hb1
  ·have hr2:=cond_t hb1 hr1
   have hf8:=hf7.lit 10 hb1
   refine c_t [] [0,3,4,5,13] hf8 .nil fun a7 hf9=>?_
   exact ⟨z1,(decide (y3<(8:Int))),zr,hf9.to,hS2,hr2⟩
  ·have hr3:=cond_f hb1 hr1
   have hf11:=hf7.lit 10 hb1
   refine c_t [] [0,3,4,5,13] hf11 .nil fun a8 hf12=>?_
   exact ⟨z1,false,zr,hf12.to,hS2,hr3⟩
 ·rintro a9 ww2 ⟨z2,y4,k3,hf14,hS3,hr4⟩
  refine c_if y4 hf14 (fun hb2=>?_) (fun hb2=>?_)
  ·have hr5:=cond_t hb2 hr4
   refine c_skip ?_
   refine n_then ?_
   refine c_seq ?_
   refine c_block 1 ?_
   refine c_sr ?_
   obtain ⟨p1,hp3332,hr6⟩:=bind_some hr5
   obtain ⟨ad1,ho1,hb3,cc1,hc1,hk1⟩:=SliceR.getI (SliceR.mono (zt k2 k3) hx_x0) hp3332
   subst hc1
   refine c_n (oC:=[.prop (o_x0=some ad1), .prop (0≤y3∧y3<(x0.length:Nat)), .prop ((0:Int)≤0∧(0:Int)<(4:Nat)), .cell ((ad1.add (Int.toNat y3 * 4)).add 0) (vI p1.a0)]) 7 [.pointer (some ad1),vI p1.a0] [0,3,5,17,22] hf14 (.prop ho1 (.prop hb3 (.prop (by decide) (.cell (hS3.cell (hk1 0 _ rfl)) .nil)))) fun a10 hf15=>?_
   obtain ⟨r1,hd1,hr7⟩:=bind_some hr6
   refine c_call hf15 (f35_ok fuel p1.a0 3 r1 hd1 z2 _ _ hS3 ) ?_
   rintro v1 ww3 a11 ⟨rfl,hS4⟩ hf16
   refine ⟨fun _=>trivial,?_⟩
   refine c_t [] [0,3,4,5] hf16 .nil fun a12 hf17=>?_
   have hS5:=hS4.drew
   have s1:=Sub.of zr hS5
   refine c_regD [(0,true),(1,true),(2,true),(3,true),(4,true),(5,true),(6,true),(9,true),(10,true),(11,true),(12,true),(13,true),(16,true),(17,true),(18,true),(19,true),(20,true),(7,false),(8,true),(14,false),(15,true),(21,false),(22,true),(23,false),(24,false),(25,true)] [21,23,24] _ s1 ?_
   obtain ⟨p2,hp3360,hr8⟩:=bind_some hr7
   obtain ⟨ad2,ho2,hb4,cc2,hc2,hk2⟩:=SliceR.getI (SliceR.mono (zt k2 k3) hx_x0) hp3360
   subst hc2
   obtain ⟨p3,hp3369,hr9⟩:=bind_some hr8
   obtain ⟨ad3,ho3,hb5,cc3,hc3,hk3⟩:=SliceR.getI (SliceR.mono (zt k2 k3) hx_x0) hp3369
   subst hc3
   obtain ⟨p4,hp3378,hr10⟩:=bind_some hr9
   obtain ⟨ad4,ho4,hb6,cc4,hc4,hk4⟩:=SliceR.getI (SliceR.mono (zt k2 k3) hx_x0) hp3378
   subst hc4
   refine c_S (oF:=[.prop (o_x0=some ad2), .prop (0≤y3∧y3<(x0.length:Nat)), .prop ((0:Int)≤1∧(1:Int)<(4:Nat)), .cell ((ad2.add (Int.toNat y3 * 4)).add 1) (vI p2.a1), .prop (o_x0=some ad3), .prop (0≤y3∧y3<(x0.length:Nat)), .prop ((0:Int)≤2∧(2:Int)<(4:Nat)), .cell ((ad3.add (Int.toNat y3 * 4)).add 2) (vI p3.a2), .prop (o_x0=some ad4), .prop (0≤y3∧y3<(x0.length:Nat)), .prop ((0:Int)≤3∧(3:Int)<(4:Nat)), .cell ((ad4.add (Int.toNat y3 * 4)).add 3) (vI p4.a3)]) 17 [.pointer (some ad2),vI p2.a1, .pointer (some ad3),vI p3.a2, .pointer (some ad4),vI p4.a3] [0,4,5,25,26,31,38,45] s1 hf17 (fun _ s=>(.prop ho2 (.prop hb4 (.prop (by decide) (.cell (s.cell (hk2 1 _ rfl)) (.prop ho3 (.prop hb5 (.prop (by decide) (.cell (s.cell (hk3 2 _ rfl)) (.prop ho4 (.prop hb6 (.prop (by decide) (.cell (s.cell (hk4 3 _ rfl)) .nil))))))))))))) .nil fun a13 hf18=>?_
   obtain ⟨r2,hd2,hr11⟩:=bind_some hr10
   refine c_call hf18 (f35_ok fuel p2.a1 3 r2 hd2 z2 _ _ hS5 ) ?_
   rintro v2 ww4 a14 ⟨rfl,hS6⟩ hf19
   refine ⟨fun _=>Sub.of zr hS6,?_⟩
   have s2:=Sub.of zr hS6
   refine c_S 1 [] [0,4,5,25,26,33,38,45] s2 hf19 (fun _ s=> .nil) .nil fun a15 hf20=>?_
   obtain ⟨r3,hd3,hr12⟩:=bind_some hr11
   refine c_call hf20 (f35_ok fuel p3.a2 3 r3 hd3 z2 _ _ hS6 ) ?_
   rintro v3 ww5 a16 ⟨rfl,hS7⟩ hf21
   refine ⟨fun _=>Sub.of zr hS7,?_⟩
   have s3:=Sub.of zr hS7
   refine c_S 1 [] [0,4,5,25,26,33,40,45] s3 hf21 (fun _ s=> .nil) .nil fun a17 hf22=>?_
   obtain ⟨r4,hd4,hr13⟩:=bind_some hr12
   refine c_call hf22 (f35_ok fuel p4.a3 10001 r4 hd4 z2 _ _ hS7 ) ?_
   rintro v4 ww6 a18 ⟨rfl,hS8⟩ hf23
   refine ⟨fun e=>absurd e (by decide),?_⟩
   refine p_qP 1 [] [(0, .slice o_x0 x0.length c_x0),(4,vI (w64 ((w64 (y2 + (1:Int))) + r1))),(5,vI y3),(25, .slice e1 y1.length q1),(47, .agg #[vI (w64 ((w64 (y2 + (1:Int))) + r1)),vI (w64 ((1:Int) + r2)),vI (w64 ((1:Int) + r3)),vI r4])] [] hf23 (by kernel_rfl) (fun _=> .nil) fun a19 hf24=>?_
   refine p_box (i:=23) (d:=(some 48)) (cs:=[vI (w64 ((w64 (y2 + (1:Int))) + r1)),vI (w64 ((1:Int) + r2)),vI (w64 ((1:Int) + r3)),vI r4]) (T:=33) (v:=fun b1=> .slice (some ⟨b1,0,none⟩) 1 1) hS8 hf24 (fun b=>by kernel_rfl) fun b1 ww7 a20 hS9 hf25=>⟨fun e=>absurd e (by decide),?_⟩
   have hS10:=hS9.ownBox (T:=LotT) (E:=33) (n:=1) (xs:=[⟨(w64 ((w64 (y2 + (1:Int))) + r1)),(w64 ((1:Int) + r2)),(w64 ((1:Int) + r3)),r4⟩]) (i:=0) rfl (Rows.cons (c:=[vI (w64 ((w64 (y2 + (1:Int))) + r1)),vI (w64 ((1:Int) + r2)),vI (w64 ((1:Int) + r3)),vI r4]) rfl rfl) rfl (by decide)
   obtain ⟨d1,hd5,hr14⟩:=bind_some hr13
   refine p_append (T:=LotT) (i:=24) (j:=1) (d:=some 49) (o2:=(some ⟨b1,0,none⟩)) (c2:=1) (ys:=([⟨(w64 ((w64 (y2 + (1:Int))) + r1)),(w64 ((1:Int) + r2)),(w64 ((1:Int) + r3)),r4⟩])) el22 hS10 hf25 rfl (by kernel_rfl) (hS10.ownSrc (j:=0) rfl) hd5 fun e2 q2 ww8 a21 hS11 hf26=>⟨fun e=>absurd e (by decide),?_⟩
   refine p_qP 1 [] [(0, .slice o_x0 x0.length c_x0),(3, .slice e2 d1.length q2),(4,vI (w64 ((w64 (y2 + (1:Int))) + r1))),(5,vI y3)] [] hf26 (by kernel_rfl) (fun _=> .nil) fun a22 hf27=>?_
   refine c_done ?_
   refine n_block ?_
   refine n_then ?_
   refine c_q [] [0,3,4,5] hf27 .nil fun a23 hf28=>?_
   refine n_then ?_
   exact ⟨n1,Nat.lt_succ_self n1,z2,d1,(w64 ((w64 (y2 + (1:Int))) + r1)),(w64 (y3 + (1:Int))),e2,q2,(zt k2 k3),hf28.to,(St.drop 1 hS11),hr14⟩
  ·have hr15:=cond_f hb2 hr4
   refine c_exit 0 ?_
   refine x_then ?_
   refine x_then ?_
   refine x_block ?_
   refine n_then ?_
   refine c_sq [] [2] hf14 .nil fun a24 hf30=>?_
   refine c_ret ?_
   refine c_rt [] (.slice e1 y1.length q1) hf30 .nil ?_
   obtain rfl:=some_eq hr15
   exact ⟨_,rfl,z2,e1,q1,(zt k2 k3),rfl,(St.pick 1 [0] hS3 (by kernel_rfl))⟩
def F95_j2 (fuel:Nat) (x0l:List Lot) (x0h:List (List (List Part))) (r1:Int) (y1:Int) (y2:Int) (y3:Int) (y4:Int):Option (Int×Int×Int×Int×Int×Bool) :=
  ((F24 fuel x0l x0h (w64 ((1:Int) + r1)) y1 y2 y3 y4).bind fun r2=>(some ((w64 ((1:Int) + r1)),y1,y2,y3,y4,(r2 == (0:Int)))))
def F95_j4 (fuel:Nat) (x0l:List Lot) (x0h:List (List (List Part))) (y5:Int) (r1:Int) (r3:Int) (y6:Int):Option (Int×Int×Int×Int×Int×Bool) :=
  (cond ((w64 ((1:Int) + r1)) != (6:Int)) ((getI x0h r3).bind fun p1=>((F77 fuel p1).bind fun r4=>((F35 fuel y5 (if r4 > 1 then r4 else 1)).bind fun r5=>(F95_j2 fuel x0l x0h r1 0 r3 y6 (w64 ((1:Int) + r5)))))) (F95_j2 fuel x0l x0h r1 0 r3 y6 0))
def F95_j3 (fuel:Nat) (x0l:List Lot) (x0h:List (List (List Part))) (y7:Int) (y5:Int) (r1:Int) (r3:Int) (r6:Int) (y8:Int) (y9:Bool):Option (Int×Int×Int×Int×Int×Bool) :=
  (cond y9 ((F35 fuel y7 (x0l.length:Int)).bind fun r7=>((getI x0l r7).bind fun p2=>(F95_j2 fuel x0l x0h r1 p2.id 0 r6 y8))) (cond ((w64 ((1:Int) + r1)) == (4:Int)) (F95_j4 fuel x0l x0h y5 r1 r3 r6) (F95_j4 fuel x0l x0h y5 r1 r3 0)))
def F95_j1 (fuel:Nat) (x0l:List Lot) (x0h:List (List (List Part))) (y7:Int) (y5:Int) (r1:Int) (r3:Int) (r6:Int) (y8:Int):Option (Int×Int×Int×Int×Int×Bool) :=
  (cond ((w64 ((1:Int) + r1)) == (1:Int)) (F95_j3 fuel x0l x0h y7 y5 r1 r3 r6 y8 true) (F95_j3 fuel x0l x0h y7 y5 r1 r3 r6 y8 ((w64 ((1:Int) + r1)) == (2:Int))))
def F95 (fuel:Nat) (x0l:List Lot) (x0h:List (List (List Part))) (y10:Int) (y7:Int) (y11:Int) (y12:Int) (y5:Int):Option (Int×Int×Int×Int×Int×Bool) :=
  ((F35 fuel y10 6).bind fun r1=>((F35 fuel y11 4).bind fun r3=>((F35 fuel y12 4).bind fun r6=>((F35 fuel y5 400).bind fun r8=>((F35 fuel (w64 (Int.tdiv y5 400)) 9).bind fun r9=>(cond (r9 == (0:Int)) ((F35 fuel y5 5000000).bind fun r10=>(F95_j1 fuel x0l x0h y7 y5 r1 r3 r6 (w64 ((1:Int) + r10)))) (F95_j1 fuel x0l x0h y7 y5 r1 r3 r6 (w64 ((1:Int) + r8)))))))))
set_option maxRecDepth 100000 in
theorem f95_ok (fuel:Nat) (x0l:List Lot) (x0h:List (List (List Part))) (y10:Int) (y7:Int) (y11:Int) (y12:Int) (y5:Int) (r:Int×Int×Int×Int×Int×Bool) (hr:F95 fuel x0l x0h y10 y7 y11 y12 y5=some r) (h:Zone) (L:List Atom) (w:World) (hS:St h L w) (o_x0l:Option Addr) (c_x0l:Nat) (hx_x0l:SliceR LotT h o_x0l c_x0l x0l) (V00 V01 V02 V03 V04 V05 V06 V07 V08:Value) (hx_x0h:(Ty.arr 9 (Ty.slice (Ty.slice PartT))).rep h [V00,V01,V02,V03,V04,V05,V06,V07,V08] x0h) :
    Calls Try.prog 95 #[.agg #[.slice o_x0l x0l.length c_x0l,V00,V01,V02,V03,V04,V05,V06,V07,V08], .agg #[vI y10,vI y7,vI y11,vI y12,vI y5]] w fun e w'=>∃v,e= .returned v∧(∃h',Zone.le h h'∧v= .tuple #[.agg #[vI r.1,vI r.2.1,vI r.2.2.1,vI r.2.2.2.1,vI r.2.2.2.2.1], .bool r.2.2.2.2.2]∧St h' L w'):=by
 refine calls_intro (N:=84) Try.func95 (by kernel_rfl) fun a hf=>?_
 refine c_sr ?_
 refine c_box [.slice o_x0l x0l.length c_x0l,V00,V01,V02,V03,V04,V05,V06,V07,V08] 26 hS hf fun b1 ww1 a1 hS1 hf1=>⟨fun _=>trivial,?_⟩
 refine c_box [vI y10,vI y7,vI y11,vI y12,vI y5] 136 hS1 hf1 fun b2 ww2 a2 hS2 hf2=>⟨fun _=>trivial,?_⟩
 refine c_box [vI 0,vI 0,vI 0,vI 0,vI 0] 28 hS2 hf2 fun b3 ww3 a3 hS3 hf3=>⟨fun _=>trivial,?_⟩
 refine c_t [] [2,3,4] hf3 .nil fun a4 hf4=>?_
 refine c_sr ?_
 refine c_n (oC:=[.prop ((0:Int)≤0∧(0:Int)<(5:Nat)), .cell ⟨b2,0,none⟩ (vI y10)]) 2 [vI y10] [2,3,4,11] hf4 (.prop (by decide) (.cell (hS3.box (i:=1) rfl (j:=0) rfl) .nil)) fun a5 hf5=>?_
 obtain ⟨r1,hd1,hr1⟩:=bind_some hr
 refine c_call hf5 (f35_ok fuel y10 6 r1 hd1 h _ _ hS3 ) ?_
 rintro v1 ww4 a6 ⟨rfl,hS4⟩ hf6
 refine ⟨fun _=>trivial,?_⟩
 refine c_n 2 [] [2,3,4,14] hf6 .nil fun a7 hf7=>?_
 refine c_box [vI 0,vI 0,vI 0,vI 0,vI 0] 28 hS4 hf7 fun b4 ww5 a8 hS5 hf8=>⟨fun _=>trivial,?_⟩
 refine c_st 0 [vI (w64 ((1:Int) + r1)),vI 0,vI 0,vI 0,vI 0] hS5 hf8 rfl fun ww6 a9 hS6 hf9=>⟨fun _=>trivial,?_⟩
 refine c_dt ?_
 refine c_sr ?_
 refine c_n (oC:=[.prop ((0:Int)≤2∧(2:Int)<(5:Nat)), .cell ⟨b2,2,none⟩ (vI y11)]) 2 [vI y11] [2,3,4,6,16] hf9 (.prop (by decide) (.cell (hS6.box (i:=2) rfl (j:=2) rfl) .nil)) fun a10 hf10=>?_
 obtain ⟨r3,hd2,hr2⟩:=bind_some hr1
 refine c_call hf10 (f35_ok fuel y11 4 r3 hd2 h _ _ hS6 ) ?_
 rintro v2 ww7 a11 ⟨rfl,hS7⟩ hf11
 refine ⟨fun _=>trivial,?_⟩
 refine c_t [] [2,3,4,6,7] hf11 .nil fun a12 hf12=>?_
 refine c_sr ?_
 refine c_n (oC:=[.prop ((0:Int)≤3∧(3:Int)<(5:Nat)), .cell ⟨b2,3,none⟩ (vI y12)]) 2 [vI y12] [2,3,4,6,7,19] hf12 (.prop (by decide) (.cell (hS7.box (i:=2) rfl (j:=3) rfl) .nil)) fun a13 hf13=>?_
 obtain ⟨r6,hd3,hr3⟩:=bind_some hr2
 refine c_call hf13 (f35_ok fuel y12 4 r6 hd3 h _ _ hS7 ) ?_
 rintro v3 ww8 a14 ⟨rfl,hS8⟩ hf14
 refine ⟨fun _=>trivial,?_⟩
 refine c_t [] [2,3,4,6,7,8] hf14 .nil fun a15 hf15=>?_
 refine c_sr ?_
 refine c_n (oC:=[.prop ((0:Int)≤4∧(4:Int)<(5:Nat)), .cell ⟨b2,4,none⟩ (vI y5)]) 2 [vI y5] [2,3,4,6,7,8,22] hf15 (.prop (by decide) (.cell (hS8.box (i:=2) rfl (j:=4) rfl) .nil)) fun a16 hf16=>?_
 obtain ⟨r8,hd4,hr4⟩:=bind_some hr3
 refine c_call hf16 (f35_ok fuel y5 400 r8 hd4 h _ _ hS8 ) ?_
 rintro v4 ww9 a17 ⟨rfl,hS9⟩ hf17
 refine ⟨fun _=>trivial,?_⟩
 refine c_t [] [2,3,4,6,7,8,9] hf17 .nil fun a18 hf18=>?_
 refine c_mid (fun a w=>∃z1:Zone,∃y8:Int,Zone.le h z1∧Fr a 84 [(2,pB b1 0),(3,pB b2 0),(4,pB b3 0),(6,pB b4 0),(7,vI r3),(8,vI r6),(9,vI y8)]∧St z1 (box b4 [vI (w64 ((1:Int) + r1)),vI 0,vI 0,vI 0,vI 0] 28::box b3 [vI 0,vI 0,vI 0,vI 0,vI 0] 28::box b2 [vI y10,vI y7,vI y11,vI y12,vI y5] 136::box b1 [.slice o_x0l x0l.length c_x0l,V00,V01,V02,V03,V04,V05,V06,V07,V08] 26::L) w∧(F95_j1 fuel x0l x0h y7 y5 r1 r3 r6 y8)=some r) ?_ ?_
 ·skip
  refine c_sr ?_
  refine c_n (oC:=[.prop ((0:Int)≤4∧(4:Int)<(5:Nat)), .cell ⟨b2,4,none⟩ (vI y5), .prop ((400:Int)≠0)]) 3 [vI y5] [2,3,4,6,7,8,9,27] hf18 (.prop (by decide) (.cell (hS9.box (i:=2) rfl (j:=4) rfl) (.prop (by decide) .nil))) fun a19 hf19=>?_
  obtain ⟨r9,hd5,hr5⟩:=bind_some hr4
  refine c_call hf19 (f35_ok fuel (w64 (Int.tdiv y5 400)) 9 r9 hd5 h _ _ hS9 ) ?_
  rintro v5 ww10 a20 ⟨rfl,hS10⟩ hf20
  refine ⟨fun _=>trivial,?_⟩
  refine c_t [] [2,3,4,6,7,8,9,29] hf20 .nil fun a21 hf21=>?_
  refine c_if (r9 == (0:Int)) hf21 (fun hb1=>?_) (fun hb1=>?_)
  ·have hr6:=cond_t hb1 hr5
   refine c_reg ?_
   refine c_n (oC:=[.prop ((0:Int)≤4∧(4:Int)<(5:Nat)), .cell ⟨b2,4,none⟩ (vI y5)]) 2 [vI y5] [2,3,4,6,7,8,31] hf21 (.prop (by decide) (.cell (hS10.box (i:=2) rfl (j:=4) rfl) .nil)) fun a22 hf22=>?_
   obtain ⟨r10,hd6,hr7⟩:=bind_some hr6
   refine c_call hf22 (f35_ok fuel y5 5000000 r10 hd6 h _ _ hS10 ) ?_
   rintro v6 ww11 a23 ⟨rfl,hS11⟩ hf23
   refine ⟨fun _=>trivial,?_⟩
   refine c_t [] [2,3,4,6,7,8,9] hf23 .nil fun a24 hf24=>?_
   exact ⟨h,(w64 ((1:Int) + r10)),zr,hf24.to,hS11,hr7⟩
  ·have hr8:=cond_f hb1 hr5
   refine c_skip ?_
   refine n_then ?_
   exact ⟨h,(w64 ((1:Int) + r8)),zr,hf21.to,hS10,hr8⟩
 ·rintro a25 ww12 ⟨z1,y8,k1,hf27,hS12,hr9⟩
  refine c_mid (fun a w=>∃z2:Zone,∃y1:Int,∃y2:Int,∃y3:Int,∃y4:Int,Zone.le z1 z2∧Fr a 84 [(2,pB b1 0),(4,pB b3 0),(6,pB b4 0)]∧St z2 (box b4 [vI (w64 ((1:Int) + r1)),vI y1,vI y2,vI y3,vI y4] 28::box b3 [vI 0,vI 0,vI 0,vI 0,vI 0] 28::box b2 [vI y10,vI y7,vI y11,vI y12,vI y5] 136::box b1 [.slice o_x0l x0l.length c_x0l,V00,V01,V02,V03,V04,V05,V06,V07,V08] 26::L) w∧(F95_j2 fuel x0l x0h r1 y1 y2 y3 y4)=some r) ?_ ?_
  ·skip
   refine c_mid (fun a w=>∃z3:Zone,∃y9:Bool,Zone.le z1 z3∧Fr a 84 [(2,pB b1 0),(3,pB b2 0),(4,pB b3 0),(6,pB b4 0),(7,vI r3),(8,vI r6),(9,vI y8),(41, .bool y9)]∧St z3 (box b4 [vI (w64 ((1:Int) + r1)),vI 0,vI 0,vI 0,vI 0] 28::box b3 [vI 0,vI 0,vI 0,vI 0,vI 0] 28::box b2 [vI y10,vI y7,vI y11,vI y12,vI y5] 136::box b1 [.slice o_x0l x0l.length c_x0l,V00,V01,V02,V03,V04,V05,V06,V07,V08] 26::L) w∧(F95_j3 fuel x0l x0h y7 y5 r1 r3 r6 y8 y9)=some r) ?_ ?_
   ·skip
    refine c_reg ?_
    refine c_n 4 [vI (w64 ((1:Int) + r1))] [2,3,4,6,7,8,9,37] hf27 (.cell (hS12.box (i:=0) rfl (j:=0) rfl) .nil) fun a26 hf28=>?_
    rcases bft ((w64 ((1:Int) + r1)) == (1:Int)) with hb2 | hb2
    ·have hr10:=cond_t hb2 hr9
     have hf29:=hf28.lit 37 hb2
     refine c_t [] [2,3,4,6,7,8,9,41] hf29 .nil fun a27 hf30=>?_
     exact ⟨z1,true,zr,hf30.to,hS12,hr10⟩
    ·have hr11:=cond_f hb2 hr9
     have hf32:=hf28.lit 37 hb2
     refine c_t [vI (w64 ((1:Int) + r1))] [2,3,4,6,7,8,9,41] hf32 (.cell (hS12.box (i:=0) rfl (j:=0) rfl) .nil) fun a28 hf33=>?_
     exact ⟨z1,((w64 ((1:Int) + r1)) == (2:Int)),zr,hf33.to,hS12,hr11⟩
   ·rintro a29 ww13 ⟨z3,y9,k2,hf35,hS13,hr12⟩
    refine c_if y9 hf35 (fun hb3=>?_) (fun hb3=>?_)
    ·have hr13:=cond_t hb3 hr12
     refine c_seq ?_
     have hS14:=hS13.drew
     have s1:=Sub.of zr hS14
     refine c_regD [(0,true),(1,true),(2,true),(3,true),(4,true),(5,true),(6,true),(7,false),(8,true),(9,true),(10,true),(11,true),(12,false)] [12] _ s1 ?_
     refine c_S (oF:=[.cell ⟨b1,0,none⟩ (.slice o_x0l x0l.length c_x0l), .prop ((0:Int)≤1∧(1:Int)<(5:Nat)), .cell ⟨b2,1,none⟩ (vI y7), .cell ⟨b1,0,none⟩ (.slice o_x0l x0l.length c_x0l)]) 7 [.slice o_x0l x0l.length c_x0l,vI y7, .slice o_x0l x0l.length c_x0l] [2,4,6,8,9,43,45,48] s1 hf35 (fun _ s=>(.cell (s.box (i:=3) rfl (j:=0) rfl) (.prop (by decide) (.cell (s.box (i:=2) rfl (j:=1) rfl) (.cell (s.box (i:=3) rfl (j:=0) rfl) .nil))))) .nil fun a30 hf36=>?_
     obtain ⟨r7,hd7,hr14⟩:=bind_some hr13
     refine c_call hf36 (f35_ok fuel y7 (x0l.length:Int) r7 hd7 z3 _ _ hS14 ) ?_
     rintro v7 ww14 a31 ⟨rfl,hS15⟩ hf37
     refine ⟨fun _=>Sub.of zr hS15,?_⟩
     have s2:=Sub.of zr hS15
     obtain ⟨p2,hp886,hr15⟩:=bind_some hr14
     obtain ⟨ad1,ho1,hb4,cc1,hc1,hk1⟩:=SliceR.getI (SliceR.mono (zt k1 k2) hx_x0l) hp886
     subst hc1
     refine c_S 4 [.pointer (some ad1),vI p2.id] [2,4,6,8,9,52,53] s2 hf37 (fun _ s=>(.prop ho1 (.prop hb4 (.cell (s.cell (hk1 0 _ rfl)) .nil)))) .nil fun a32 hf38=>?_
     refine c_st 0 [vI (w64 ((1:Int) + r1)),vI p2.id,vI 0,vI 0,vI 0] hS15 hf38 rfl fun ww15 a33 hS16 hf39=>⟨fun e=>absurd e (by decide),?_⟩
     refine c_dt ?_
     refine c_sr ?_
     refine c_n 2 [] [2,4,6,9,54,55] hf39 .nil fun a34 hf40=>?_
     refine c_st 0 [vI (w64 ((1:Int) + r1)),vI p2.id,vI 0,vI r6,vI 0] hS16 hf40 rfl fun ww16 a35 hS17 hf41=>⟨fun _=>trivial,?_⟩
     refine c_dt ?_
     refine c_reg ?_
     refine c_n 2 [] [2,4,6,56,57] hf41 .nil fun a36 hf42=>?_
     refine c_st 0 [vI (w64 ((1:Int) + r1)),vI p2.id,vI 0,vI r6,vI y8] hS17 hf42 rfl fun ww17 a37 hS18 hf43=>⟨fun _=>trivial,?_⟩
     refine c_dt ?_
     exact ⟨z3,p2.id,0,r6,y8,k2,hf43.to,hS18,hr15⟩
    ·have hr16:=cond_f hb3 hr12
     refine c_sr ?_
     refine c_n 2 [] [2,3,4,6,7,8,58,59] hf35 .nil fun a38 hf45=>?_
     refine c_st 0 [vI (w64 ((1:Int) + r1)),vI 0,vI r3,vI 0,vI 0] hS13 hf45 rfl fun ww18 a39 hS19 hf46=>⟨fun _=>trivial,?_⟩
     refine c_dt ?_
     refine c_mid (fun a w=>∃z4:Zone,∃y6:Int,Zone.le z3 z4∧Fr a 84 [(2,pB b1 0),(3,pB b2 0),(4,pB b3 0),(6,pB b4 0),(7,vI r3)]∧St z4 (box b4 [vI (w64 ((1:Int) + r1)),vI 0,vI r3,vI y6,vI 0] 28::box b3 [vI 0,vI 0,vI 0,vI 0,vI 0] 28::box b2 [vI y10,vI y7,vI y11,vI y12,vI y5] 136::box b1 [.slice o_x0l x0l.length c_x0l,V00,V01,V02,V03,V04,V05,V06,V07,V08] 26::L) w∧(F95_j4 fuel x0l x0h y5 r1 r3 y6)=some r) ?_ ?_
     ·skip
      refine c_sq [vI (w64 ((1:Int) + r1))] [2,3,4,6,7,8,62] hf46 (.cell (hS19.box (i:=0) rfl (j:=0) rfl) .nil) fun a40 hf47=>?_
      refine c_if ((w64 ((1:Int) + r1)) == (4:Int)) hf47 (fun hb5=>?_) (fun hb5=>?_)
      ·have hr17:=cond_t hb5 hr16
       refine c_reg ?_
       refine c_n 2 [] [2,3,4,6,7,63,64] hf47 .nil fun a41 hf48=>?_
       refine c_st 0 [vI (w64 ((1:Int) + r1)),vI 0,vI r3,vI r6,vI 0] hS19 hf48 rfl fun ww19 a42 hS20 hf49=>⟨fun _=>trivial,?_⟩
       refine c_dt ?_
       exact ⟨z3,r6,zr,hf49.to,hS20,hr17⟩
      ·have hr18:=cond_f hb5 hr16
       refine c_skip ?_
       refine n_then ?_
       exact ⟨z3,0,zr,hf47.to,hS19,hr18⟩
     ·rintro a43 ww20 ⟨z4,y6,k3,hf52,hS21,hr19⟩
      refine c_sq [vI (w64 ((1:Int) + r1))] [2,3,4,6,7,67] hf52 (.cell (hS21.box (i:=0) rfl (j:=0) rfl) .nil) fun a44 hf53=>?_
      refine c_if ((w64 ((1:Int) + r1)) != (6:Int)) hf53 (fun hb6=>?_) (fun hb6=>?_)
      ·have hr20:=cond_t hb6 hr19
       have hS22:=hS21.drew
       have s3:=Sub.of zr hS22
       refine c_regD [(0,true),(1,true),(2,true),(3,true),(4,true),(5,true),(6,false),(7,true),(8,false),(9,true),(10,true),(11,false)] [8,11] _ s3 ?_
       obtain ⟨p1,hp981,hr21⟩:=bind_some hr20
       obtain ⟨hb7,_,hv1,e1,q1,hehv985,hx1⟩:=arrGet (Ty.mono _ (zt (zt k1 k2) k3) hx_x0h) rfl hp981
       obtain rfl:=List.head_eq_of_cons_eq hehv985
       refine c_S (oF:=[.prop ((0:Int)≤4∧(4:Int)<(5:Nat)), .cell ⟨b2,4,none⟩ (vI y5), .prop (0≤r3∧r3<(9:Nat)), .cell ((⟨b1,1,none⟩:Addr).add (Int.toNat r3 * 1)) (.slice e1 p1.length q1)]) 6 [vI y5, .slice e1 p1.length q1] [2,4,6,69,73] s3 hf53 (fun _ s=>(.prop (by decide) (.cell (s.box (i:=2) rfl (j:=4) rfl) (.prop hb7 (.cell ((arrAddr b1 1 r3.toNat) ▸ (s.box (i:=3) rfl (getElem?_app_right [.slice o_x0l x0l.length c_x0l] _ _ hv1 []))) .nil))))) .nil fun a45 hf54=>?_
       obtain ⟨r4,hd8,hr22⟩:=bind_some hr21
       refine c_call hf54 (f77_ok fuel p1 r4 hd8 z4 _ _ hS22 e1 q1 hx1) ?_
       rintro v8 ww21 a46 ⟨z5,k4,rfl,hS23⟩ hf55
       refine ⟨fun _=>Sub.of k4 hS23,?_⟩
       have s4:=Sub.of k4 hS23
       refine c_S 1 [] [2,4,6,69,75] s4 hf55 (fun _ s=> .nil) .nil fun a47 hf56=>?_
       obtain ⟨r5,hd9,hr23⟩:=bind_some hr22
       refine c_call hf56 (f35_ok fuel y5 (if r4 > 1 then r4 else 1) r5 hd9 z5 _ _ hS23 ) ?_
       rintro v9 ww22 a48 ⟨rfl,hS24⟩ hf57
       refine ⟨fun e=>absurd e (by decide),?_⟩
       refine p_qP 2 [] [(2,pB b1 0),(4,pB b3 0),(6,pB b4 0),(77,vI (w64 ((1:Int) + r5))),(78,pB b4 4)] [] hf57 (by kernel_rfl) (fun _=> .nil) fun a49 hf58=>?_
       refine c_st 0 [vI (w64 ((1:Int) + r1)),vI 0,vI r3,vI y6,vI (w64 ((1:Int) + r5))] hS24 hf58 rfl fun ww23 a50 hS25 hf59=>⟨fun e=>absurd e (by decide),?_⟩
       refine c_dt ?_
       exact ⟨z5,0,r3,y6,(w64 ((1:Int) + r5)),(zt (zt k2 k3) k4),hf59.to,hS25,hr23⟩
      ·have hr24:=cond_f hb6 hr19
       refine c_skip ?_
       refine n_then ?_
       exact ⟨z4,0,r3,y6,0,(zt k2 k3),hf53.to,hS21,hr24⟩
  ·rintro a51 ww24 ⟨z2,y1,y2,y3,y4,k5,hf62,hS26,hr25⟩
   refine c_seq ?_
   have hS27:=hS26.drew
   have s5:=Sub.of zr hS27
   refine c_regD [(0,true),(1,true),(2,true),(3,false),(4,true),(5,false),(6,true)] [5] _ s5 ?_
   refine c_S 3 [vI (w64 ((1:Int) + r1)),vI y1,vI y2,vI y3,vI y4, .slice o_x0l x0l.length c_x0l,V00,V01,V02,V03,V04,V05,V06,V07,V08,vI (w64 ((1:Int) + r1)),vI y1,vI y2,vI y3,vI y4] [4,79,80,81] s5 hf62 (fun _ s=>(.cell (s.box (i:=0) rfl (j:=0) rfl) (.cell (s.box (i:=0) rfl (j:=1) rfl) (.cell (s.box (i:=0) rfl (j:=2) rfl) (.cell (s.box (i:=0) rfl (j:=3) rfl) (.cell (s.box (i:=0) rfl (j:=4) rfl) (.cell (s.box (i:=3) rfl (j:=0) rfl) (.cell (s.box (i:=3) rfl (j:=1) rfl) (.cell (s.box (i:=3) rfl (j:=2) rfl) (.cell (s.box (i:=3) rfl (j:=3) rfl) (.cell (s.box (i:=3) rfl (j:=4) rfl) (.cell (s.box (i:=3) rfl (j:=5) rfl) (.cell (s.box (i:=3) rfl (j:=6) rfl) (.cell (s.box (i:=3) rfl (j:=7) rfl) (.cell (s.box (i:=3) rfl (j:=8) rfl) (.cell (s.box (i:=3) rfl (j:=9) rfl) (.cell (s.box (i:=0) rfl (j:=0) rfl) (.cell (s.box (i:=0) rfl (j:=1) rfl) (.cell (s.box (i:=0) rfl (j:=2) rfl) (.cell (s.box (i:=0) rfl (j:=3) rfl) (.cell (s.box (i:=0) rfl (j:=4) rfl) .nil))))))))))))))))))))) .nil fun a52 hf63=>?_
   obtain ⟨r2,hd10,hr26⟩:=bind_some hr25
   refine c_call hf63 (f24_ok fuel x0l x0h (w64 ((1:Int) + r1)) y1 y2 y3 y4 r2 hd10 z2 _ _ hS27 o_x0l c_x0l (SliceR.mono (zt k1 k5) hx_x0l) V00 V01 V02 V03 V04 V05 V06 V07 V08 (Ty.mono _ (zt k1 k5) hx_x0h)) ?_
   rintro v10 ww25 a53 ⟨z6,k6,rfl,hS28⟩ hf64
   refine ⟨fun _=>Sub.of k6 hS28,?_⟩
   have s6:=Sub.of k6 hS28
   refine c_S 1 [] [4,79,83] s6 hf64 (fun _ s=> .nil) .nil fun a54 hf65=>?_
   refine c_st 1 [vI (w64 ((1:Int) + r1)),vI y1,vI y2,vI y3,vI y4] hS28 hf65 rfl fun ww26 a55 hS29 hf66=>⟨fun e=>absurd e (by decide),?_⟩
   refine p_qP 1 [] [(4,pB b3 0),(5, .bool (r2 == (0:Int)))] [] hf66 (by kernel_rfl) (fun _=> .nil) fun a56 hf67=>?_
   refine c_dt ?_
   refine c_ret ?_
   refine c_rt [vI (w64 ((1:Int) + r1)),vI y1,vI y2,vI y3,vI y4] (.tuple #[.agg #[vI (w64 ((1:Int) + r1)),vI y1,vI y2,vI y3,vI y4], .bool (r2 == (0:Int))]) hf67 (.cell (hS29.box (i:=1) rfl (j:=0) rfl) (.cell (hS29.box (i:=1) rfl (j:=1) rfl) (.cell (hS29.box (i:=1) rfl (j:=2) rfl) (.cell (hS29.box (i:=1) rfl (j:=3) rfl) (.cell (hS29.box (i:=1) rfl (j:=4) rfl) .nil))))) ?_
   obtain rfl:=some_eq hr26
   exact ⟨_,rfl,z6,(zt (zt k1 k5) k6),rfl,(St.drop 4 hS29)⟩
def F37_j2 (k1:(List Deed)→(List Lot)→(List (List (List Part)))→Int→Option (List Lot×List Deed)) (y1:Int) (y2:List Deed) (y3:List Lot) (y4:List (List (List Part))):Option (List Lot×List Deed) :=
  (k1 y2 y3 y4 (w64 (y1 + (1:Int))))
def F37_j3 (fuel:Nat) (k1:(List Deed)→(List Lot)→(List (List (List Part)))→Int→Option (List Lot×List Deed)) (y5:List Deed) (y6:List Lot) (y7:List (List (List Part))) (y1:Int) (y8:Bool) (y9:Int) (y10:Int) (y11:Int) (y12:Int) (y13:Int):Option (List Lot×List Deed) :=
  (cond y8 ((F28 fuel y6 y7 y9 y10 y11 y12 y13).bind fun r1=>((appC y5 ([⟨y9,y10,y11,y12,y13⟩])).bind fun d1=>(F37_j2 k1 y1 d1 r1.1 r1.2.1))) (F37_j2 k1 y1 y5 y6 y7))
def F37_j1 (fuel:Nat) (k1:(List Deed)→(List Lot)→(List (List (List Part)))→Int→Option (List Lot×List Deed)) (x1:List A5) (r2:List Lot) (y5:List Deed) (y6:List Lot) (y7:List (List (List Part))) (y1:Int) (y14:Bool):Option (List Lot×List Deed) :=
  (cond y14 ((getI x1 y1).bind fun p1=>((F95 fuel y6 y7 p1.a0 p1.a1 p1.a2 p1.a3 p1.a4).bind fun r3=>(F37_j3 fuel k1 y5 y6 y7 y1 r3.2.2.2.2.2 r3.1 r3.2.1 r3.2.2.1 r3.2.2.2.1 r3.2.2.2.2.1))) (some (r2,y5)))
def F37_l1 (fuel:Nat) (x1:List A5) (r2:List Lot):Nat→(List Deed)→(List Lot)→(List (List (List Part)))→Int→Option (List Lot×List Deed)
  | 0,_,_,_,_=>none
  | n1 + 1,y5,y6,y7,y1 =>
    let k1:(List Deed)→(List Lot)→(List (List (List Part)))→Int→Option (List Lot×List Deed):=F37_l1 fuel x1 r2 n1
    (cond (decide (y1<(x1.length:Int))) (cond (decide (y1<(24:Int))) (F37_j1 fuel k1 x1 r2 y5 y6 y7 y1 (decide ((r2.length:Int) > (0:Int)))) (F37_j1 fuel k1 x1 r2 y5 y6 y7 y1 false)) (F37_j1 fuel k1 x1 r2 y5 y6 y7 y1 false))
def F37 (fuel:Nat) (x0:List A4) (x1:List A5):Option (List Lot×List Deed) :=
  ((F94 fuel x0).bind fun r2=>(F37_l1 fuel x1 r2 fuel ([]) r2 ([[],[],[],[],[],[],[],[],[]]) 0))
set_option maxRecDepth 100000 in
theorem f37_ok (fuel:Nat) (x0:List A4) (x1:List A5) (r:List Lot×List Deed) (hr:F37 fuel x0 x1=some r) (h:Zone) (L:List Atom) (w:World) (hS:St h L w) (o_x0:Option Addr) (c_x0:Nat) (hx_x0:SliceR A4T h o_x0 c_x0 x0) (o_x1:Option Addr) (c_x1:Nat) (hx_x1:SliceR A5T h o_x1 c_x1 x1) :
    Calls Try.prog 37 #[.slice o_x0 x0.length c_x0, .slice o_x1 x1.length c_x1] w fun e w'=>∃v,e= .returned v∧(∃h',∃o0:Option Addr,∃c0:Nat,∃o1:Option Addr,∃c1:Nat,Zone.le h h'∧v= .tuple #[.slice o0 r.1.length c0, .slice o1 r.2.length c1]∧St h' (ownS LotT 33 o0 c0 r.1::ownS DeedT 28 o1 c1 r.2::L) w'):=by
 obtain ⟨zF,hzF,hdF,hSX⟩:=hS.exact
 refine calls_intro (N:=54) Try.func37 (by kernel_rfl) fun a hf=>?_
 refine c_sq [] [0,1] hf .nil fun a1 hf1=>?_
 refine c_sr ?_
 refine c_n 1 [] [1,12] hf1 .nil fun a2 hf2=>?_
 obtain ⟨r2,hd1,hr1⟩:=bind_some hr
 refine c_call hf2 (f94_ok fuel x0 r2 hd1 h _ _ hSX o_x0 c_x0 hx_x0) ?_
 rintro v1 ww1 a3 ⟨z1,e1,q1,k2,rfl,hS1⟩ hf3
 refine ⟨fun _=>trivial,?_⟩
 refine c_t [] [1,6] hf3 .nil fun a4 hf4=>?_
 refine c_sr ?_
 refine c_n 2 [] [1,6,15] hf4 .nil fun a5 hf5=>?_
 refine c_box [.slice none 0 0, .slice none 0 0, .slice none 0 0, .slice none 0 0, .slice none 0 0, .slice none 0 0, .slice none 0 0, .slice none 0 0, .slice none 0 0, .slice none 0 0] 26 hS1 hf5 fun b1 ww2 a6 hS2 hf6=>⟨fun _=>trivial,?_⟩
 refine c_st 0 [.slice e1 r2.length q1, .slice none 0 0, .slice none 0 0, .slice none 0 0, .slice none 0 0, .slice none 0 0, .slice none 0 0, .slice none 0 0, .slice none 0 0, .slice none 0 0] hS2 hf6 rfl fun ww3 a7 hS3 hf7=>⟨fun _=>trivial,?_⟩
 refine c_dt ?_
 refine c_sq [] [1,6,7,8] hf7 .nil fun a8 hf8=>?_
 refine c_seq ?_
 refine c_sq [] [1,6,7,8,9] hf8 .nil fun a9 hf9=>?_
 refine c_block 0 ?_
 obtain ⟨z2,xL,k3,hA0,hapx,hxle,hS4,hx1⟩:=hS3.share2 (j:=1) rfl
 have hS5:=hS4.ownNil DeedT 28
 refine c_loop (fun n a w=>∃z3:Zone,∃y5:List Deed,∃y6:List Lot,∃y7:List (List (List Part)),∃y1:Int,∃e2:Option Addr,∃q2:Nat,∃e3:Option Addr,∃q3:Nat,∃v2:Value,∃v3:Value,∃v4:Value,∃v5:Value,∃v6:Value,∃v7:Value,∃v8:Value,∃v9:Value,∃v10:Value,Zone.le z2 z3∧Fr a 54 [(1, .slice o_x1 x1.length c_x1),(6, .slice e1 r2.length q1),(7,pB b1 0),(8, .slice e2 y5.length q2),(9,vI y1)]∧St z3 (ownS DeedT 28 e2 q2 y5::box b1 [.slice e3 y6.length q3,v2,v3,v4,v5,v6,v7,v8,v9,v10] 26::emp::[exA zF]) w∧SliceR LotT z3 e3 q3 y6∧(Ty.arr 9 (Ty.slice (Ty.slice PartT))).rep z3 [v2,v3,v4,v5,v6,v7,v8,v9,v10] y7∧(F37_l1 fuel x1 r2 n y5 y6 y7 y1)=some r) fuel ⟨z2,[],r2,[[],[],[],[],[],[],[],[],[]],0,none,0,e1,q1,(.slice none 0 0),(.slice none 0 0),(.slice none 0 0),(.slice none 0 0),(.slice none 0 0),(.slice none 0 0),(.slice none 0 0),(.slice none 0 0),(.slice none 0 0),zr,hf9.to,hS5,hx1,⟨rfl,(Rows.cons (c:=[_]) (sliceRep (SliceR.nil' _ _)) (Rows.cons (c:=[_]) (sliceRep (SliceR.nil' _ _)) (Rows.cons (c:=[_]) (sliceRep (SliceR.nil' _ _)) (Rows.cons (c:=[_]) (sliceRep (SliceR.nil' _ _)) (Rows.cons (c:=[_]) (sliceRep (SliceR.nil' _ _)) (Rows.cons (c:=[_]) (sliceRep (SliceR.nil' _ _)) (Rows.cons (c:=[_]) (sliceRep (SliceR.nil' _ _)) (Rows.cons (c:=[_]) (sliceRep (SliceR.nil' _ _)) (Rows.cons (c:=[_]) (sliceRep (SliceR.nil' _ _)) rfl)))))))))⟩,hr1⟩ ?_
 rintro n2 a10 ww4 ⟨z3,y5,y6,y7,y1,e2,q2,e3,q3,v2,v3,v4,v5,v6,v7,v8,v9,v10,k4,hf11,hS6,hx2,hx3,hr2⟩
 cases n2 with
 | zero=>cases hr2
 | succ n1 =>
 refine c_seq ?_
 refine c_mid (fun a w=>∃z4:Zone,∃y14:Bool,Zone.le z3 z4∧Fr a 54 [(1, .slice o_x1 x1.length c_x1),(6, .slice e1 r2.length q1),(7,pB b1 0),(8, .slice e2 y5.length q2),(9,vI y1),(28, .bool y14)]∧St z4 (ownS DeedT 28 e2 q2 y5::box b1 [.slice e3 y6.length q3,v2,v3,v4,v5,v6,v7,v8,v9,v10] 26::emp::[exA zF]) w∧(F37_j1 fuel (F37_l1 fuel x1 r2 n1) x1 r2 y5 y6 y7 y1 y14)=some r) ?_ ?_
 ·skip
  refine c_reg ?_
  refine c_n 5 [] [1,6,7,8,9,20] hf11 .nil fun a11 hf12=>?_
  rcases bft (decide (y1<(x1.length:Int))) with hb1 | hb1
  ·have hr3:=cond_t hb1 hr2
   have hf13:=hf12.lit 20 hb1
   refine c_n 4 [] [1,6,7,8,9,24] hf13 .nil fun a12 hf14=>?_
   rcases bft (decide (y1<(24:Int))) with hb2 | hb2
   ·have hr4:=cond_t hb2 hr3
    have hf15:=hf14.lit 24 hb2
    refine c_t [] [1,6,7,8,9,28] hf15 .nil fun a13 hf16=>?_
    exact ⟨z3,(decide ((r2.length:Int) > (0:Int))),zr,hf16.to,hS6,hr4⟩
   ·have hr5:=cond_f hb2 hr3
    have hf18:=hf14.lit 24 hb2
    refine c_t [] [1,6,7,8,9,28] hf18 .nil fun a14 hf19=>?_
    exact ⟨z3,false,zr,hf19.to,hS6,hr5⟩
  ·have hr6:=cond_f hb1 hr2
   have hf21:=hf12.lit 20 hb1
   refine c_t [] [1,6,7,8,9,28] hf21 .nil fun a15 hf22=>?_
   exact ⟨z3,false,zr,hf22.to,hS6,hr6⟩
 ·rintro a16 ww5 ⟨z4,y14,k5,hf24,hS7,hr7⟩
  refine c_if y14 hf24 (fun hb3=>?_) (fun hb3=>?_)
  ·have hr8:=cond_t hb3 hr7
   refine c_skip ?_
   refine n_then ?_
   refine c_mid (fun a w=>∃z5:Zone,∃y2:List Deed,∃y3:List Lot,∃y4:List (List (List Part)),∃e4:Option Addr,∃q4:Nat,∃e5:Option Addr,∃q5:Nat,∃v11:Value,∃v12:Value,∃v13:Value,∃v14:Value,∃v15:Value,∃v16:Value,∃v17:Value,∃v18:Value,∃v19:Value,Zone.le z4 z5∧Fr a 54 [(1, .slice o_x1 x1.length c_x1),(6, .slice e1 r2.length q1),(7,pB b1 0),(8, .slice e4 y2.length q4),(9,vI y1)]∧St z5 (ownS DeedT 28 e4 q4 y2::box b1 [.slice e5 y3.length q5,v11,v12,v13,v14,v15,v16,v17,v18,v19] 26::emp::[exA zF]) w∧SliceR LotT z5 e5 q5 y3∧(Ty.arr 9 (Ty.slice (Ty.slice PartT))).rep z5 [v11,v12,v13,v14,v15,v16,v17,v18,v19] y4∧(F37_j2 (F37_l1 fuel x1 r2 n1) y1 y2 y3 y4)=some r) ?_ ?_
   ·skip
    refine c_block 1 ?_
    refine c_mid (fun a w=>∃z6:Zone,∃y8:Bool,∃y9:Int,∃y10:Int,∃y11:Int,∃y12:Int,∃y13:Int,∃b2:Nat,Zone.le z4 z6∧Fr a 54 [(1, .slice o_x1 x1.length c_x1),(6, .slice e1 r2.length q1),(7,pB b1 0),(8, .slice e2 y5.length q2),(9,vI y1),(10,pB b2 0),(11, .bool y8)]∧St z6 (box b2 [vI y9,vI y10,vI y11,vI y12,vI y13] 28::ownS DeedT 28 e2 q2 y5::box b1 [.slice e3 y6.length q3,v2,v3,v4,v5,v6,v7,v8,v9,v10] 26::emp::[exA zF]) w∧(F37_j3 fuel (F37_l1 fuel x1 r2 n1) y5 y6 y7 y1 y8 y9 y10 y11 y12 y13)=some r) ?_ ?_
    ·skip
     have hS8:=hS7.drew
     have s1:=Sub.of zr hS8
     refine w_regB (by kernel_rfl) [5,10] (Sub z4 (ownS DeedT 28 e2 q2 y5::box b1 [.slice e3 y6.length q3,v2,v3,v4,v5,v6,v7,v8,v9,v10] 26::emp::[exA zF])) (by kernel_rfl) ?_
     refine k_seg' 7 [(0,true),(1,true),(2,true),(3,true),(4,true)] (by kernel_rfl) (by kernel_rfl) (At.start s1) (by kernel_rfl) ?_
     obtain ⟨p1,hp18292,hr9⟩:=bind_some hr8
     obtain ⟨ad1,ho1,hb4,cc1,hc1,hk1⟩:=SliceR.getI (SliceR.mono (zt (zt (zt k2 k3) k4) k5) hx_x1) hp18292
     subst hc1
     refine c_S 5 [.slice e3 y6.length q3,v2,v3,v4,v5,v6,v7,v8,v9,v10, .pointer (some ad1),vI p1.a0,vI p1.a1,vI p1.a2,vI p1.a3,vI p1.a4] [1,6,7,8,9,32,36] s1 hf24 (fun _ s=>(.cell (s.box (i:=1) rfl (j:=0) rfl) (.cell (s.box (i:=1) rfl (j:=1) rfl) (.cell (s.box (i:=1) rfl (j:=2) rfl) (.cell (s.box (i:=1) rfl (j:=3) rfl) (.cell (s.box (i:=1) rfl (j:=4) rfl) (.cell (s.box (i:=1) rfl (j:=5) rfl) (.cell (s.box (i:=1) rfl (j:=6) rfl) (.cell (s.box (i:=1) rfl (j:=7) rfl) (.cell (s.box (i:=1) rfl (j:=8) rfl) (.cell (s.box (i:=1) rfl (j:=9) rfl) (.prop ho1 (.prop hb4 (.cell (s.cell (hk1 0 _ rfl)) (.cell (s.cell (hk1 1 _ rfl)) (.cell (s.cell (hk1 2 _ rfl)) (.cell (s.cell (hk1 3 _ rfl)) (.cell (s.cell (hk1 4 _ rfl)) .nil)))))))))))))))))) .nil fun a17 hf25=>?_
     refine c_done ?_
     intro hA1
     refine k_any' 6 [5,9] (by kernel_rfl) hA1 (by kernel_rfl) (by kernel_rfl) ?_
     refine (all_cons ?_ (all_cons ?_ all_nil))
     ·skip
      obtain ⟨r3,hd2,hr10⟩:=bind_some hr9
      refine c_call hf25 (f95_ok fuel y6 y7 p1.a0 p1.a1 p1.a2 p1.a3 p1.a4 r3 hd2 z4 _ _ hS8 e3 q3 (SliceR.mono k5 hx2) v2 v3 v4 v5 v6 v7 v8 v9 v10 (Ty.mono _ k5 hx3)) ?_
      rintro v20 ww6 a18 ⟨z7,k6,rfl,hS9⟩ hf26
      refine ⟨fun e=>absurd e (by decide),?_⟩
      refine c_done ?_
      intro hA2
      refine k_seg' 0 [(6,true),(7,true),(8,true),(9,false),(10,false),(11,true)] (by kernel_rfl) (by kernel_rfl) hA2 (by kernel_rfl) ?_
      refine p_qP 3 [] [(1, .slice o_x1 x1.length c_x1),(6, .slice e1 r2.length q1),(7,pB b1 0),(8, .slice e2 y5.length q2),(9,vI y1),(38, .agg #[vI r3.1,vI r3.2.1,vI r3.2.2.1,vI r3.2.2.2.1,vI r3.2.2.2.2.1]),(39, .bool r3.2.2.2.2.2)] [] hf26 (by kernel_rfl) (fun _=> .nil) fun a19 hf27=>?_
      refine c_box [vI 0,vI 0,vI 0,vI 0,vI 0] 28 hS9 hf27 fun b3 ww7 a20 hS10 hf28=>⟨fun _=>Sub.of k6 (St.drop 1 hS10),?_⟩
      have s2:=Sub.of k6 (St.drop 1 hS10)
      refine c_st 0 [vI r3.1,vI r3.2.1,vI r3.2.2.1,vI r3.2.2.2.1,vI r3.2.2.2.2.1] hS10 hf28 rfl fun ww8 a21 hS11 hf29=>⟨fun e=>absurd e (by decide),?_⟩
      refine p_qP 1 [] [(1, .slice o_x1 x1.length c_x1),(6, .slice e1 r2.length q1),(7,pB b1 0),(8, .slice e2 y5.length q2),(9,vI y1),(10,pB b3 0),(11, .bool r3.2.2.2.2.2)] [] hf29 (by kernel_rfl) (fun _=> .nil) fun a22 hf30=>?_
      refine c_done ?_
      intro hA3
      refine k_done' (by kernel_rfl) (by kernel_rfl) ?_
      refine n_then ?_
      exact ⟨z7,r3.2.2.2.2.2,r3.1,r3.2.1,r3.2.2.1,r3.2.2.2.1,r3.2.2.2.2.1,b3,k6,hf30.to,(St.pick 1 [0] hS11 (by kernel_rfl)),hr10⟩
     ·skip
      refine c_box [vI 0,vI 0,vI 0,vI 0,vI 0] 28 hS8 hf25 fun b4 ww9 a23 hS12 hf32=>⟨fun _=>Sub.of zr (St.drop 1 hS12),?_⟩
      refine c_done ?_
      intro hA4
      have s3:=Sub.of zr (St.drop 1 hS12)
      refine k_seg' 0 [(5,false),(6,true),(7,true),(8,true),(10,false),(11,true)] (by kernel_rfl) (by kernel_rfl) hA4 (by kernel_rfl) ?_
      obtain ⟨r4,hd3,hr11⟩:=bind_some hr9
      refine c_call hf32 (f95_ok fuel y6 y7 p1.a0 p1.a1 p1.a2 p1.a3 p1.a4 r4 hd3 z4 _ _ hS12 e3 q3 (SliceR.mono k5 hx2) v2 v3 v4 v5 v6 v7 v8 v9 v10 (Ty.mono _ k5 hx3)) ?_
      rintro v21 ww10 a24 ⟨z8,k7,rfl,hS13⟩ hf33
      refine ⟨fun e=>absurd e (by decide),?_⟩
      refine p_qP 3 [] [(1, .slice o_x1 x1.length c_x1),(6, .slice e1 r2.length q1),(7,pB b1 0),(8, .slice e2 y5.length q2),(9,vI y1),(10,pB b4 0),(38, .agg #[vI r4.1,vI r4.2.1,vI r4.2.2.1,vI r4.2.2.2.1,vI r4.2.2.2.2.1]),(39, .bool r4.2.2.2.2.2)] [] hf33 (by kernel_rfl) (fun _=> .nil) fun a25 hf34=>?_
      refine c_st 0 [vI r4.1,vI r4.2.1,vI r4.2.2.1,vI r4.2.2.2.1,vI r4.2.2.2.2.1] hS13 hf34 rfl fun ww11 a26 hS14 hf35=>⟨fun e=>absurd e (by decide),?_⟩
      refine p_qP 1 [] [(1, .slice o_x1 x1.length c_x1),(6, .slice e1 r2.length q1),(7,pB b1 0),(8, .slice e2 y5.length q2),(9,vI y1),(10,pB b4 0),(11, .bool r4.2.2.2.2.2)] [] hf35 (by kernel_rfl) (fun _=> .nil) fun a27 hf36=>?_
      refine c_done ?_
      intro hA5
      refine k_done' (by kernel_rfl) (by kernel_rfl) ?_
      refine n_then ?_
      exact ⟨z8,r4.2.2.2.2.2,r4.1,r4.2.1,r4.2.2.1,r4.2.2.2.1,r4.2.2.2.2.1,b4,k7,hf36.to,(St.pick 1 [0] hS14 (by kernel_rfl)),hr11⟩
    ·rintro a28 ww12 ⟨z6,y8,y9,y10,y11,y12,y13,b2,k8,hf38,hS15,hr12⟩
     refine c_sq [] [1,6,7,8,9,10,40] hf38 .nil fun a29 hf39=>?_
     refine c_if y8 hf39 (fun hb5=>?_) (fun hb5=>?_)
     ·have hr13:=cond_t hb5 hr12
      refine c_sr ?_
      refine c_n 2 [.slice e3 y6.length q3,v2,v3,v4,v5,v6,v7,v8,v9,v10,vI y9,vI y10,vI y11,vI y12,vI y13] [1,6,7,8,9,10,42,43] hf39 (.cell (hS15.box (i:=2) rfl (j:=0) rfl) (.cell (hS15.box (i:=2) rfl (j:=1) rfl) (.cell (hS15.box (i:=2) rfl (j:=2) rfl) (.cell (hS15.box (i:=2) rfl (j:=3) rfl) (.cell (hS15.box (i:=2) rfl (j:=4) rfl) (.cell (hS15.box (i:=2) rfl (j:=5) rfl) (.cell (hS15.box (i:=2) rfl (j:=6) rfl) (.cell (hS15.box (i:=2) rfl (j:=7) rfl) (.cell (hS15.box (i:=2) rfl (j:=8) rfl) (.cell (hS15.box (i:=2) rfl (j:=9) rfl) (.cell (hS15.box (i:=0) rfl (j:=0) rfl) (.cell (hS15.box (i:=0) rfl (j:=1) rfl) (.cell (hS15.box (i:=0) rfl (j:=2) rfl) (.cell (hS15.box (i:=0) rfl (j:=3) rfl) (.cell (hS15.box (i:=0) rfl (j:=4) rfl) .nil))))))))))))))) fun a30 hf40=>?_
      obtain ⟨r1,hd4,hr14⟩:=bind_some hr13
      refine c_call hf40 (f28_ok fuel y6 y7 y9 y10 y11 y12 y13 r1 hd4 z6 _ _ hS15 e3 q3 (SliceR.mono (zt k5 k8) hx2) v2 v3 v4 v5 v6 v7 v8 v9 v10 (Ty.mono _ (zt k5 k8) hx3)) ?_
      rintro v22 ww13 a31 ⟨z9,e6,q6,v23,v24,v25,v26,v27,v28,v29,v30,v31,e7,q7,k9,rfl,hS16,hx4,hx5,hx6⟩ hf41
      refine ⟨fun _=>trivial,?_⟩
      refine c_n 4 [] [1,6,7,8,9,10,45] hf41 .nil fun a32 hf42=>?_
      have hq1:=oneCells_of (Ty.one _ (Ty.mono _ zr hx5))
      refine p_store_eq (i:=7) (j:=2) (b:=b1) (off:=0) (vs:=[.slice e6 r1.1.length q6,v23,v24,v25,v26,v27,v28,v29,v30,v31]) (cs':=[.slice e6 r1.1.length q6,v23,v24,v25,v26,v27,v28,v29,v30,v31]) hS16 hf42 rfl (by kernel_rfl) hq1 rfl fun ww14 a33 hS17 hf43=>⟨fun _=>trivial,?_⟩
      refine c_dt ?_
      refine c_reg ?_
      refine c_n 2 [vI y9,vI y10,vI y11,vI y12,vI y13] [1,6,7,9,48,49] hf43 (.cell (hS17.box (i:=0) rfl (j:=0) rfl) (.cell (hS17.box (i:=0) rfl (j:=1) rfl) (.cell (hS17.box (i:=0) rfl (j:=2) rfl) (.cell (hS17.box (i:=0) rfl (j:=3) rfl) (.cell (hS17.box (i:=0) rfl (j:=4) rfl) .nil))))) fun a34 hf44=>?_
      refine p_box (i:=2) (d:=(some 50)) (cs:=[vI y9,vI y10,vI y11,vI y12,vI y13]) (T:=28) (v:=fun b5=> .slice (some ⟨b5,0,none⟩) 1 1) hS17 hf44 (fun b=>by kernel_rfl) fun b5 ww15 a35 hS18 hf45=>⟨fun _=>trivial,?_⟩
      have hS19:=hS18.ownBox (T:=DeedT) (E:=28) (n:=1) (xs:=[⟨y9,y10,y11,y12,y13⟩]) (i:=0) rfl (Rows.cons (c:=[vI y9,vI y10,vI y11,vI y12,vI y13]) rfl rfl) rfl (by decide)
      obtain ⟨d1,hd5,hr15⟩:=bind_some hr14
      refine p_append (T:=DeedT) (i:=3) (j:=2) (d:=some 51) (o2:=(some ⟨b5,0,none⟩)) (c2:=1) (ys:=([⟨y9,y10,y11,y12,y13⟩])) el64 hS19 hf45 rfl (by kernel_rfl) (hS19.ownSrc (j:=0) rfl) hd5 fun e8 q8 ww16 a36 hS20 hf46=>⟨fun _=>trivial,?_⟩
      refine c_z [] [1,6,7,8,9] hf46 .nil fun a37 hf47=>?_
      refine n_block ?_
      refine n_then ?_
      exact ⟨z9,d1,r1.1,r1.2.1,e8,q8,e6,q6,v23,v24,v25,v26,v27,v28,v29,v30,v31,(zt k8 k9),hf47.to,(St.drop 2 hS20),hx4,(Ty.mono _ zr hx5),hr15⟩
     ·have hr16:=cond_f hb5 hr12
      refine c_skip ?_
      refine n_block ?_
      refine n_then ?_
      exact ⟨z6,y5,y6,y7,e2,q2,e3,q3,v2,v3,v4,v5,v6,v7,v8,v9,v10,k8,hf39.to,(St.drop 1 hS15),(SliceR.mono (zt k5 k8) hx2),(Ty.mono _ (zt k5 k8) hx3),hr16⟩
   ·rintro a38 ww17 ⟨z5,y2,y3,y4,e4,q4,e5,q5,v11,v12,v13,v14,v15,v16,v17,v18,v19,k10,hf50,hS21,hx7,hx8,hr17⟩
    refine c_q [] [1,6,7,8,9] hf50 .nil fun a39 hf51=>?_
    refine n_then ?_
    exact ⟨n1,Nat.lt_succ_self n1,z5,y2,y3,y4,(w64 (y1 + (1:Int))),e4,q4,e5,q5,v11,v12,v13,v14,v15,v16,v17,v18,v19,(zt (zt k4 k5) k10),hf51.to,hS21,hx7,(Ty.mono _ zr hx8),hr17⟩
  ·have hr18:=cond_f hb3 hr7
   refine c_exit 0 ?_
   refine x_then ?_
   refine x_then ?_
   refine x_block ?_
   refine n_then ?_
   refine c_sq [] [4,5] hf24 .nil fun a40 hf53=>?_
   refine c_ret ?_
   have hT:=St.thaw (B':=ownS DeedT 28 e2 q2 _) hzF (Hp.apart_le (Zone.le.blk k2) hapx) (ownS_flat LotT_flat _ _ _ hA0) (Hp.le_trans hxle (Zone.le.blk (zt k4 k5))) (zt (zt (zt k2 k3) k4) k5) (fun y hy=>ownS_flat DeedT_flat _ _ _ hy) (St.pick 3 [0] hS7 (by kernel_rfl))
   refine c_rt [] (.tuple #[.slice e1 r2.length q1, .slice e2 y5.length q2]) hf53 .nil ?_
   obtain rfl:=some_eq hr18
   exact ⟨_,rfl,h,e1,q1,e2,q2,zr,rfl,hT⟩
end Go.Proofs.Ytlmgjjmighajdaa
set_option linter.unusedVariables false
namespace Go.Proofs.Ytlmgjjmighajdaa
open Go.Sl Go.Sx
def F45_l8 (k1:(List (Int×Int))→Int→Option (List Account×Int)) (y1:Int) (p1:List Part):Nat→(List (Int×Int))→Int→Option (List Account×Int)
  | 0,_,_=>none
  | n1 + 1,y2,y3 =>
    let k2:(List (Int×Int))→Int→Option (List Account×Int):=F45_l8 k1 y1 p1 n1
    (cond (decide (y3<(p1.length:Int))) ((getI p1 y3).bind fun p2=>(k2 (putK y2 p2.lot (w64 ((lkK y2 p2.lot (0:Int)) + p2.mass))) (w64 (y3 + (1:Int))))) (k1 y2 (w64 (y1 + (1:Int)))))
def F45_l7 (fuel:Nat) (k3:(List (Int×Int))→Int→Option (List Account×Int)) (y4:Int) (p3:List (List Part)):Nat→(List (Int×Int))→Int→Option (List Account×Int)
  | 0,_,_=>none
  | n2 + 1,y5,y1 =>
    let k1:(List (Int×Int))→Int→Option (List Account×Int):=F45_l7 fuel k3 y4 p3 n2
    (cond (decide (y1<(p3.length:Int))) ((getI p3 y1).bind fun p1=>(F45_l8 k1 y1 p1 fuel y5 0)) (k3 y5 (w64 (y4 + (1:Int)))))
def F45_l9 (x0:List Lot) (y6:List (Int×Int)) (y7:List (Int×Int)) (y8:List (Int×Int)) (y9:List (Int×Int)):Nat→(List Account)→Int→Option (List Account×Int)
  | 0,_,_=>none
  | n3 + 1,y10,y11 =>
    let k4:(List Account)→Int→Option (List Account×Int):=F45_l9 x0 y6 y7 y8 y9 n3
    (cond (decide (y11<(x0.length:Int))) ((getI x0 y11).bind fun p4=>((appC y10 ([⟨p4.id,(lkK y8 p4.id (0:Int)),(lkK y7 p4.id (0:Int)),(lkK y6 p4.id (0:Int)),(lkK y9 p4.id (0:Int))⟩])).bind fun d1=>(k4 d1 (w64 (y11 + (1:Int)))))) (some (y10,0)))
def F45_l6 (fuel:Nat) (x0:List Lot) (y6:List (Int×Int)) (y7:List (Int×Int)) (y8:List (Int×Int)) (p5:Pl):Nat→(List (Int×Int))→Int→Option (List Account×Int)
  | 0,_,_=>none
  | n4 + 1,y9,y4 =>
    let k3:(List (Int×Int))→Int→Option (List Account×Int):=F45_l6 fuel x0 y6 y7 y8 p5 n4
    (cond (decide (y4<(9:Int))) ((getI p5.holds y4).bind fun p3=>(F45_l7 fuel k3 y4 p3 fuel y9 0)) (F45_l9 x0 y6 y7 y8 y9 fuel ([]) 0))
def F45_j1 (fuel:Nat) (x0:List Lot) (y6:List (Int×Int)) (y7:List (Int×Int)) (y8:List (Int×Int)) (y12:Option Pl) (y13:Int) (y14:Int):Option (List Account×Int) :=
  (cond (y14 != (0:Int)) (some ([],y14)) ((y12).bind fun p5=>(F45_l6 fuel x0 y6 y7 y8 p5 fuel ([]) 0)))
def F45_j2 (k5:Pl→(List (Int×Int))→(List (Int×Int))→(List (Int×Int))→Int→Option (List Account×Int)) (y15:Int) (r1:List Part×List (Int×Bool)×Int×Pl) (y16:List (Int×Int)) (y17:List (Int×Int)) (y18:List (Int×Int)):Option (List Account×Int) :=
  (k5 r1.2.2.2 y16 y17 y18 (w64 (y15 + (1:Int))))
def F45_l2 (k5:Pl→(List (Int×Int))→(List (Int×Int))→(List (Int×Int))→Int→Option (List Account×Int)) (y19:List (Int×Int)) (y20:List (Int×Int)) (y15:Int) (r1:List Part×List (Int×Bool)×Int×Pl):Nat→(List (Int×Int))→Int→Option (List Account×Int)
  | 0,_,_=>none
  | n5 + 1,y21,y22 =>
    let k6:(List (Int×Int))→Int→Option (List Account×Int):=F45_l2 k5 y19 y20 y15 r1 n5
    (cond (decide (y22<(r1.1.length:Int))) ((getI r1.1 y22).bind fun p6=>(k6 (putK y21 p6.lot (w64 ((lkK y21 p6.lot (0:Int)) + p6.mass))) (w64 (y22 + (1:Int))))) (F45_j2 k5 y15 r1 y19 y20 y21))
def F45_l3 (k5:Pl→(List (Int×Int))→(List (Int×Int))→(List (Int×Int))→Int→Option (List Account×Int)) (y19:List (Int×Int)) (y23:List (Int×Int)) (y15:Int) (r1:List Part×List (Int×Bool)×Int×Pl):Nat→(List (Int×Int))→Int→Option (List Account×Int)
  | 0,_,_=>none
  | n6 + 1,y24,y25 =>
    let k7:(List (Int×Int))→Int→Option (List Account×Int):=F45_l3 k5 y19 y23 y15 r1 n6
    (cond (decide (y25<(r1.1.length:Int))) ((getI r1.1 y25).bind fun p7=>(k7 (putK y24 p7.lot (w64 ((lkK y24 p7.lot (0:Int)) + p7.mass))) (w64 (y25 + (1:Int))))) (F45_j2 k5 y15 r1 y19 y24 y23))
def F45_l4 (k5:Pl→(List (Int×Int))→(List (Int×Int))→(List (Int×Int))→Int→Option (List Account×Int)) (y20:List (Int×Int)) (y23:List (Int×Int)) (y15:Int) (r1:List Part×List (Int×Bool)×Int×Pl):Nat→(List (Int×Int))→Int→Option (List Account×Int)
  | 0,_,_=>none
  | n7 + 1,y26,y27 =>
    let k8:(List (Int×Int))→Int→Option (List Account×Int):=F45_l4 k5 y20 y23 y15 r1 n7
    (cond (decide (y27<(r1.1.length:Int))) ((getI r1.1 y27).bind fun p8=>(k8 (putK y26 p8.lot (w64 ((lkK y26 p8.lot (0:Int)) + p8.mass))) (w64 (y27 + (1:Int))))) (F45_j2 k5 y15 r1 y26 y20 y23))
def F45_l5 (k5:Pl→(List (Int×Int))→(List (Int×Int))→(List (Int×Int))→Int→Option (List Account×Int)) (y19:List (Int×Int)) (y20:List (Int×Int)) (y23:List (Int×Int)) (y15:Int) (r1:List Part×List (Int×Bool)×Int×Pl):Nat→Int→Option (List Account×Int)
  | 0,_=>none
  | n8 + 1,y28 =>
    let k9:Int→Option (List Account×Int):=F45_l5 k5 y19 y20 y23 y15 r1 n8
    (cond (decide (y28<(r1.1.length:Int))) ((getI r1.1 y28).bind fun p9=>(k9 (w64 (y28 + (1:Int))))) (F45_j2 k5 y15 r1 y19 y20 y23))
def F45_l1 (fuel:Nat) (x0:List Lot) (x1:List Deed):Nat→Pl→(List (Int×Int))→(List (Int×Int))→(List (Int×Int))→Int→Option (List Account×Int)
  | 0,_,_,_,_,_=>none
  | n9 + 1,y29,y19,y20,y23,y15 =>
    let k5:Pl→(List (Int×Int))→(List (Int×Int))→(List (Int×Int))→Int→Option (List Account×Int):=F45_l1 fuel x0 x1 n9
    (cond (decide (y15<(x1.length:Int))) ((getI x1 y15).bind fun p10=>((F82 fuel y29 p10.kind p10.lot p10.frm p10.to p10.mass).bind fun r1=>(cond (r1.2.2.1 != (0:Int)) (F45_j1 fuel x0 y19 y20 y23 none y15 r1.2.2.1) ((getI x1 y15).bind fun p11=>(cond ((p11.kind == 1) || (p11.kind == 2)) (F45_l2 k5 y19 y20 y15 r1 fuel y23 0) (cond (p11.kind == 3) (F45_l3 k5 y19 y23 y15 r1 fuel y20 0) (cond (p11.kind == 5) (F45_l4 k5 y20 y23 y15 r1 fuel y19 0) (F45_l5 k5 y19 y20 y23 y15 r1 fuel 0)))))))) (F45_j1 fuel x0 y19 y20 y23 (some y29) (x1.length:Int) 0))
def F45 (fuel:Nat) (x0:List Lot) (x1:List Deed):Option (List Account×Int) :=
  ((F110 fuel x0 x1).bind fun r2=>(cond (r2 != (0:Int)) (F45_j1 fuel x0 ([]) ([]) ([]) none 0 r2) ((F81 fuel x0 ([[],[],[],[],[],[],[],[],[]])).bind fun r3=>(F45_l1 fuel x0 x1 fuel r3 ([]) ([]) ([]) 0))))
set_option maxRecDepth 100000 in
theorem f45_ok (fuel:Nat) (x0:List Lot) (x1:List Deed) (r:List Account×Int) (hr:F45 fuel x0 x1=some r) (h:Zone) (L:List Atom) (w:World) (hS:St h L w) (o_x0:Option Addr) (c_x0:Nat) (hx_x0:SliceR LotT h o_x0 c_x0 x0) (o_x1:Option Addr) (c_x1:Nat) (hx_x1:SliceR DeedT h o_x1 c_x1 x1) :
    Calls Try.prog 45 #[.slice o_x0 x0.length c_x0, .slice o_x1 x1.length c_x1] w fun e w'=>∃v,e= .returned v∧(∃h',∃o0:Option Addr,∃c0:Nat,Zone.le h h'∧v= .tuple #[.slice o0 r.1.length c0,vI r.2]∧St h' L w'∧SliceR AccountT h' o0 c0 r.1):=by
 refine calls_intro (N:=98) Try.func45 (by kernel_rfl) fun a hf=>?_
 refine c_sr ?_
 refine c_box [.slice o_x1 x1.length c_x1] 64 hS hf fun b1 ww1 a1 hS1 hf1=>⟨fun _=>trivial,?_⟩
 refine c_t [] [0,3] hf1 .nil fun a2 hf2=>?_
 refine c_sr ?_
 refine p_makeMap (i:=0) (d:=(some 22)) (Value.int .i64) hS1 hf2 (fun b=>by kernel_rfl) fun b2 ww2 a3 hS2 hf3=>⟨fun _=>trivial,?_⟩
 refine p_makeMap (i:=1) (d:=(some 23)) (Value.int .i64) hS2 hf3 (fun b=>by kernel_rfl) fun b3 ww3 a4 hS3 hf4=>⟨fun _=>trivial,?_⟩
 refine p_makeMap (i:=2) (d:=(some 24)) (Value.int .i64) hS3 hf4 (fun b=>by kernel_rfl) fun b4 ww4 a5 hS4 hf5=>⟨fun _=>trivial,?_⟩
 refine p_makeMap (i:=3) (d:=(some 25)) (Value.int .i64) hS4 hf5 (fun b=>by kernel_rfl) fun b5 ww5 a6 hS5 hf6=>⟨fun _=>trivial,?_⟩
 refine c_box [.map none] 144 hS5 hf6 fun b6 ww6 a7 hS6 hf7=>⟨fun _=>trivial,?_⟩
 refine c_box [.map none] 144 hS6 hf7 fun b7 ww7 a8 hS7 hf8=>⟨fun _=>trivial,?_⟩
 refine c_box [.map none] 144 hS7 hf8 fun b8 ww8 a9 hS8 hf9=>⟨fun _=>trivial,?_⟩
 refine c_st 2 [.map (some b2)] hS8 hf9 rfl fun ww9 a10 hS9 hf10=>⟨fun _=>trivial,?_⟩
 refine c_st 1 [.map (some b3)] hS9 hf10 rfl fun ww10 a11 hS10 hf11=>⟨fun _=>trivial,?_⟩
 refine c_st 0 [.map (some b4)] hS10 hf11 rfl fun ww11 a12 hS11 hf12=>⟨fun _=>trivial,?_⟩
 refine c_t [] [0,3,6,7,8,9] hf12 .nil fun a13 hf13=>?_
 refine c_sr ?_
 refine c_n 3 [.slice o_x1 x1.length c_x1] [0,6,7,8,9,27,28,29] hf13 (.cell (hS11.box (i:=7) rfl (j:=0) rfl) .nil) fun a14 hf14=>?_
 refine c_call (f:=96) (args:= #[.slice o_x0 x0.length c_x0, .slice o_x1 x1.length c_x1, .func (.func 104) #[] #[pB b6 0,pB b7 0,pB b8 0,pB b1 0]]) (Φ:=fun v w=>∃z1:Zone,∃y6:List (Int×Int),∃y7:List (Int×Int),∃y8:List (Int×Int),∃y12:Option Pl,∃y13:Int,∃y14:Int,∃p12:Option Addr,Zone.le h z1∧v= .tuple #[.pointer p12,vI y13,vI y14]∧St z1 (plO 126 40 117 p12 y12::box b8 [.map (some b4)] 144::box b7 [.map (some b3)] 144::box b6 [.map (some b2)] 144::mapA (Value.int .i64) b5 ([])::mapA (Value.int .i64) b4 y6::mapA (Value.int .i64) b3 y7::mapA (Value.int .i64) b2 y8::box b1 [.slice o_x1 x1.length c_x1] 64::L) w∧(F45_j1 fuel x0 y6 y7 y8 y12 y13 y14)=some r) hf14 ?_ ?_
 ·refine calls_intro (N:=50) Try.func96 (by kernel_rfl) fun a15 hf15=>?_
  refine c_sq [] [0,1,2] hf15 .nil fun a16 hf16=>?_
  refine c_seq ?_
  refine c_sr ?_
  refine c_n 2 [] [0,1,2,15,16] hf16 .nil fun a17 hf17=>?_
  obtain ⟨r2,hd1,hr1⟩:=bind_some hr
  refine c_call hf17 (f110_ok fuel x0 x1 r2 hd1 h _ _ hS11 o_x0 c_x0 hx_x0 o_x1 c_x1 hx_x1) ?_
  rintro v1 ww12 a18 ⟨z2,k10,rfl,hS12⟩ hf18
  refine ⟨fun _=>trivial,?_⟩
  refine c_t [] [0,1,2,9] hf18 .nil fun a19 hf19=>?_
  refine c_sq [] [0,1,2,9,19] hf19 .nil fun a20 hf20=>?_
  refine c_if (r2 != (0:Int)) hf20 (fun hb1=>?_) (fun hb1=>?_)
  ·have hr2:=cond_t hb1 hr1
   refine c_sq [] [6,7,8] hf20 .nil fun a21 hf21=>?_
   refine c_ret ?_
   refine r_then ?_
   refine c_rt [] (.tuple #[.pointer none,vI 0,vI r2]) hf21 .nil ?_
   have hS13:=hS12.plNone 126 40 117
   exact ⟨_,rfl,z2,[],[],[],none,0,r2,none,k10,rfl,(St.pick 1 [0] hS13 (by kernel_rfl)),hr2⟩
  ·have hr3:=cond_f hb1 hr1
   refine c_skip ?_
   refine n_then ?_
   refine c_sr ?_
   refine c_n 2 [] [1,2,22] hf20 .nil fun a22 hf22=>?_
   obtain ⟨r3,hd2,hr4⟩:=bind_some hr3
   refine c_call hf22 (f81_ok fuel x0 ([[],[],[],[],[],[],[],[],[]]) r3 hd2 z2 _ _ hS12 o_x0 c_x0 (SliceR.mono k10 hx_x0) (.slice none 0 0) (.slice none 0 0) (.slice none 0 0) (.slice none 0 0) (.slice none 0 0) (.slice none 0 0) (.slice none 0 0) (.slice none 0 0) (.slice none 0 0) ⟨rfl,(Rows.cons (c:=[_]) (sliceRep (SliceR.nil' _ _)) (Rows.cons (c:=[_]) (sliceRep (SliceR.nil' _ _)) (Rows.cons (c:=[_]) (sliceRep (SliceR.nil' _ _)) (Rows.cons (c:=[_]) (sliceRep (SliceR.nil' _ _)) (Rows.cons (c:=[_]) (sliceRep (SliceR.nil' _ _)) (Rows.cons (c:=[_]) (sliceRep (SliceR.nil' _ _)) (Rows.cons (c:=[_]) (sliceRep (SliceR.nil' _ _)) (Rows.cons (c:=[_]) (sliceRep (SliceR.nil' _ _)) (Rows.cons (c:=[_]) (sliceRep (SliceR.nil' _ _)) rfl)))))))))⟩) ?_
   rintro v2 ww13 a23 ⟨z3,b9,k11,rfl,hS14⟩ hf23
   refine ⟨fun _=>trivial,?_⟩
   refine c_t [] [1,2,10] hf23 .nil fun a24 hf24=>?_
   refine c_seq ?_
   refine c_sq [] [1,2,10,24,25,26] hf24 .nil fun a25 hf25=>?_
   refine c_block 0 ?_
   refine c_loop (fun n a w=>∃z4:Zone,∃y29:Pl,∃y19:List (Int×Int),∃y20:List (Int×Int),∃y23:List (Int×Int),∃y15:Int,Zone.le z3 z4∧Fr a 50 [(1, .slice o_x1 x1.length c_x1),(2, .func (.func 104) #[] #[pB b6 0,pB b7 0,pB b8 0,pB b1 0]),(10,pB b9 0),(24, .slice o_x1 x1.length c_x1),(25,vI (x1.length:Int)),(26,vI y15)]∧St z4 (plA 126 40 117 b9 y29::box b8 [.map (some b4)] 144::box b7 [.map (some b3)] 144::box b6 [.map (some b2)] 144::mapA (Value.int .i64) b5 ([])::mapA (Value.int .i64) b4 y19::mapA (Value.int .i64) b3 y20::mapA (Value.int .i64) b2 y23::box b1 [.slice o_x1 x1.length c_x1] 64::L) w∧(F45_l1 fuel x0 x1 n y29 y19 y20 y23 y15)=some r) fuel ⟨z3,r3,[],[],[],0,zr,hf25.to,hS14,hr4⟩ ?_
   rintro n10 a26 ww14 ⟨z4,y29,y19,y20,y23,y15,k12,hf27,hS15,hr5⟩
   cases n10 with
   | zero=>cases hr5
   | succ n9 =>
   refine c_sq [] [1,2,10,24,25,26,27] hf27 .nil fun a27 hf28=>?_
   refine c_seq ?_
   refine c_if (decide (y15<(x1.length:Int))) hf28 (fun hb2=>?_) (fun hb2=>?_)
   ·have hr6:=cond_t hb2 hr5
    refine c_skip ?_
    refine n_then ?_
    refine c_seq ?_
    refine c_block 1 ?_
    refine c_sr ?_
    obtain ⟨p10,hp93402,hr7⟩:=bind_some hr6
    obtain ⟨ad1,ho1,hb3,cc1,hc1,hk1⟩:=SliceR.getI (SliceR.mono (zt (zt k10 k11) k12) hx_x1) hp93402
    subst hc1
    refine c_n 3 [.pointer (some ad1),vI p10.kind,vI p10.lot,vI p10.frm,vI p10.to,vI p10.mass] [1,2,10,24,25,26,28,30] hf28 (.prop ho1 (.prop hb3 (.cell (hS15.cell (hk1 0 _ rfl)) (.cell (hS15.cell (hk1 1 _ rfl)) (.cell (hS15.cell (hk1 2 _ rfl)) (.cell (hS15.cell (hk1 3 _ rfl)) (.cell (hS15.cell (hk1 4 _ rfl)) .nil))))))) fun a28 hf29=>?_
    refine c_box [vI 0,vI 0,vI 0,vI 0,vI 0] 28 hS15 hf29 fun b10 ww15 a29 hS16 hf30=>⟨fun _=>trivial,?_⟩
    refine c_n 1 [] [1,2,10,11,12,24,25,26,30] hf30 .nil fun a30 hf31=>?_
    refine c_st 0 [vI p10.kind,vI p10.lot,vI p10.frm,vI p10.to,vI p10.mass] hS16 hf31 rfl fun ww16 a31 hS17 hf32=>⟨fun _=>trivial,?_⟩
    refine c_dt ?_
    refine c_sr ?_
    refine c_n 2 [vI p10.kind,vI p10.lot,vI p10.frm,vI p10.to,vI p10.mass] [1,2,10,11,24,25,26,32,33] hf32 (.cell (hS17.box (i:=0) rfl (j:=0) rfl) (.cell (hS17.box (i:=0) rfl (j:=1) rfl) (.cell (hS17.box (i:=0) rfl (j:=2) rfl) (.cell (hS17.box (i:=0) rfl (j:=3) rfl) (.cell (hS17.box (i:=0) rfl (j:=4) rfl) .nil))))) fun a32 hf33=>?_
    have hS18:=St.swapTo (i:=2) (j:=0) (St.addEmp hS17) rfl rfl (by decide)
    have hS19:=hS18
    obtain ⟨r1,hd3,hr8⟩:=bind_some hr7
    refine c_call hf33 (f82_ok fuel y29 p10.kind p10.lot p10.frm p10.to p10.mass r1 hd3 z4 _ _ b9 hS19 ) ?_
    rintro v3 ww17 a33 ⟨z5,e1,q1,e2,k13,rfl,hS20,hx1,hx2⟩ hf34
    have hS21:=St.swapTo (i:=0) (j:=2) hS20 rfl rfl (by decide)
    have hS22:=hS21
    refine ⟨fun _=>trivial,?_⟩
    refine c_n 3 [] [1,2,10,11,24,25,26,35,36] hf34 .nil fun a34 hf35=>?_
    refine c_box [.slice none 0 0, .map none] 119 hS22 hf35 fun b11 ww18 a35 hS23 hf36=>⟨fun _=>trivial,?_⟩
    refine c_st 0 [.slice e1 r1.1.length q1, .map e2] hS23 hf36 rfl fun ww19 a36 hS24 hf37=>⟨fun _=>trivial,?_⟩
    refine c_t [] [1,2,10,11,13,14,24,25,26] hf37 .nil fun a37 hf38=>?_
    refine c_seq ?_
    refine c_sq [] [1,2,10,11,13,14,24,25,26,38] hf38 .nil fun a38 hf39=>?_
    refine c_if (r1.2.2.1 != (0:Int)) hf39 (fun hb4=>?_) (fun hb4=>?_)
    ·have hr9:=cond_t hb4 hr8
     refine c_sq [] [6,7,8] hf39 .nil fun a39 hf40=>?_
     refine c_ret ?_
     refine r_then ?_
     refine r_block ?_
     refine r_then ?_
     refine r_then ?_
     refine r_block ?_
     refine r_then ?_
     refine c_rt [] (.tuple #[.pointer none,vI y15,vI r1.2.2.1]) hf40 .nil ?_
     have hS25:=hS24.plNone 126 40 117
     exact ⟨_,rfl,z5,y19,y20,y23,none,y15,r1.2.2.1,none,(zt (zt (zt k10 k11) k12) k13),rfl,(St.pick 5 [0] hS25 (by kernel_rfl)),hr9⟩
    ·have hr10:=cond_f hb4 hr8
     refine c_skip ?_
     refine n_then ?_
     refine c_reg ?_
     refine c_n 4 [.slice e1 r1.1.length q1, .map e2] [1,2,10,24,25,26,41,42,43,44] hf39 (.cell (hS24.box (i:=0) rfl (j:=0) rfl) (.cell (hS24.box (i:=0) rfl (j:=1) rfl) .nil)) fun a40 hf41=>?_
     refine c_call (f:=104) (args:= #[vI y15, .agg #[.slice e1 r1.1.length q1, .map e2],pB b9 0,pB b6 0,pB b7 0,pB b8 0,pB b1 0]) (Φ:=fun v w=>∃z6:Zone,∃y16:List (Int×Int),∃y17:List (Int×Int),∃y18:List (Int×Int),Zone.le z5 z6∧v= .tuple #[]∧St z6 (box b11 [.slice e1 r1.1.length q1, .map e2] 119::emp::box b10 [vI p10.kind,vI p10.lot,vI p10.frm,vI p10.to,vI p10.mass] 28::plA 126 40 117 b9 r1.2.2.2::box b8 [.map (some b4)] 144::box b7 [.map (some b3)] 144::box b6 [.map (some b2)] 144::mapA (Value.int .i64) b5 ([])::mapA (Value.int .i64) b4 y16::mapA (Value.int .i64) b3 y17::mapA (Value.int .i64) b2 y18::box b1 [.slice o_x1 x1.length c_x1] 64::L) w∧(F45_j2 (F45_l1 fuel x0 x1 n9) y15 r1 y16 y17 y18)=some r) hf41 ?_ ?_
     ·refine calls_intro (N:=43) Try.func104 (by kernel_rfl) fun a41 hf42=>?_
      refine c_sr ?_
      refine c_box [.slice e1 r1.1.length q1, .map e2] 119 hS24 hf42 fun b12 ww20 a42 hS26 hf43=>⟨fun _=>trivial,?_⟩
      refine c_dt ?_
      refine c_seq ?_
      obtain ⟨p11,hp94954,hr11⟩:=bind_some hr10
      refine pick_ok (i:=y15) (bA:=b6) (bB:=b7) (bC:=b8) (bD:=b1) (jA:=7) (jB:=6) (jC:=5) (jD:=12) (mA:=(some b2)) (mB:=(some b3)) (mC:=(some b4)) (vA:=pB b12 0) (xs:=x1) hS26 (Fr.to hf43) rfl rfl rfl rfl (SliceR.mono (zt (zt (zt k10 k11) k12) k13) hx_x1) hp94954 fun ww21 a43 hS27 hf45=>?_
      rcases bft ((p11.kind == 1) || (p11.kind == 2)) with hb5 | hb5
      ·have hr12:=cond_t hb5 hr11
       have hm94964:pickM p11.kind (some b2) (some b3) (some b4)=(some b2):=pick1 hb5
       rw [hm94964] at hf45
       refine n_then ?_
       refine c_sq [.slice e1 r1.1.length q1] [10,27,28,29] hf45 (.cell (hS27.box (i:=0) rfl (j:=0) rfl) .nil) fun a44 hf46=>?_
       refine c_block 0 ?_
       refine c_loop (fun n a w=>∃z7:Zone,∃y21:List (Int×Int),∃y22:Int,Zone.le z5 z7∧Fr a 43 [(10, .map (some b2)),(27, .slice e1 r1.1.length q1),(28,vI (r1.1.length:Int)),(29,vI y22)]∧St z7 (box b12 [.slice e1 r1.1.length q1, .map e2] 119::box b11 [.slice e1 r1.1.length q1, .map e2] 119::emp::box b10 [vI p10.kind,vI p10.lot,vI p10.frm,vI p10.to,vI p10.mass] 28::plA 126 40 117 b9 r1.2.2.2::box b8 [.map (some b4)] 144::box b7 [.map (some b3)] 144::box b6 [.map (some b2)] 144::mapA (Value.int .i64) b5 ([])::mapA (Value.int .i64) b4 y19::mapA (Value.int .i64) b3 y20::mapA (Value.int .i64) b2 y21::box b1 [.slice o_x1 x1.length c_x1] 64::L) w∧(F45_l2 (F45_l1 fuel x0 x1 n9) y19 y20 y15 r1 n y21 y22)=some r) fuel ⟨z5,y23,0,zr,hf46.to,hS27,hr12⟩ ?_
       rintro n11 a45 ww22 ⟨z7,y21,y22,k14,hf48,hS28,hr13⟩
       cases n11 with
       | zero=>cases hr13
       | succ n5 =>
       refine c_sq [] [10,27,28,29,30] hf48 .nil fun a46 hf49=>?_
       refine c_seq ?_
       refine c_if (decide (y22<(r1.1.length:Int))) hf49 (fun hb6=>?_) (fun hb6=>?_)
       ·have hr14:=cond_t hb6 hr13
        refine c_skip ?_
        refine n_then ?_
        refine c_seq ?_
        refine c_block 1 ?_
        refine c_sr ?_
        obtain ⟨p6,hp95318,hr15⟩:=bind_some hr14
        obtain ⟨ad2,ho2,hb7,cc2,hc2,hk2⟩:=SliceR.getI (SliceR.mono k14 hx1) hp95318
        subst hc2
        refine c_n 2 [.pointer (some ad2),vI p6.lot,vI p6.mass] [10,27,28,29,32] hf49 (.prop ho2 (.prop hb7 (.cell (hS28.cell (hk2 0 _ rfl)) (.cell (hS28.cell (hk2 1 _ rfl)) .nil)))) fun a47 hf50=>?_
        refine c_box [vI 0,vI 0] 56 hS28 hf50 fun b13 ww23 a48 hS29 hf51=>⟨fun _=>trivial,?_⟩
        refine c_st 0 [vI p6.lot,vI p6.mass] hS29 hf51 rfl fun ww24 a49 hS30 hf52=>⟨fun _=>trivial,?_⟩
        refine c_dt ?_
        refine c_sq [] [10,12,27,28,29,34] hf52 .nil fun a50 hf53=>?_
        refine w_if_true hf53 (by kernel_rfl) ?_
        refine c_reg ?_
        refine c_n 3 [vI p6.lot] [10,12,27,28,29,35,37] hf53 (.cell (hS30.box (i:=0) rfl (j:=0) rfl) .nil) fun a51 hf54=>?_
        refine p_lookup (i:=3) (d:=(some 38)) (t:=144) (o:=(some b2)) (k:=p6.lot) (c:=false) (z:=(0:Int)) (D:=y21) hf54 (by kernel_rfl) mp144 (hS30.mapLook (j:=12) rfl) fun a52 hf55=>⟨fun _=>trivial,?_⟩
        refine c_n 3 [vI p6.mass] [10,27,28,29,35,37,41] hf55 (.cell (hS30.box (i:=0) rfl (j:=1) rfl) .nil) fun a53 hf56=>?_
        refine p_put (i:=7) (j:=12) (t:=144) (r:=b2) (k:=p6.lot) (v:=(w64 ((lkK y21 p6.lot (0:Int)) + p6.mass))) hS30 hf56 rfl (by kernel_rfl) mp144 fun ww25 a54 hS31 hf57=>⟨fun _=>trivial,?_⟩
        refine c_done ?_
        refine n_block ?_
        refine n_then ?_
        refine c_q [] [10,27,28,29] hf57 .nil fun a55 hf58=>?_
        refine n_then ?_
        exact ⟨n5,Nat.lt_succ_self n5,z7,(putK y21 p6.lot (w64 ((lkK y21 p6.lot (0:Int)) + p6.mass))),(w64 (y22 + (1:Int))),k14,hf58.to,(St.drop 1 hS31),hr15⟩
       ·have hr16:=cond_f hb6 hr13
        refine c_exit 0 ?_
        refine x_then ?_
        refine x_then ?_
        refine x_block ?_
        refine c_fall [] (.tuple #[]) hf49 .nil ?_
        exact ⟨_,rfl,z7,y19,y20,y21,k14,rfl,(St.drop 1 hS28),hr16⟩
      ·have hr17:=cond_f hb5 hr11
       rcases bft (p11.kind == 3) with hb8 | hb8
       ·have hr18:=cond_t hb8 hr17
        have hm95364:pickM p11.kind (some b2) (some b3) (some b4)=(some b3):=pick2 hb5 hb8
        rw [hm95364] at hf45
        refine n_then ?_
        refine c_sq [.slice e1 r1.1.length q1] [10,27,28,29] hf45 (.cell (hS27.box (i:=0) rfl (j:=0) rfl) .nil) fun a56 hf60=>?_
        refine c_block 0 ?_
        refine c_loop (fun n a w=>∃z8:Zone,∃y24:List (Int×Int),∃y25:Int,Zone.le z5 z8∧Fr a 43 [(10, .map (some b3)),(27, .slice e1 r1.1.length q1),(28,vI (r1.1.length:Int)),(29,vI y25)]∧St z8 (box b12 [.slice e1 r1.1.length q1, .map e2] 119::box b11 [.slice e1 r1.1.length q1, .map e2] 119::emp::box b10 [vI p10.kind,vI p10.lot,vI p10.frm,vI p10.to,vI p10.mass] 28::plA 126 40 117 b9 r1.2.2.2::box b8 [.map (some b4)] 144::box b7 [.map (some b3)] 144::box b6 [.map (some b2)] 144::mapA (Value.int .i64) b5 ([])::mapA (Value.int .i64) b4 y19::mapA (Value.int .i64) b3 y24::mapA (Value.int .i64) b2 y23::box b1 [.slice o_x1 x1.length c_x1] 64::L) w∧(F45_l3 (F45_l1 fuel x0 x1 n9) y19 y23 y15 r1 n y24 y25)=some r) fuel ⟨z5,y20,0,zr,hf60.to,hS27,hr18⟩ ?_
        rintro n12 a57 ww26 ⟨z8,y24,y25,k15,hf62,hS32,hr19⟩
        cases n12 with
        | zero=>cases hr19
        | succ n6 =>
        refine c_sq [] [10,27,28,29,30] hf62 .nil fun a58 hf63=>?_
        refine c_seq ?_
        refine c_if (decide (y25<(r1.1.length:Int))) hf63 (fun hb9=>?_) (fun hb9=>?_)
        ·have hr20:=cond_t hb9 hr19
         refine c_skip ?_
         refine n_then ?_
         refine c_seq ?_
         refine c_block 1 ?_
         refine c_sr ?_
         obtain ⟨p7,hp95718,hr21⟩:=bind_some hr20
         obtain ⟨ad3,ho3,hb10,cc3,hc3,hk3⟩:=SliceR.getI (SliceR.mono k15 hx1) hp95718
         subst hc3
         refine c_n 2 [.pointer (some ad3),vI p7.lot,vI p7.mass] [10,27,28,29,32] hf63 (.prop ho3 (.prop hb10 (.cell (hS32.cell (hk3 0 _ rfl)) (.cell (hS32.cell (hk3 1 _ rfl)) .nil)))) fun a59 hf64=>?_
         refine c_box [vI 0,vI 0] 56 hS32 hf64 fun b14 ww27 a60 hS33 hf65=>⟨fun _=>trivial,?_⟩
         refine c_st 0 [vI p7.lot,vI p7.mass] hS33 hf65 rfl fun ww28 a61 hS34 hf66=>⟨fun _=>trivial,?_⟩
         refine c_dt ?_
         refine c_sq [] [10,12,27,28,29,34] hf66 .nil fun a62 hf67=>?_
         refine w_if_true hf67 (by kernel_rfl) ?_
         refine c_reg ?_
         refine c_n 3 [vI p7.lot] [10,12,27,28,29,35,37] hf67 (.cell (hS34.box (i:=0) rfl (j:=0) rfl) .nil) fun a63 hf68=>?_
         refine p_lookup (i:=3) (d:=(some 38)) (t:=144) (o:=(some b3)) (k:=p7.lot) (c:=false) (z:=(0:Int)) (D:=y24) hf68 (by kernel_rfl) mp144 (hS34.mapLook (j:=11) rfl) fun a64 hf69=>⟨fun _=>trivial,?_⟩
         refine c_n 3 [vI p7.mass] [10,27,28,29,35,37,41] hf69 (.cell (hS34.box (i:=0) rfl (j:=1) rfl) .nil) fun a65 hf70=>?_
         refine p_put (i:=7) (j:=11) (t:=144) (r:=b3) (k:=p7.lot) (v:=(w64 ((lkK y24 p7.lot (0:Int)) + p7.mass))) hS34 hf70 rfl (by kernel_rfl) mp144 fun ww29 a66 hS35 hf71=>⟨fun _=>trivial,?_⟩
         refine c_done ?_
         refine n_block ?_
         refine n_then ?_
         refine c_q [] [10,27,28,29] hf71 .nil fun a67 hf72=>?_
         refine n_then ?_
         exact ⟨n6,Nat.lt_succ_self n6,z8,(putK y24 p7.lot (w64 ((lkK y24 p7.lot (0:Int)) + p7.mass))),(w64 (y25 + (1:Int))),k15,hf72.to,(St.drop 1 hS35),hr21⟩
        ·have hr22:=cond_f hb9 hr19
         refine c_exit 0 ?_
         refine x_then ?_
         refine x_then ?_
         refine x_block ?_
         refine c_fall [] (.tuple #[]) hf63 .nil ?_
         exact ⟨_,rfl,z8,y19,y24,y23,k15,rfl,(St.drop 1 hS32),hr22⟩
       ·have hr23:=cond_f hb8 hr17
        rcases bft (p11.kind == 5) with hb11 | hb11
        ·have hr24:=cond_t hb11 hr23
         have hm95764:pickM p11.kind (some b2) (some b3) (some b4)=(some b4):=pick3 hb5 hb8 hb11
         rw [hm95764] at hf45
         refine n_then ?_
         refine c_sq [.slice e1 r1.1.length q1] [10,27,28,29] hf45 (.cell (hS27.box (i:=0) rfl (j:=0) rfl) .nil) fun a68 hf74=>?_
         refine c_block 0 ?_
         refine c_loop (fun n a w=>∃z9:Zone,∃y26:List (Int×Int),∃y27:Int,Zone.le z5 z9∧Fr a 43 [(10, .map (some b4)),(27, .slice e1 r1.1.length q1),(28,vI (r1.1.length:Int)),(29,vI y27)]∧St z9 (box b12 [.slice e1 r1.1.length q1, .map e2] 119::box b11 [.slice e1 r1.1.length q1, .map e2] 119::emp::box b10 [vI p10.kind,vI p10.lot,vI p10.frm,vI p10.to,vI p10.mass] 28::plA 126 40 117 b9 r1.2.2.2::box b8 [.map (some b4)] 144::box b7 [.map (some b3)] 144::box b6 [.map (some b2)] 144::mapA (Value.int .i64) b5 ([])::mapA (Value.int .i64) b4 y26::mapA (Value.int .i64) b3 y20::mapA (Value.int .i64) b2 y23::box b1 [.slice o_x1 x1.length c_x1] 64::L) w∧(F45_l4 (F45_l1 fuel x0 x1 n9) y20 y23 y15 r1 n y26 y27)=some r) fuel ⟨z5,y19,0,zr,hf74.to,hS27,hr24⟩ ?_
         rintro n13 a69 ww30 ⟨z9,y26,y27,k16,hf76,hS36,hr25⟩
         cases n13 with
         | zero=>cases hr25
         | succ n7 =>
         refine c_sq [] [10,27,28,29,30] hf76 .nil fun a70 hf77=>?_
         refine c_seq ?_
         refine c_if (decide (y27<(r1.1.length:Int))) hf77 (fun hb12=>?_) (fun hb12=>?_)
         ·have hr26:=cond_t hb12 hr25
          refine c_skip ?_
          refine n_then ?_
          refine c_seq ?_
          refine c_block 1 ?_
          refine c_sr ?_
          obtain ⟨p8,hp96118,hr27⟩:=bind_some hr26
          obtain ⟨ad4,ho4,hb13,cc4,hc4,hk4⟩:=SliceR.getI (SliceR.mono k16 hx1) hp96118
          subst hc4
          refine c_n 2 [.pointer (some ad4),vI p8.lot,vI p8.mass] [10,27,28,29,32] hf77 (.prop ho4 (.prop hb13 (.cell (hS36.cell (hk4 0 _ rfl)) (.cell (hS36.cell (hk4 1 _ rfl)) .nil)))) fun a71 hf78=>?_
          refine c_box [vI 0,vI 0] 56 hS36 hf78 fun b15 ww31 a72 hS37 hf79=>⟨fun _=>trivial,?_⟩
          refine c_st 0 [vI p8.lot,vI p8.mass] hS37 hf79 rfl fun ww32 a73 hS38 hf80=>⟨fun _=>trivial,?_⟩
          refine c_dt ?_
          refine c_sq [] [10,12,27,28,29,34] hf80 .nil fun a74 hf81=>?_
          refine w_if_true hf81 (by kernel_rfl) ?_
          refine c_reg ?_
          refine c_n 3 [vI p8.lot] [10,12,27,28,29,35,37] hf81 (.cell (hS38.box (i:=0) rfl (j:=0) rfl) .nil) fun a75 hf82=>?_
          refine p_lookup (i:=3) (d:=(some 38)) (t:=144) (o:=(some b4)) (k:=p8.lot) (c:=false) (z:=(0:Int)) (D:=y26) hf82 (by kernel_rfl) mp144 (hS38.mapLook (j:=10) rfl) fun a76 hf83=>⟨fun _=>trivial,?_⟩
          refine c_n 3 [vI p8.mass] [10,27,28,29,35,37,41] hf83 (.cell (hS38.box (i:=0) rfl (j:=1) rfl) .nil) fun a77 hf84=>?_
          refine p_put (i:=7) (j:=10) (t:=144) (r:=b4) (k:=p8.lot) (v:=(w64 ((lkK y26 p8.lot (0:Int)) + p8.mass))) hS38 hf84 rfl (by kernel_rfl) mp144 fun ww33 a78 hS39 hf85=>⟨fun _=>trivial,?_⟩
          refine c_done ?_
          refine n_block ?_
          refine n_then ?_
          refine c_q [] [10,27,28,29] hf85 .nil fun a79 hf86=>?_
          refine n_then ?_
          exact ⟨n7,Nat.lt_succ_self n7,z9,(putK y26 p8.lot (w64 ((lkK y26 p8.lot (0:Int)) + p8.mass))),(w64 (y27 + (1:Int))),k16,hf86.to,(St.drop 1 hS39),hr27⟩
         ·have hr28:=cond_f hb12 hr25
          refine c_exit 0 ?_
          refine x_then ?_
          refine x_then ?_
          refine x_block ?_
          refine c_fall [] (.tuple #[]) hf77 .nil ?_
          exact ⟨_,rfl,z9,y26,y20,y23,k16,rfl,(St.drop 1 hS36),hr28⟩
        ·have hr29:=cond_f hb11 hr23
         have hm96163:pickM p11.kind (some b2) (some b3) (some b4)=none:=pick4 hb5 hb8 hb11
         rw [hm96163] at hf45
         refine n_then ?_
         refine c_sq [.slice e1 r1.1.length q1] [10,27,28,29] hf45 (.cell (hS27.box (i:=0) rfl (j:=0) rfl) .nil) fun a80 hf88=>?_
         refine c_block 0 ?_
         refine c_loop (fun n a w=>∃z10:Zone,∃y28:Int,Zone.le z5 z10∧Fr a 43 [(10, .map none),(27, .slice e1 r1.1.length q1),(28,vI (r1.1.length:Int)),(29,vI y28)]∧St z10 (box b12 [.slice e1 r1.1.length q1, .map e2] 119::box b11 [.slice e1 r1.1.length q1, .map e2] 119::emp::box b10 [vI p10.kind,vI p10.lot,vI p10.frm,vI p10.to,vI p10.mass] 28::plA 126 40 117 b9 r1.2.2.2::box b8 [.map (some b4)] 144::box b7 [.map (some b3)] 144::box b6 [.map (some b2)] 144::mapA (Value.int .i64) b5 ([])::mapA (Value.int .i64) b4 y19::mapA (Value.int .i64) b3 y20::mapA (Value.int .i64) b2 y23::box b1 [.slice o_x1 x1.length c_x1] 64::L) w∧(F45_l5 (F45_l1 fuel x0 x1 n9) y19 y20 y23 y15 r1 n y28)=some r) fuel ⟨z5,0,zr,hf88.to,hS27,hr29⟩ ?_
         rintro n14 a81 ww34 ⟨z10,y28,k17,hf90,hS40,hr30⟩
         cases n14 with
         | zero=>cases hr30
         | succ n8 =>
         refine c_sq [] [10,27,28,29,30] hf90 .nil fun a82 hf91=>?_
         refine c_seq ?_
         refine c_if (decide (y28<(r1.1.length:Int))) hf91 (fun hb14=>?_) (fun hb14=>?_)
         ·have hr31:=cond_t hb14 hr30
          refine c_skip ?_
          refine n_then ?_
          refine c_seq ?_
          refine c_block 1 ?_
          refine c_sr ?_
          obtain ⟨p9,hp96374,hr32⟩:=bind_some hr31
          obtain ⟨ad5,ho5,hb15,cc5,hc5,hk5⟩:=SliceR.getI (SliceR.mono k17 hx1) hp96374
          subst hc5
          refine c_n 2 [.pointer (some ad5),vI p9.lot,vI p9.mass] [10,27,28,29,32] hf91 (.prop ho5 (.prop hb15 (.cell (hS40.cell (hk5 0 _ rfl)) (.cell (hS40.cell (hk5 1 _ rfl)) .nil)))) fun a83 hf92=>?_
          refine c_box [vI 0,vI 0] 56 hS40 hf92 fun b16 ww35 a84 hS41 hf93=>⟨fun _=>trivial,?_⟩
          refine c_st 0 [vI p9.lot,vI p9.mass] hS41 hf93 rfl fun ww36 a85 hS42 hf94=>⟨fun _=>trivial,?_⟩
          refine c_dt ?_
          refine c_sq [] [10,12,27,28,29,34] hf94 .nil fun a86 hf95=>?_
          refine w_if_false hf95 (by kernel_rfl) ?_
          refine c_skip ?_
          refine n_block ?_
          refine n_then ?_
          refine c_q [] [10,27,28,29] hf95 .nil fun a87 hf96=>?_
          refine n_then ?_
          exact ⟨n8,Nat.lt_succ_self n8,z10,(w64 (y28 + (1:Int))),k17,hf96.to,(St.drop 1 hS42),hr32⟩
         ·have hr33:=cond_f hb14 hr30
          refine c_exit 0 ?_
          refine x_then ?_
          refine x_then ?_
          refine x_block ?_
          refine c_fall [] (.tuple #[]) hf91 .nil ?_
          exact ⟨_,rfl,z10,y19,y20,y23,k17,rfl,(St.drop 1 hS40),hr33⟩
     ·rintro v4 ww37 a88 ⟨z6,y16,y17,y18,k18,rfl,hS43,hr34⟩ hf98
      refine ⟨fun _=>trivial,?_⟩
      refine c_done ?_
      refine n_block ?_
      refine n_then ?_
      refine c_q [] [1,2,10,24,25,26] hf98 .nil fun a89 hf99=>?_
      refine n_then ?_
      exact ⟨n9,Nat.lt_succ_self n9,z6,r1.2.2.2,y16,y17,y18,(w64 (y15 + (1:Int))),(zt (zt k12 k13) k18),hf99.to,(St.drop 3 hS43),hr34⟩
   ·have hr35:=cond_f hb2 hr5
    refine c_exit 0 ?_
    refine x_then ?_
    refine x_then ?_
    refine x_block ?_
    refine n_then ?_
    refine c_sq [] [6,7,8] hf28 .nil fun a90 hf101=>?_
    refine c_ret ?_
    refine c_rt [] (.tuple #[pB b9 0,vI (x1.length:Int),vI 0]) hf101 .nil ?_
    have hS44:=hS15.plSome (i:=0) rfl
    exact ⟨_,rfl,z4,y19,y20,y23,(some y29),(x1.length:Int),0,(some ⟨b9,0,none⟩),(zt (zt k10 k11) k12),rfl,(St.pick 1 [0] hS44 (by kernel_rfl)),hr35⟩
 ·rintro v5 ww38 a91 ⟨z1,y6,y7,y8,y12,y13,y14,p12,k19,rfl,hS45,hr36⟩ hf102
  refine ⟨fun _=>trivial,?_⟩
  refine c_t [] [0,6,7,8,9,10,12] hf102 .nil fun a92 hf103=>?_
  refine c_seq ?_
  refine c_sq [] [0,6,7,8,9,10,12,35] hf103 .nil fun a93 hf104=>?_
  refine c_if (y14 != (0:Int)) hf104 (fun hb16=>?_) (fun hb16=>?_)
  ·have hr37:=cond_t hb16 hr36
   refine c_sq [] [4,5] hf104 .nil fun a94 hf105=>?_
   refine c_ret ?_
   refine r_then ?_
   refine c_rt [] (.tuple #[.slice none 0 0,vI y14]) hf105 .nil ?_
   obtain rfl:=some_eq hr37
   exact ⟨_,rfl,z1,none,0,k19,rfl,(St.drop 9 hS45),SliceR.nil' _ _⟩
  ·have hr38:=cond_f hb16 hr36
   refine c_skip ?_
   refine n_then ?_
   refine c_seq ?_
   refine c_seq ?_
   obtain ⟨p5,hp122871,hr39⟩:=bind_some hr38
   rw [hp122871] at hS45
   obtain ⟨b17,he1,hS46⟩:=hS45.plGet (i:=0) rfl
   subst he1
   obtain ⟨e3,q2,v6,v7,v8,v9,v10,v11,v12,v13,v14,v15,v16,v17,v18,v19,v20,v21,v22,v23,hx3,hS47⟩:=hS46.plOpen (i:=0) rfl
   refine c_q [v6,v7,v8,v9,v10,v11,v12,v13,v14] [0,6,7,8,9,41,42] hf104 (.cell (hS47.box (i:=2) rfl (j:=1) rfl) (.cell (hS47.box (i:=2) rfl (j:=2) rfl) (.cell (hS47.box (i:=2) rfl (j:=3) rfl) (.cell (hS47.box (i:=2) rfl (j:=4) rfl) (.cell (hS47.box (i:=2) rfl (j:=5) rfl) (.cell (hS47.box (i:=2) rfl (j:=6) rfl) (.cell (hS47.box (i:=2) rfl (j:=7) rfl) (.cell (hS47.box (i:=2) rfl (j:=8) rfl) (.cell (hS47.box (i:=2) rfl (j:=9) rfl) .nil))))))))) fun a95 hf106=>?_
   refine n_then ?_
   refine c_block 0 ?_
   refine c_loop (fun n a w=>∃z11:Zone,∃y9:List (Int×Int),∃y4:Int,Zone.le z1 z11∧Fr a 98 [(0, .slice o_x0 x0.length c_x0),(6,pB b6 0),(7,pB b7 0),(8,pB b8 0),(9, .map (some b5)),(41, .agg #[v6,v7,v8,v9,v10,v11,v12,v13,v14]),(42,vI y4)]∧St z11 (ownA (Ty.slice PartT) 40 [v6,v7,v8,v9,v10,v11,v12,v13,v14] p5.holds::ownA (Ty.map Value.bool) 117 [v15,v16,v17,v18,v19,v20,v21,v22,v23] p5.may::box b17 [.slice e3 p5.lots.length q2,v6,v7,v8,v9,v10,v11,v12,v13,v14,v15,v16,v17,v18,v19,v20,v21,v22,v23] 126::box b8 [.map (some b4)] 144::box b7 [.map (some b3)] 144::box b6 [.map (some b2)] 144::mapA (Value.int .i64) b5 y9::mapA (Value.int .i64) b4 y6::mapA (Value.int .i64) b3 y7::mapA (Value.int .i64) b2 y8::box b1 [.slice o_x1 x1.length c_x1] 64::L) w∧(F45_l6 fuel x0 y6 y7 y8 p5 n y9 y4)=some r) fuel ⟨z1,[],0,zr,hf106.to,hS47,hr39⟩ ?_
   rintro n15 a96 ww39 ⟨z11,y9,y4,k20,hf108,hS48,hr40⟩
   cases n15 with
   | zero=>cases hr40
   | succ n4 =>
   refine c_sq [] [0,6,7,8,9,41,42,43] hf108 .nil fun a97 hf109=>?_
   refine c_seq ?_
   refine c_if (decide (y4<(9:Int))) hf109 (fun hb17=>?_) (fun hb17=>?_)
   ·have hr41:=cond_t hb17 hr40
    refine c_skip ?_
    refine n_then ?_
    refine c_seq ?_
    refine c_block 1 ?_
    obtain ⟨p3,hp146021,hr42⟩:=bind_some hr41
    obtain ⟨e4,q3,hv1,hb18,hS49⟩:=hS48.ownOpen (j:=0) rfl hp146021
    have hk6:=arrIdx hv1
    refine c_sq [.slice e4 p3.length q3] [0,6,7,8,9,14,41,42] hf109 (.prop hb18 (.prop hk6 .nil)) fun a98 hf110=>?_
    refine c_sq [] [0,6,7,8,9,41,42,45,46,47] hf110 .nil fun a99 hf111=>?_
    refine c_block 2 ?_
    refine c_loop (fun n a w=>∃z12:Zone,∃y5:List (Int×Int),∃y1:Int,Zone.le z11 z12∧Fr a 98 [(0, .slice o_x0 x0.length c_x0),(6,pB b6 0),(7,pB b7 0),(8,pB b8 0),(9, .map (some b5)),(41, .agg #[v6,v7,v8,v9,v10,v11,v12,v13,v14]),(42,vI y4),(45, .slice e4 p3.length q3),(46,vI (p3.length:Int)),(47,vI y1)]∧St z12 (ownS (Ty.slice PartT) 40 e4 q3 p3::ownH (Ty.slice PartT) 40 [v6,v7,v8,v9,v10,v11,v12,v13,v14] p5.holds (Int.toNat y4)::ownA (Ty.map Value.bool) 117 [v15,v16,v17,v18,v19,v20,v21,v22,v23] p5.may::box b17 [.slice e3 p5.lots.length q2,v6,v7,v8,v9,v10,v11,v12,v13,v14,v15,v16,v17,v18,v19,v20,v21,v22,v23] 126::box b8 [.map (some b4)] 144::box b7 [.map (some b3)] 144::box b6 [.map (some b2)] 144::mapA (Value.int .i64) b5 y5::mapA (Value.int .i64) b4 y6::mapA (Value.int .i64) b3 y7::mapA (Value.int .i64) b2 y8::box b1 [.slice o_x1 x1.length c_x1] 64::L) w∧(F45_l7 fuel (F45_l6 fuel x0 y6 y7 y8 p5 n4) y4 p3 n y5 y1)=some r) fuel ⟨z11,y9,0,zr,hf111.to,hS49,hr42⟩ ?_
    rintro n16 a100 ww40 ⟨z12,y5,y1,k21,hf113,hS50,hr43⟩
    cases n16 with
    | zero=>cases hr43
    | succ n2 =>
    refine c_sq [] [0,6,7,8,9,41,42,45,46,47,48] hf113 .nil fun a101 hf114=>?_
    refine c_seq ?_
    refine c_if (decide (y1<(p3.length:Int))) hf114 (fun hb19=>?_) (fun hb19=>?_)
    ·have hr44:=cond_t hb19 hr43
     refine c_skip ?_
     refine n_then ?_
     refine c_seq ?_
     refine c_block 3 ?_
     refine c_sr ?_
     obtain ⟨p1,hp148911,hr45⟩:=bind_some hr44
     obtain ⟨ad6,ho6,hb20,cc6,hc6,hk7⟩:=hS50.ownGet (j:=0) rfl hp148911
     obtain ⟨e5,q4,rfl,hx4⟩:=hc6
     refine c_n 2 [.pointer (some ad6), .slice e5 p1.length q4] [0,6,7,8,9,41,42,45,46,47,50] hf114 (.prop ho6 (.prop hb20 (.cell (hk7 0 _ rfl) .nil))) fun a102 hf115=>?_
     refine c_box [.slice none 0 0] 40 hS50 hf115 fun b18 ww41 a103 hS51 hf116=>⟨fun _=>trivial,?_⟩
     refine c_st 0 [.slice e5 p1.length q4] hS51 hf116 rfl fun ww42 a104 hS52 hf117=>⟨fun _=>trivial,?_⟩
     refine c_dt ?_
     refine c_sq [.slice e5 p1.length q4] [0,6,7,8,9,41,42,45,46,47,52,53,54] hf117 (.cell (hS52.box (i:=0) rfl (j:=0) rfl) .nil) fun a105 hf118=>?_
     refine c_block 4 ?_
     refine c_loop (fun n a w=>∃z13:Zone,∃y2:List (Int×Int),∃y3:Int,Zone.le z12 z13∧Fr a 98 [(0, .slice o_x0 x0.length c_x0),(6,pB b6 0),(7,pB b7 0),(8,pB b8 0),(9, .map (some b5)),(41, .agg #[v6,v7,v8,v9,v10,v11,v12,v13,v14]),(42,vI y4),(45, .slice e4 p3.length q3),(46,vI (p3.length:Int)),(47,vI y1),(52, .slice e5 p1.length q4),(53,vI (p1.length:Int)),(54,vI y3)]∧St z13 (box b18 [.slice e5 p1.length q4] 40::ownS (Ty.slice PartT) 40 e4 q3 p3::ownH (Ty.slice PartT) 40 [v6,v7,v8,v9,v10,v11,v12,v13,v14] p5.holds (Int.toNat y4)::ownA (Ty.map Value.bool) 117 [v15,v16,v17,v18,v19,v20,v21,v22,v23] p5.may::box b17 [.slice e3 p5.lots.length q2,v6,v7,v8,v9,v10,v11,v12,v13,v14,v15,v16,v17,v18,v19,v20,v21,v22,v23] 126::box b8 [.map (some b4)] 144::box b7 [.map (some b3)] 144::box b6 [.map (some b2)] 144::mapA (Value.int .i64) b5 y2::mapA (Value.int .i64) b4 y6::mapA (Value.int .i64) b3 y7::mapA (Value.int .i64) b2 y8::box b1 [.slice o_x1 x1.length c_x1] 64::L) w∧(F45_l8 (F45_l7 fuel (F45_l6 fuel x0 y6 y7 y8 p5 n4) y4 p3 n2) y1 p1 n y2 y3)=some r) fuel ⟨z12,y5,0,zr,hf118.to,hS52,hr45⟩ ?_
     rintro n17 a106 ww43 ⟨z13,y2,y3,k22,hf120,hS53,hr46⟩
     cases n17 with
     | zero=>cases hr46
     | succ n1 =>
     refine c_sq [] [0,6,7,8,9,41,42,45,46,47,52,53,54,55] hf120 .nil fun a107 hf121=>?_
     refine c_seq ?_
     refine c_if (decide (y3<(p1.length:Int))) hf121 (fun hb21=>?_) (fun hb21=>?_)
     ·have hr47:=cond_t hb21 hr46
      refine c_skip ?_
      refine n_then ?_
      refine c_seq ?_
      refine c_block 5 ?_
      refine c_sr ?_
      obtain ⟨p2,hp149271,hr48⟩:=bind_some hr47
      obtain ⟨ad7,ho7,hb22,cc7,hc7,hk8⟩:=SliceR.getI (SliceR.mono k22 hx4) hp149271
      subst hc7
      refine c_n 2 [.pointer (some ad7),vI p2.lot,vI p2.mass] [0,6,7,8,9,41,42,45,46,47,52,53,54,57] hf121 (.prop ho7 (.prop hb22 (.cell (hS53.cell (hk8 0 _ rfl)) (.cell (hS53.cell (hk8 1 _ rfl)) .nil)))) fun a108 hf122=>?_
      refine c_box [vI 0,vI 0] 56 hS53 hf122 fun b19 ww44 a109 hS54 hf123=>⟨fun _=>trivial,?_⟩
      refine c_st 0 [vI p2.lot,vI p2.mass] hS54 hf123 rfl fun ww45 a110 hS55 hf124=>⟨fun _=>trivial,?_⟩
      refine c_dt ?_
      refine c_reg ?_
      refine c_n 3 [vI p2.lot] [0,6,7,8,9,18,41,42,45,46,47,52,53,54,58,60] hf124 (.cell (hS55.box (i:=0) rfl (j:=0) rfl) .nil) fun a111 hf125=>?_
      refine p_lookup (i:=3) (d:=(some 61)) (t:=144) (o:=(some b5)) (k:=p2.lot) (c:=false) (z:=(0:Int)) (D:=y2) hf125 (by kernel_rfl) mp144 (hS55.mapLook (j:=9) rfl) fun a112 hf126=>⟨fun _=>trivial,?_⟩
      refine c_n 3 [vI p2.mass] [0,6,7,8,9,41,42,45,46,47,52,53,54,58,60,64] hf126 (.cell (hS55.box (i:=0) rfl (j:=1) rfl) .nil) fun a113 hf127=>?_
      refine p_put (i:=7) (j:=9) (t:=144) (r:=b5) (k:=p2.lot) (v:=(w64 ((lkK y2 p2.lot (0:Int)) + p2.mass))) hS55 hf127 rfl (by kernel_rfl) mp144 fun ww46 a114 hS56 hf128=>⟨fun _=>trivial,?_⟩
      refine c_done ?_
      refine n_block ?_
      refine n_then ?_
      refine c_q [] [0,6,7,8,9,41,42,45,46,47,52,53,54] hf128 .nil fun a115 hf129=>?_
      refine n_then ?_
      exact ⟨n1,Nat.lt_succ_self n1,z13,(putK y2 p2.lot (w64 ((lkK y2 p2.lot (0:Int)) + p2.mass))),(w64 (y3 + (1:Int))),k22,hf129.to,(St.drop 1 hS56),hr48⟩
     ·have hr49:=cond_f hb21 hr46
      refine c_exit 4 ?_
      refine x_then ?_
      refine x_then ?_
      refine x_block ?_
      refine n_block ?_
      refine n_then ?_
      refine c_q [] [0,6,7,8,9,41,42,45,46,47] hf121 .nil fun a116 hf131=>?_
      refine n_then ?_
      exact ⟨n2,Nat.lt_succ_self n2,z13,y2,(w64 (y1 + (1:Int))),(zt k21 k22),hf131.to,(St.drop 1 hS53),hr49⟩
    ·have hr50:=cond_f hb19 hr43
     refine c_exit 2 ?_
     refine x_then ?_
     refine x_then ?_
     refine x_block ?_
     refine n_block ?_
     refine n_then ?_
     refine c_q [] [0,6,7,8,9,41,42] hf114 .nil fun a117 hf133=>?_
     have hS57:=hS50.ownClose' (j:=1) (k:=0) rfl rfl (by decide) hv1 (getI_spec hp146021).2
     refine n_then ?_
     exact ⟨n4,Nat.lt_succ_self n4,z12,y5,(w64 (y4 + (1:Int))),(zt k20 k21),hf133.to,(St.drop 1 hS57),hr50⟩
   ·have hr51:=cond_f hb17 hr40
    refine c_exit 0 ?_
    refine x_then ?_
    refine x_then ?_
    refine x_block ?_
    refine n_then ?_
    refine c_seq ?_
    refine c_q [] [0,6,7,8,9,19] hf109 .nil fun a118 hf135=>?_
    have hS58:=hS48.plClose (i:=2) (j:=0) (k:=1) rfl (SliceR.mono k20 hx3) rfl rfl (by decide) (by decide) (by decide)
    refine n_then ?_
    refine c_seq ?_
    refine c_sq [] [6,7,8,9,19,68,69,70] hf135 .nil fun a119 hf136=>?_
    refine c_block 6 ?_
    have hS59:=hS58.ownNil AccountT 83
    refine c_loop (fun n a w=>∃z14:Zone,∃y10:List Account,∃y11:Int,∃e6:Option Addr,∃q5:Nat,Zone.le z11 z14∧Fr a 98 [(6,pB b6 0),(7,pB b7 0),(8,pB b8 0),(9, .map (some b5)),(19, .slice e6 y10.length q5),(68, .slice o_x0 x0.length c_x0),(69,vI (x0.length:Int)),(70,vI y11)]∧St z14 (ownS AccountT 83 e6 q5 y10::emp::emp::plA 126 40 117 b17 p5::box b8 [.map (some b4)] 144::box b7 [.map (some b3)] 144::box b6 [.map (some b2)] 144::mapA (Value.int .i64) b5 y9::mapA (Value.int .i64) b4 y6::mapA (Value.int .i64) b3 y7::mapA (Value.int .i64) b2 y8::box b1 [.slice o_x1 x1.length c_x1] 64::L) w∧(F45_l9 x0 y6 y7 y8 y9 n y10 y11)=some r) fuel ⟨z11,[],0,none,0,zr,hf136.to,hS59,hr51⟩ ?_
    rintro n18 a120 ww47 ⟨z14,y10,y11,e6,q5,k23,hf138,hS60,hr52⟩
    cases n18 with
    | zero=>cases hr52
    | succ n3 =>
    refine c_sq [] [6,7,8,9,19,68,69,70,71] hf138 .nil fun a121 hf139=>?_
    refine c_seq ?_
    refine c_if (decide (y11<(x0.length:Int))) hf139 (fun hb23=>?_) (fun hb23=>?_)
    ·have hr53:=cond_t hb23 hr52
     refine c_skip ?_
     refine n_then ?_
     refine c_seq ?_
     refine c_block 7 ?_
     refine c_sr ?_
     obtain ⟨p4,hp151081,hr54⟩:=bind_some hr53
     obtain ⟨ad8,ho8,hb24,cc8,hc8,hk9⟩:=SliceR.getI (SliceR.mono (zt (zt k19 k20) k23) hx_x0) hp151081
     subst hc8
     refine c_n 2 [.pointer (some ad8),vI p4.id,vI p4.owner,vI p4.grade,vI p4.wet] [6,7,8,9,19,68,69,70,73] hf139 (.prop ho8 (.prop hb24 (.cell (hS60.cell (hk9 0 _ rfl)) (.cell (hS60.cell (hk9 1 _ rfl)) (.cell (hS60.cell (hk9 2 _ rfl)) (.cell (hS60.cell (hk9 3 _ rfl)) .nil)))))) fun a122 hf140=>?_
     refine c_box [vI 0,vI 0,vI 0,vI 0] 33 hS60 hf140 fun b20 ww48 a123 hS61 hf141=>⟨fun _=>trivial,?_⟩
     refine c_st 0 [vI p4.id,vI p4.owner,vI p4.grade,vI p4.wet] hS61 hf141 rfl fun ww49 a124 hS62 hf142=>⟨fun _=>trivial,?_⟩
     refine c_dt ?_
     refine c_reg ?_
     refine c_n 6 [vI p4.id, .map (some b2),vI p4.id] [6,7,8,9,21,68,69,70,74,76,77,79] hf142 (.cell (hS62.box (i:=0) rfl (j:=0) rfl) (.cell (hS62.box (i:=7) rfl (j:=0) rfl) (.cell (hS62.box (i:=0) rfl (j:=0) rfl) .nil))) fun a125 hf143=>?_
     refine p_lookup (i:=6) (d:=(some 80)) (t:=144) (o:=(some b2)) (k:=p4.id) (c:=false) (z:=(0:Int)) (D:=y8) hf143 (by kernel_rfl) mp144 (hS62.mapLook (j:=11) rfl) fun a126 hf144=>⟨fun _=>trivial,?_⟩
     refine c_n 3 [.map (some b3),vI p4.id] [6,7,8,9,21,68,69,70,74,76,80,81,83] hf144 (.cell (hS62.box (i:=6) rfl (j:=0) rfl) (.cell (hS62.box (i:=0) rfl (j:=0) rfl) .nil)) fun a127 hf145=>?_
     refine p_lookup (i:=10) (d:=(some 84)) (t:=144) (o:=(some b3)) (k:=p4.id) (c:=false) (z:=(0:Int)) (D:=y7) hf145 (by kernel_rfl) mp144 (hS62.mapLook (j:=10) rfl) fun a128 hf146=>⟨fun _=>trivial,?_⟩
     refine c_n 3 [.map (some b4),vI p4.id] [6,7,8,9,21,68,69,70,74,76,80,84,85,87] hf146 (.cell (hS62.box (i:=5) rfl (j:=0) rfl) (.cell (hS62.box (i:=0) rfl (j:=0) rfl) .nil)) fun a129 hf147=>?_
     refine p_lookup (i:=14) (d:=(some 88)) (t:=144) (o:=(some b4)) (k:=p4.id) (c:=false) (z:=(0:Int)) (D:=y6) hf147 (by kernel_rfl) mp144 (hS62.mapLook (j:=9) rfl) fun a130 hf148=>⟨fun _=>trivial,?_⟩
     refine c_n 3 [vI p4.id] [6,7,8,9,68,69,70,74,76,80,84,88,89,91] hf148 (.cell (hS62.box (i:=0) rfl (j:=0) rfl) .nil) fun a131 hf149=>?_
     refine p_lookup (i:=18) (d:=(some 92)) (t:=144) (o:=(some b5)) (k:=p4.id) (c:=false) (z:=(0:Int)) (D:=y9) hf149 (by kernel_rfl) mp144 (hS62.mapLook (j:=8) rfl) fun a132 hf150=>⟨fun _=>trivial,?_⟩
     refine c_n 1 [] [6,7,8,9,68,69,70,74,93] hf150 .nil fun a133 hf151=>?_
     refine p_box (i:=20) (d:=(some 94)) (cs:=[vI p4.id,vI (lkK y8 p4.id (0:Int)),vI (lkK y7 p4.id (0:Int)),vI (lkK y6 p4.id (0:Int)),vI (lkK y9 p4.id (0:Int))]) (T:=83) (v:=fun b21=> .slice (some ⟨b21,0,none⟩) 1 1) hS62 hf151 (fun b=>by kernel_rfl) fun b21 ww50 a134 hS63 hf152=>⟨fun _=>trivial,?_⟩
     have hS64:=hS63.ownBox (T:=AccountT) (E:=83) (n:=1) (xs:=[⟨p4.id,(lkK y8 p4.id (0:Int)),(lkK y7 p4.id (0:Int)),(lkK y6 p4.id (0:Int)),(lkK y9 p4.id (0:Int))⟩]) (i:=0) rfl (Rows.cons (c:=[vI p4.id,vI (lkK y8 p4.id (0:Int)),vI (lkK y7 p4.id (0:Int)),vI (lkK y6 p4.id (0:Int)),vI (lkK y9 p4.id (0:Int))]) rfl rfl) rfl (by decide)
     obtain ⟨d1,hd4,hr55⟩:=bind_some hr54
     refine p_append (T:=AccountT) (i:=21) (j:=2) (d:=some 95) (o2:=(some ⟨b21,0,none⟩)) (c2:=1) (ys:=([⟨p4.id,(lkK y8 p4.id (0:Int)),(lkK y7 p4.id (0:Int)),(lkK y6 p4.id (0:Int)),(lkK y9 p4.id (0:Int))⟩])) el78 hS64 hf152 rfl (by kernel_rfl) (hS64.ownSrc (j:=0) rfl) hd4 fun e7 q6 ww51 a135 hS65 hf153=>⟨fun _=>trivial,?_⟩
     refine c_z [] [6,7,8,9,19,68,69,70] hf153 .nil fun a136 hf154=>?_
     refine n_block ?_
     refine n_then ?_
     refine c_q [] [6,7,8,9,19,68,69,70] hf154 .nil fun a137 hf155=>?_
     refine n_then ?_
     exact ⟨n3,Nat.lt_succ_self n3,z14,d1,(w64 (y11 + (1:Int))),e7,q6,k23,hf155.to,(St.drop 2 hS65),hr55⟩
    ·have hr56:=cond_f hb23 hr52
     refine c_exit 6 ?_
     refine x_then ?_
     refine x_then ?_
     refine x_block ?_
     refine n_then ?_
     refine c_sq [] [4,5] hf139 .nil fun a138 hf157=>?_
     refine c_ret ?_
     obtain ⟨z15,k24,hS66,hx5⟩:=hS60.share (j:=0) rfl
     refine c_rt [] (.tuple #[.slice e6 y10.length q5,vI 0]) hf157 .nil ?_
     obtain rfl:=some_eq hr56
     exact ⟨_,rfl,z15,e6,q5,(zt (zt (zt k19 k20) k23) k24),rfl,(St.drop 12 hS66),hx5⟩
end Go.Proofs.Ytlmgjjmighajdaa
set_option linter.unusedVariables false
namespace Go.Proofs.Ytlmgjjmighajdaa
open Go.Sl Go.Sx
def F26_l1 (x0:List Part) (x1:List Part):Nat→Int→Option (Bool)
  | 0,_=>none
  | n1 + 1,y1 =>
    let k1:Int→Option (Bool):=F26_l1 x0 x1 n1
    (cond (decide (y1<(x0.length:Int))) ((getI x0 y1).bind fun p1=>((getI x1 y1).bind fun p2=>(cond (!((p1.lot == p2.lot) && ((p1.mass == p2.mass) && true))) (some (false)) (k1 (w64 (y1 + (1:Int))))))) (some (true)))
def F26 (fuel:Nat) (x0:List Part) (x1:List Part):Option (Bool) :=
  (cond ((x0.length:Int) != (x1.length:Int)) (some (false)) (F26_l1 x0 x1 fuel 0))
set_option maxRecDepth 100000 in
theorem f26_ok (fuel:Nat) (x0:List Part) (x1:List Part) (r:Bool) (hr:F26 fuel x0 x1=some r) (h:Zone) (L:List Atom) (w:World) (hS:St h L w) (o_x0:Option Addr) (c_x0:Nat) (hx_x0:SliceR PartT h o_x0 c_x0 x0) (o_x1:Option Addr) (c_x1:Nat) (hx_x1:SliceR PartT h o_x1 c_x1 x1) :
    Calls Try.prog 26 #[.agg #[.slice o_x0 x0.length c_x0], .agg #[.slice o_x1 x1.length c_x1]] w fun e w'=>∃v,e= .returned v∧(∃h',Zone.le h h'∧v= .bool r∧St h' L w'):=by
 refine calls_intro (N:=31) Try.func26 (by kernel_rfl) fun a hf=>?_
 refine c_sr ?_
 refine c_box [.slice o_x0 x0.length c_x0] 40 hS hf fun b1 ww1 a1 hS1 hf1=>⟨fun _=>trivial,?_⟩
 refine c_box [.slice o_x1 x1.length c_x1] 40 hS1 hf1 fun b2 ww2 a2 hS2 hf2=>⟨fun _=>trivial,?_⟩
 refine c_t [] [2,3] hf2 .nil fun a3 hf3=>?_
 refine c_seq ?_
 refine c_sq [.slice o_x0 x0.length c_x0, .slice o_x1 x1.length c_x1] [2,3,12] hf3 (.cell (hS2.box (i:=1) rfl (j:=0) rfl) (.cell (hS2.box (i:=0) rfl (j:=0) rfl) .nil)) fun a4 hf4=>?_
 refine c_if ((x0.length:Int) != (x1.length:Int)) hf4 (fun hb1=>?_) (fun hb1=>?_)
 ·have hr1:=cond_t hb1 hr
  refine c_sq [] [4] hf4 .nil fun a5 hf5=>?_
  refine c_ret ?_
  refine r_then ?_
  refine c_rt [] (.bool false) hf5 .nil ?_
  obtain rfl:=some_eq hr1
  exact ⟨_,rfl,h,(Zone.le_refl _),rfl,(St.drop 2 hS2)⟩
 ·have hr2:=cond_f hb1 hr
  refine c_skip ?_
  refine n_then ?_
  refine c_seq ?_
  refine c_sq [] [2,3,5] hf4 .nil fun a6 hf6=>?_
  refine c_block 0 ?_
  refine c_loop (fun n a w=>∃z1:Zone,∃y1:Int,Zone.le h z1∧Fr a 31 [(2,pB b1 0),(3,pB b2 0),(5,vI y1)]∧St z1 (box b2 [.slice o_x1 x1.length c_x1] 40::box b1 [.slice o_x0 x0.length c_x0] 40::L) w∧(F26_l1 x0 x1 n y1)=some r) fuel ⟨h,0,(Zone.le_refl _),hf6.to,hS2,hr2⟩ ?_
  rintro n2 a7 ww3 ⟨z1,y1,k2,hf8,hS3,hr3⟩
  cases n2 with
  | zero=>cases hr3
  | succ n1 =>
  refine c_seq ?_
  refine c_sq [.slice o_x0 x0.length c_x0] [2,3,5,17] hf8 (.cell (hS3.box (i:=1) rfl (j:=0) rfl) .nil) fun a8 hf9=>?_
  refine c_if (decide (y1<(x0.length:Int))) hf9 (fun hb2=>?_) (fun hb2=>?_)
  ·have hr4:=cond_t hb2 hr3
   refine c_skip ?_
   refine n_then ?_
   refine c_seq ?_
   refine c_block 1 ?_
   have hS4:=hS3.drew
   obtain ⟨p1,hp546,hr5⟩:=bind_some hr4
   obtain ⟨ad1,ho1,hb3,cc1,hc1,hk1⟩:=SliceR.getI (SliceR.mono k2 hx_x0) hp546
   subst hc1
   obtain ⟨p2,hp555,hr6⟩:=bind_some hr5
   obtain ⟨ad2,ho2,hb4,cc2,hc2,hk2⟩:=SliceR.getI (SliceR.mono k2 hx_x1) hp555
   subst hc2
   refine c_sqD [(0,true),(1,true),(2,true),(3,true),(4,true),(5,true),(6,true),(7,true),(8,true),(9,true),(10,true)] [] [.slice o_x0 x0.length c_x0, .pointer (some ad1),vI p1.lot,vI p1.mass, .slice o_x1 x1.length c_x1, .pointer (some ad2),vI p2.lot,vI p2.mass] [2,3,5,30] hf9 (.cell (hS4.box (i:=1) rfl (j:=0) rfl) (.prop ho1 (.prop hb3 (.cell (hS4.cell (hk1 0 _ rfl)) (.cell (hS4.cell (hk1 1 _ rfl)) (.cell (hS4.box (i:=0) rfl (j:=0) rfl) (.prop ho2 (.prop hb4 (.cell (hS4.cell (hk2 0 _ rfl)) (.cell (hS4.cell (hk2 1 _ rfl)) .nil)))))))))) .nil fun a9 hf10=>?_
   refine c_if (!((p1.lot == p2.lot) && ((p1.mass == p2.mass) && true))) hf10 (fun hb5=>?_) (fun hb5=>?_)
   ·have hr7:=cond_t hb5 hr6
    refine c_sq [] [4] hf10 .nil fun a10 hf11=>?_
    refine c_ret ?_
    refine r_block ?_
    refine r_then ?_
    refine r_then ?_
    refine r_block ?_
    refine r_then ?_
    refine c_rt [] (.bool false) hf11 .nil ?_
    obtain rfl:=some_eq hr7
    exact ⟨_,rfl,z1,k2,rfl,(St.drop 2 hS4)⟩
   ·have hr8:=cond_f hb5 hr6
    refine c_skip ?_
    refine n_block ?_
    refine n_then ?_
    refine c_q [] [2,3,5] hf10 .nil fun a11 hf12=>?_
    refine n_then ?_
    exact ⟨n1,Nat.lt_succ_self n1,z1,(w64 (y1 + (1:Int))),k2,hf12.to,hS4,hr8⟩
  ·have hr9:=cond_f hb2 hr3
   refine c_exit 0 ?_
   refine x_then ?_
   refine x_then ?_
   refine x_block ?_
   refine n_then ?_
   refine c_sq [] [4] hf9 .nil fun a12 hf14=>?_
   refine c_ret ?_
   refine c_rt [] (.bool true) hf14 .nil ?_
   obtain rfl:=some_eq hr9
   exact ⟨_,rfl,z1,k2,rfl,(St.drop 2 hS3)⟩
def F29_l3 (fuel:Nat) (k1:Int→Option (Bool)) (x0_holds:List (List (List Part))) (x1_holds:List (List (List Part))) (y1:Int):Nat→Int→Option (Bool)
  | 0,_=>none
  | n1 + 1,y2 =>
    let k2:Int→Option (Bool):=F29_l3 fuel k1 x0_holds x1_holds y1 n1
    ((getI x0_holds y1).bind fun p1=>(cond (decide (y2<(p1.length:Int))) ((getI x0_holds y1).bind fun p2=>((getI p2 y2).bind fun p3=>((getI x1_holds y1).bind fun p4=>((getI p4 y2).bind fun p5=>((F26 fuel p3 p5).bind fun r1=>(cond (!r1) (some (false)) (k2 (w64 (y2 + (1:Int)))))))))) (k1 (w64 (y1 + (1:Int))))))
def F29_l2 (fuel:Nat) (x0_holds:List (List (List Part))) (x1_holds:List (List (List Part))):Nat→Int→Option (Bool)
  | 0,_=>none
  | n2 + 1,y1 =>
    let k1:Int→Option (Bool):=F29_l2 fuel x0_holds x1_holds n2
    (cond (decide (y1<(9:Int))) ((getI x0_holds y1).bind fun p6=>((getI x1_holds y1).bind fun p7=>(cond ((p6.length:Int) != (p7.length:Int)) (some (false)) (F29_l3 fuel k1 x0_holds x1_holds y1 fuel 0)))) (some (true)))
def F29_l1 (fuel:Nat) (x0_lots:List Lot) (x0_holds:List (List (List Part))) (x1_lots:List Lot) (x1_holds:List (List (List Part))):Nat→Int→Option (Bool)
  | 0,_=>none
  | n3 + 1,y3 =>
    let k3:Int→Option (Bool):=F29_l1 fuel x0_lots x0_holds x1_lots x1_holds n3
    (cond (decide (y3<(x0_lots.length:Int))) ((getI x0_lots y3).bind fun p8=>((getI x1_lots y3).bind fun p9=>(cond (!((p8.id == p9.id) && ((p8.owner == p9.owner) && ((p8.grade == p9.grade) && ((p8.wet == p9.wet) && true))))) (some (false)) (k3 (w64 (y3 + (1:Int))))))) (F29_l2 fuel x0_holds x1_holds fuel 0))
def F29 (fuel:Nat) (x0_lots:List Lot) (x0_holds:List (List (List Part))) (x1_lots:List Lot) (x1_holds:List (List (List Part))):Option (Bool) :=
  (cond ((x0_lots.length:Int) != (x1_lots.length:Int)) (some (false)) (F29_l1 fuel x0_lots x0_holds x1_lots x1_holds fuel 0))
set_option maxRecDepth 100000 in
theorem f29_ok (fuel:Nat) (x0_lots:List Lot) (x0_holds:List (List (List Part))) (x1_lots:List Lot) (x1_holds:List (List (List Part))) (r:Bool) (hr:F29 fuel x0_lots x0_holds x1_lots x1_holds=some r) (h:Zone) (L:List Atom) (w:World) (hS:St h L w) (o_x0_lots:Option Addr) (c_x0_lots:Nat) (hx_x0_lots:SliceR LotT h o_x0_lots c_x0_lots x0_lots) (v0_x0_holds v1_x0_holds v2_x0_holds v3_x0_holds v4_x0_holds v5_x0_holds v6_x0_holds v7_x0_holds v8_x0_holds:Value) (hx_x0_holds:(Ty.arr 9 (Ty.slice (Ty.slice PartT))).rep h [v0_x0_holds,v1_x0_holds,v2_x0_holds,v3_x0_holds,v4_x0_holds,v5_x0_holds,v6_x0_holds,v7_x0_holds,v8_x0_holds] x0_holds) (o_x1_lots:Option Addr) (c_x1_lots:Nat) (hx_x1_lots:SliceR LotT h o_x1_lots c_x1_lots x1_lots) (v0_x1_holds v1_x1_holds v2_x1_holds v3_x1_holds v4_x1_holds v5_x1_holds v6_x1_holds v7_x1_holds v8_x1_holds:Value) (hx_x1_holds:(Ty.arr 9 (Ty.slice (Ty.slice PartT))).rep h [v0_x1_holds,v1_x1_holds,v2_x1_holds,v3_x1_holds,v4_x1_holds,v5_x1_holds,v6_x1_holds,v7_x1_holds,v8_x1_holds] x1_holds) :
    Calls Try.prog 29 #[.agg #[.slice o_x0_lots x0_lots.length c_x0_lots,v0_x0_holds,v1_x0_holds,v2_x0_holds,v3_x0_holds,v4_x0_holds,v5_x0_holds,v6_x0_holds,v7_x0_holds,v8_x0_holds], .agg #[.slice o_x1_lots x1_lots.length c_x1_lots,v0_x1_holds,v1_x1_holds,v2_x1_holds,v3_x1_holds,v4_x1_holds,v5_x1_holds,v6_x1_holds,v7_x1_holds,v8_x1_holds]] w fun e w'=>∃v,e= .returned v∧(∃h',Zone.le h h'∧v= .bool r∧St h' L w'):=by
 refine calls_intro (N:=75) Try.func29 (by kernel_rfl) fun a hf=>?_
 refine c_sr ?_
 refine c_box [.slice o_x0_lots x0_lots.length c_x0_lots,v0_x0_holds,v1_x0_holds,v2_x0_holds,v3_x0_holds,v4_x0_holds,v5_x0_holds,v6_x0_holds,v7_x0_holds,v8_x0_holds] 26 hS hf fun b1 ww1 a1 hS1 hf1=>⟨fun _=>trivial,?_⟩
 refine c_box [.slice o_x1_lots x1_lots.length c_x1_lots,v0_x1_holds,v1_x1_holds,v2_x1_holds,v3_x1_holds,v4_x1_holds,v5_x1_holds,v6_x1_holds,v7_x1_holds,v8_x1_holds] 26 hS1 hf1 fun b2 ww2 a2 hS2 hf2=>⟨fun _=>trivial,?_⟩
 refine c_t [] [2,3] hf2 .nil fun a3 hf3=>?_
 refine c_seq ?_
 refine c_sq [.slice o_x0_lots x0_lots.length c_x0_lots, .slice o_x1_lots x1_lots.length c_x1_lots] [2,3,15] hf3 (.cell (hS2.box (i:=1) rfl (j:=0) rfl) (.cell (hS2.box (i:=0) rfl (j:=0) rfl) .nil)) fun a4 hf4=>?_
 refine c_if ((x0_lots.length:Int) != (x1_lots.length:Int)) hf4 (fun hb1=>?_) (fun hb1=>?_)
 ·have hr1:=cond_t hb1 hr
  refine c_sq [] [4] hf4 .nil fun a5 hf5=>?_
  refine c_ret ?_
  refine r_then ?_
  refine c_rt [] (.bool false) hf5 .nil ?_
  obtain rfl:=some_eq hr1
  exact ⟨_,rfl,h,(Zone.le_refl _),rfl,(St.drop 2 hS2)⟩
 ·have hr2:=cond_f hb1 hr
  refine c_skip ?_
  refine n_then ?_
  refine c_seq ?_
  refine c_sq [] [2,3,5] hf4 .nil fun a6 hf6=>?_
  refine c_block 0 ?_
  refine c_loop (fun n a w=>∃z1:Zone,∃y3:Int,Zone.le h z1∧Fr a 75 [(2,pB b1 0),(3,pB b2 0),(5,vI y3)]∧St z1 (box b2 [.slice o_x1_lots x1_lots.length c_x1_lots,v0_x1_holds,v1_x1_holds,v2_x1_holds,v3_x1_holds,v4_x1_holds,v5_x1_holds,v6_x1_holds,v7_x1_holds,v8_x1_holds] 26::box b1 [.slice o_x0_lots x0_lots.length c_x0_lots,v0_x0_holds,v1_x0_holds,v2_x0_holds,v3_x0_holds,v4_x0_holds,v5_x0_holds,v6_x0_holds,v7_x0_holds,v8_x0_holds] 26::L) w∧(F29_l1 fuel x0_lots x0_holds x1_lots x1_holds n y3)=some r) fuel ⟨h,0,(Zone.le_refl _),hf6.to,hS2,hr2⟩ ?_
  rintro n4 a7 ww3 ⟨z1,y3,k4,hf8,hS3,hr3⟩
  cases n4 with
  | zero=>cases hr3
  | succ n3 =>
  refine c_seq ?_
  refine c_sq [.slice o_x0_lots x0_lots.length c_x0_lots] [2,3,5,20] hf8 (.cell (hS3.box (i:=1) rfl (j:=0) rfl) .nil) fun a8 hf9=>?_
  refine c_if (decide (y3<(x0_lots.length:Int))) hf9 (fun hb2=>?_) (fun hb2=>?_)
  ·have hr4:=cond_t hb2 hr3
   refine c_skip ?_
   refine n_then ?_
   refine c_seq ?_
   refine c_block 1 ?_
   have hS4:=hS3.drew
   obtain ⟨p8,hp546,hr5⟩:=bind_some hr4
   obtain ⟨ad1,ho1,hb3,cc1,hc1,hk1⟩:=SliceR.getI (SliceR.mono k4 hx_x0_lots) hp546
   subst hc1
   obtain ⟨p9,hp555,hr6⟩:=bind_some hr5
   obtain ⟨ad2,ho2,hb4,cc2,hc2,hk2⟩:=SliceR.getI (SliceR.mono k4 hx_x1_lots) hp555
   subst hc2
   refine c_sqD [(0,true),(1,true),(2,true),(3,true),(4,true),(5,true),(6,true),(7,true),(8,true),(9,true),(10,true)] [] [.slice o_x0_lots x0_lots.length c_x0_lots, .pointer (some ad1),vI p8.id,vI p8.owner,vI p8.grade,vI p8.wet, .slice o_x1_lots x1_lots.length c_x1_lots, .pointer (some ad2),vI p9.id,vI p9.owner,vI p9.grade,vI p9.wet] [2,3,5,33] hf9 (.cell (hS4.box (i:=1) rfl (j:=0) rfl) (.prop ho1 (.prop hb3 (.cell (hS4.cell (hk1 0 _ rfl)) (.cell (hS4.cell (hk1 1 _ rfl)) (.cell (hS4.cell (hk1 2 _ rfl)) (.cell (hS4.cell (hk1 3 _ rfl)) (.cell (hS4.box (i:=0) rfl (j:=0) rfl) (.prop ho2 (.prop hb4 (.cell (hS4.cell (hk2 0 _ rfl)) (.cell (hS4.cell (hk2 1 _ rfl)) (.cell (hS4.cell (hk2 2 _ rfl)) (.cell (hS4.cell (hk2 3 _ rfl)) .nil)))))))))))))) .nil fun a9 hf10=>?_
   refine c_if (!((p8.id == p9.id) && ((p8.owner == p9.owner) && ((p8.grade == p9.grade) && ((p8.wet == p9.wet) && true))))) hf10 (fun hb5=>?_) (fun hb5=>?_)
   ·have hr7:=cond_t hb5 hr6
    refine c_sq [] [4] hf10 .nil fun a10 hf11=>?_
    refine c_ret ?_
    refine r_block ?_
    refine r_then ?_
    refine r_then ?_
    refine r_block ?_
    refine r_then ?_
    refine c_rt [] (.bool false) hf11 .nil ?_
    obtain rfl:=some_eq hr7
    exact ⟨_,rfl,z1,k4,rfl,(St.drop 2 hS4)⟩
   ·have hr8:=cond_f hb5 hr6
    refine c_skip ?_
    refine n_block ?_
    refine n_then ?_
    refine c_q [] [2,3,5] hf10 .nil fun a11 hf12=>?_
    refine n_then ?_
    exact ⟨n3,Nat.lt_succ_self n3,z1,(w64 (y3 + (1:Int))),k4,hf12.to,hS4,hr8⟩
  ·have hr9:=cond_f hb2 hr3
   refine c_exit 0 ?_
   refine x_then ?_
   refine x_then ?_
   refine x_block ?_
   refine n_then ?_
   refine c_seq ?_
   refine c_sq [] [2,3,6] hf9 .nil fun a12 hf14=>?_
   refine c_block 2 ?_
   refine c_loop (fun n a w=>∃z2:Zone,∃y1:Int,Zone.le z1 z2∧Fr a 75 [(2,pB b1 0),(3,pB b2 0),(6,vI y1)]∧St z2 (box b2 [.slice o_x1_lots x1_lots.length c_x1_lots,v0_x1_holds,v1_x1_holds,v2_x1_holds,v3_x1_holds,v4_x1_holds,v5_x1_holds,v6_x1_holds,v7_x1_holds,v8_x1_holds] 26::box b1 [.slice o_x0_lots x0_lots.length c_x0_lots,v0_x0_holds,v1_x0_holds,v2_x0_holds,v3_x0_holds,v4_x0_holds,v5_x0_holds,v6_x0_holds,v7_x0_holds,v8_x0_holds] 26::L) w∧(F29_l2 fuel x0_holds x1_holds n y1)=some r) fuel ⟨z1,0,(Zone.le_refl _),hf14.to,hS3,hr9⟩ ?_
   rintro n5 a13 ww4 ⟨z2,y1,k5,hf16,hS5,hr10⟩
   cases n5 with
   | zero=>cases hr10
   | succ n2 =>
   refine c_seq ?_
   refine c_sq [] [2,3,6,35] hf16 .nil fun a14 hf17=>?_
   refine c_if (decide (y1<(9:Int))) hf17 (fun hb6=>?_) (fun hb6=>?_)
   ·have hr11:=cond_t hb6 hr10
    refine c_skip ?_
    refine n_then ?_
    refine c_seq ?_
    refine c_block 3 ?_
    refine c_seq ?_
    have hS6:=hS5.drew
    obtain ⟨p6,hp12241,hr12⟩:=bind_some hr11
    obtain ⟨hb7,_,hv1,e1,q1,hehv12245,hx1⟩:=arrGet (Ty.mono _ (Zone.le_trans k4 k5) hx_x0_holds) rfl hp12241
    obtain rfl:=List.head_eq_of_cons_eq hehv12245
    obtain ⟨p7,hp12251,hr13⟩:=bind_some hr12
    obtain ⟨hb8,_,hv2,e2,q2,hehv12255,hx2⟩:=arrGet (Ty.mono _ (Zone.le_trans k4 k5) hx_x1_holds) rfl hp12251
    obtain rfl:=List.head_eq_of_cons_eq hehv12255
    refine c_sqD [(0,true),(1,true),(2,true),(3,true),(4,true),(5,true),(6,true),(7,true),(8,true),(9,true),(10,true)] [] [.slice e1 p6.length q1, .slice e2 p7.length q2] [2,3,6,48] hf17 (.prop hb7 (.cell ((arrAddr b1 1 y1.toNat) ▸ (hS6.box (i:=1) rfl (getElem?_app_right [.slice o_x0_lots x0_lots.length c_x0_lots] _ _ hv1 []))) (.prop hb8 (.cell ((arrAddr b2 1 y1.toNat) ▸ (hS6.box (i:=0) rfl (getElem?_app_right [.slice o_x1_lots x1_lots.length c_x1_lots] _ _ hv2 []))) .nil)))) .nil fun a15 hf18=>?_
    refine c_if ((p6.length:Int) != (p7.length:Int)) hf18 (fun hb9=>?_) (fun hb9=>?_)
    ·have hr14:=cond_t hb9 hr13
     refine c_sq [] [4] hf18 .nil fun a16 hf19=>?_
     refine c_ret ?_
     refine r_then ?_
     refine r_block ?_
     refine r_then ?_
     refine r_then ?_
     refine r_block ?_
     refine r_then ?_
     refine c_rt [] (.bool false) hf19 .nil ?_
     obtain rfl:=some_eq hr14
     exact ⟨_,rfl,z2,(Zone.le_trans k4 k5),rfl,(St.drop 2 hS6)⟩
    ·have hr15:=cond_f hb9 hr13
     refine c_skip ?_
     refine n_then ?_
     refine c_sq [] [2,3,6,7] hf18 .nil fun a17 hf20=>?_
     refine c_block 4 ?_
     refine c_loop (fun n a w=>∃z3:Zone,∃y2:Int,Zone.le z2 z3∧Fr a 75 [(2,pB b1 0),(3,pB b2 0),(6,vI y1),(7,vI y2)]∧St z3 (box b2 [.slice o_x1_lots x1_lots.length c_x1_lots,v0_x1_holds,v1_x1_holds,v2_x1_holds,v3_x1_holds,v4_x1_holds,v5_x1_holds,v6_x1_holds,v7_x1_holds,v8_x1_holds] 26::box b1 [.slice o_x0_lots x0_lots.length c_x0_lots,v0_x0_holds,v1_x0_holds,v2_x0_holds,v3_x0_holds,v4_x0_holds,v5_x0_holds,v6_x0_holds,v7_x0_holds,v8_x0_holds] 26::L) w∧(F29_l3 fuel (F29_l2 fuel x0_holds x1_holds n2) x0_holds x1_holds y1 n y2)=some r) fuel ⟨z2,0,(Zone.le_refl _),hf20.to,hS6,hr15⟩ ?_
     rintro n6 a18 ww5 ⟨z3,y2,k6,hf22,hS7,hr16⟩
     cases n6 with
     | zero=>cases hr16
     | succ n1 =>
     refine c_seq ?_
     obtain ⟨p1,hp12821,hr17⟩:=bind_some hr16
     obtain ⟨hb10,_,hv3,e3,q3,hehv12825,hx3⟩:=arrGet (Ty.mono _ (Zone.le_trans (Zone.le_trans k4 k5) k6) hx_x0_holds) rfl hp12821
     obtain rfl:=List.head_eq_of_cons_eq hehv12825
     refine c_sq [.slice e3 p1.length q3] [2,3,6,7,55] hf22 (.prop hb10 (.cell ((arrAddr b1 1 y1.toNat) ▸ (hS7.box (i:=1) rfl (getElem?_app_right [.slice o_x0_lots x0_lots.length c_x0_lots] _ _ hv3 []))) .nil)) fun a19 hf23=>?_
     refine c_if (decide (y2<(p1.length:Int))) hf23 (fun hb11=>?_) (fun hb11=>?_)
     ·have hr18:=cond_t hb11 hr17
      refine c_skip ?_
      refine n_then ?_
      refine c_seq ?_
      refine c_block 5 ?_
      refine c_seq ?_
      have hS8:=hS7.drew
      refine c_regD [(0,true),(1,true),(2,true),(3,true),(4,true),(5,true),(6,true),(7,true),(8,true),(9,true),(10,true),(11,true),(12,true),(13,true),(14,false),(15,true)] [14] (fun x=>x=ww5.drew) rfl ?_
      obtain ⟨p2,hp12908,hr19⟩:=bind_some hr18
      obtain ⟨hb12,_,hv4,e4,q4,hehv12912,hx4⟩:=arrGet (Ty.mono _ (Zone.le_trans (Zone.le_trans k4 k5) k6) hx_x0_holds) rfl hp12908
      obtain rfl:=List.head_eq_of_cons_eq hehv12912
      obtain ⟨p3,hp12918,hr20⟩:=bind_some hr19
      obtain ⟨ad3,ho3,hb13,cc3,hc3,hk3⟩:=SliceR.getI hx4 hp12918
      obtain ⟨e5,q5,rfl,hx5⟩:=hc3
      obtain ⟨p4,hp12930,hr21⟩:=bind_some hr20
      obtain ⟨hb14,_,hv5,e6,q6,hehv12934,hx6⟩:=arrGet (Ty.mono _ (Zone.le_trans (Zone.le_trans k4 k5) k6) hx_x1_holds) rfl hp12930
      obtain rfl:=List.head_eq_of_cons_eq hehv12934
      obtain ⟨p5,hp12940,hr22⟩:=bind_some hr21
      obtain ⟨ad4,ho4,hb15,cc4,hc4,hk4⟩:=SliceR.getI hx6 hp12940
      obtain ⟨e7,q7,rfl,hx7⟩:=hc4
      refine c_E 14 [.slice e4 p2.length q4, .pointer (some ad3), .slice e5 p3.length q5, .slice e6 p4.length q6, .pointer (some ad4), .slice e7 p5.length q7] [2,3,6,7,64,71] hf23 (.prop hb12 (.cell ((arrAddr b1 1 y1.toNat) ▸ (hS8.box (i:=1) rfl (getElem?_app_right [.slice o_x0_lots x0_lots.length c_x0_lots] _ _ hv4 []))) (.prop ho3 (.prop hb13 (.cell (hS8.cell (hk3 0 _ rfl)) (.prop hb14 (.cell ((arrAddr b2 1 y1.toNat) ▸ (hS8.box (i:=0) rfl (getElem?_app_right [.slice o_x1_lots x1_lots.length c_x1_lots] _ _ hv5 []))) (.prop ho4 (.prop hb15 (.cell (hS8.cell (hk4 0 _ rfl)) .nil)))))))))) .nil fun a20 hf24=>?_
      obtain ⟨r1,hd1,hr23⟩:=bind_some hr22
      refine c_call hf24 (f26_ok fuel p3 p5 r1 hd1 z3 _ _ hS8 e5 q5 hx5 e7 q7 hx7) ?_
      rintro v1 ww6 a21 ⟨z4,k7,rfl,hS9⟩ hf25
      refine ⟨fun e=>absurd e (by decide),?_⟩
      refine p_qP 1 [] [(2,pB b1 0),(3,pB b2 0),(6,vI y1),(7,vI y2),(8, .bool r1)] [] hf25 (by kernel_rfl) (fun _=> .nil) fun a22 hf26=>?_
      refine c_dt ?_
      refine c_sq [] [2,3,6,7,74] hf26 .nil fun a23 hf27=>?_
      refine c_if (!r1) hf27 (fun hb16=>?_) (fun hb16=>?_)
      ·have hr24:=cond_t hb16 hr23
       refine c_sq [] [4] hf27 .nil fun a24 hf28=>?_
       refine c_ret ?_
       refine r_block ?_
       refine r_then ?_
       refine r_then ?_
       refine r_block ?_
       refine r_block ?_
       refine r_then ?_
       refine r_then ?_
       refine r_block ?_
       refine r_then ?_
       refine c_rt [] (.bool false) hf28 .nil ?_
       obtain rfl:=some_eq hr24
       exact ⟨_,rfl,z4,(Zone.le_trans (Zone.le_trans (Zone.le_trans k4 k5) k6) k7),rfl,(St.drop 2 hS9)⟩
      ·have hr25:=cond_f hb16 hr23
       refine c_skip ?_
       refine n_block ?_
       refine n_then ?_
       refine c_q [] [2,3,6,7] hf27 .nil fun a25 hf29=>?_
       refine n_then ?_
       exact ⟨n1,Nat.lt_succ_self n1,z4,(w64 (y2 + (1:Int))),(Zone.le_trans k6 k7),hf29.to,hS9,hr25⟩
     ·have hr26:=cond_f hb11 hr17
      refine c_exit 4 ?_
      refine x_then ?_
      refine x_then ?_
      refine x_block ?_
      refine n_block ?_
      refine n_then ?_
      refine c_q [] [2,3,6] hf23 .nil fun a26 hf31=>?_
      refine n_then ?_
      exact ⟨n2,Nat.lt_succ_self n2,z3,(w64 (y1 + (1:Int))),(Zone.le_trans k5 k6),hf31.to,hS7,hr26⟩
   ·have hr27:=cond_f hb6 hr10
    refine c_exit 2 ?_
    refine x_then ?_
    refine x_then ?_
    refine x_block ?_
    refine n_then ?_
    refine c_sq [] [4] hf17 .nil fun a27 hf33=>?_
    refine c_ret ?_
    refine c_rt [] (.bool true) hf33 .nil ?_
    obtain rfl:=some_eq hr27
    exact ⟨_,rfl,z2,(Zone.le_trans k4 k5),rfl,(St.drop 2 hS5)⟩
def F44_j1 (k1:(List Lot)→(List (List (List Part)))→Int→Option (List Lot×List (List (List Part))×Int×Int)) (y1:Int) (y2:Int) (y3:List Lot) (y4:List (List (List Part))):Option (List Lot×List (List (List Part))×Int×Int) :=
  (cond (y2 != (0:Int)) (some ([],[[],[],[],[],[],[],[],[],[]],y1,y2)) (k1 y3 y4 (w64 (y1 + (1:Int)))))
def F44_l1 (fuel:Nat) (x1:List Deed):Nat→(List Lot)→(List (List (List Part)))→Int→Option (List Lot×List (List (List Part))×Int×Int)
  | 0,_,_,_=>none
  | n1 + 1,y5,y6,y1 =>
    let k1:(List Lot)→(List (List (List Part)))→Int→Option (List Lot×List (List (List Part))×Int×Int):=F44_l1 fuel x1 n1
    (cond (decide (y1<(x1.length:Int))) ((getI x1 y1).bind fun p1=>((F28 fuel y5 y6 p1.kind p1.lot p1.frm p1.to p1.mass).bind fun r1=>(F44_j1 k1 y1 r1.2.2.2 r1.1 r1.2.1))) (some (y5,y6,(x1.length:Int),0)))
def F44 (fuel:Nat) (x0:List Lot) (x1:List Deed):Option (List Lot×List (List (List Part))×Int×Int) :=
  ((F20 fuel x0).bind fun r2=>(cond (r2 != (0:Int)) (some ([],[[],[],[],[],[],[],[],[],[]],0,60)) (cond (decide ((x1.length:Int) > (60:Int))) (some ([],[[],[],[],[],[],[],[],[],[]],0,2)) ((appC ([]) x0).bind fun d1=>(F44_l1 fuel x1 fuel d1 ([[],[],[],[],[],[],[],[],[]]) 0)))))
set_option maxRecDepth 100000 in
theorem f44_ok (fuel:Nat) (x0:List Lot) (x1:List Deed) (r:List Lot×List (List (List Part))×Int×Int) (hr:F44 fuel x0 x1=some r) (h:Zone) (L:List Atom) (w:World) (hS:St h L w) (o_x0:Option Addr) (c_x0:Nat) (hx_x0:SliceR LotT h o_x0 c_x0 x0) (o_x1:Option Addr) (c_x1:Nat) (hx_x1:SliceR DeedT h o_x1 c_x1 x1) :
    Calls Try.prog 44 #[.slice o_x0 x0.length c_x0, .slice o_x1 x1.length c_x1] w fun e w'=>∃v,e= .returned v∧(∃h',∃o0:Option Addr,∃c0:Nat,∃v1_0:Value,∃v1_1:Value,∃v1_2:Value,∃v1_3:Value,∃v1_4:Value,∃v1_5:Value,∃v1_6:Value,∃v1_7:Value,∃v1_8:Value,Zone.le h h'∧v= .tuple #[.agg #[.slice o0 r.1.length c0,v1_0,v1_1,v1_2,v1_3,v1_4,v1_5,v1_6,v1_7,v1_8],vI r.2.2.1,vI r.2.2.2]∧St h' L w'∧SliceR LotT h' o0 c0 r.1∧(Ty.arr 9 (Ty.slice (Ty.slice PartT))).rep h' [v1_0,v1_1,v1_2,v1_3,v1_4,v1_5,v1_6,v1_7,v1_8] r.2.1):=by
 refine calls_intro (N:=49) Try.func44 (by kernel_rfl) fun a hf=>?_
 refine c_sr ?_
 refine c_box [.slice none 0 0, .slice none 0 0, .slice none 0 0, .slice none 0 0, .slice none 0 0, .slice none 0 0, .slice none 0 0, .slice none 0 0, .slice none 0 0, .slice none 0 0] 26 hS hf fun b1 ww1 a1 hS1 hf1=>⟨fun _=>trivial,?_⟩
 refine c_t [] [0,1,4] hf1 .nil fun a2 hf2=>?_
 refine c_seq ?_
 refine c_sr ?_
 refine c_n 1 [] [0,1,4,12] hf2 .nil fun a3 hf3=>?_
 obtain ⟨r2,hd1,hr1⟩:=bind_some hr
 refine c_call hf3 (f20_ok fuel x0 r2 hd1 h _ _ hS1 o_x0 c_x0 hx_x0) ?_
 rintro v1 ww2 a4 ⟨z1,k2,rfl,hS2⟩ hf4
 refine ⟨fun _=>trivial,?_⟩
 refine c_t [] [0,1,4,14] hf4 .nil fun a5 hf5=>?_
 refine c_if (r2 != (0:Int)) hf5 (fun hb1=>?_) (fun hb1=>?_)
 ·have hr2:=cond_t hb1 hr1
  refine c_sr ?_
  refine c_n 1 [] [4,15] hf5 .nil fun a6 hf6=>?_
  refine c_st 0 [.slice none 0 0, .slice none 0 0, .slice none 0 0, .slice none 0 0, .slice none 0 0, .slice none 0 0, .slice none 0 0, .slice none 0 0, .slice none 0 0, .slice none 0 0] hS2 hf6 rfl fun ww3 a7 hS3 hf7=>⟨fun _=>trivial,?_⟩
  refine c_t [] [4,5,6] hf7 .nil fun a8 hf8=>?_
  refine c_ret ?_
  refine r_then ?_
  refine c_rt [.slice none 0 0, .slice none 0 0, .slice none 0 0, .slice none 0 0, .slice none 0 0, .slice none 0 0, .slice none 0 0, .slice none 0 0, .slice none 0 0, .slice none 0 0] (.tuple #[.agg #[.slice none 0 0, .slice none 0 0, .slice none 0 0, .slice none 0 0, .slice none 0 0, .slice none 0 0, .slice none 0 0, .slice none 0 0, .slice none 0 0, .slice none 0 0],vI 0,vI 60]) hf8 (.cell (hS3.box (i:=0) rfl (j:=0) rfl) (.cell (hS3.box (i:=0) rfl (j:=1) rfl) (.cell (hS3.box (i:=0) rfl (j:=2) rfl) (.cell (hS3.box (i:=0) rfl (j:=3) rfl) (.cell (hS3.box (i:=0) rfl (j:=4) rfl) (.cell (hS3.box (i:=0) rfl (j:=5) rfl) (.cell (hS3.box (i:=0) rfl (j:=6) rfl) (.cell (hS3.box (i:=0) rfl (j:=7) rfl) (.cell (hS3.box (i:=0) rfl (j:=8) rfl) (.cell (hS3.box (i:=0) rfl (j:=9) rfl) .nil)))))))))) ?_
  obtain rfl:=some_eq hr2
  exact ⟨_,rfl,z1,none,0, .slice none 0 0, .slice none 0 0, .slice none 0 0, .slice none 0 0, .slice none 0 0, .slice none 0 0, .slice none 0 0, .slice none 0 0, .slice none 0 0,k2,rfl,(St.drop 1 hS3),SliceR.nil' _ _,⟨rfl,(Rows.cons (c:=[_]) (sliceRep (SliceR.nil' _ _)) (Rows.cons (c:=[_]) (sliceRep (SliceR.nil' _ _)) (Rows.cons (c:=[_]) (sliceRep (SliceR.nil' _ _)) (Rows.cons (c:=[_]) (sliceRep (SliceR.nil' _ _)) (Rows.cons (c:=[_]) (sliceRep (SliceR.nil' _ _)) (Rows.cons (c:=[_]) (sliceRep (SliceR.nil' _ _)) (Rows.cons (c:=[_]) (sliceRep (SliceR.nil' _ _)) (Rows.cons (c:=[_]) (sliceRep (SliceR.nil' _ _)) (Rows.cons (c:=[_]) (sliceRep (SliceR.nil' _ _)) rfl)))))))))⟩⟩
 ·have hr3:=cond_f hb1 hr1
  refine c_skip ?_
  refine n_then ?_
  refine c_seq ?_
  refine c_sq [] [0,1,4,18] hf5 .nil fun a9 hf9=>?_
  refine c_if (decide ((x1.length:Int) > (60:Int))) hf9 (fun hb2=>?_) (fun hb2=>?_)
  ·have hr4:=cond_t hb2 hr3
   refine c_sr ?_
   refine c_n 1 [] [4,19] hf9 .nil fun a10 hf10=>?_
   refine c_st 0 [.slice none 0 0, .slice none 0 0, .slice none 0 0, .slice none 0 0, .slice none 0 0, .slice none 0 0, .slice none 0 0, .slice none 0 0, .slice none 0 0, .slice none 0 0] hS2 hf10 rfl fun ww4 a11 hS4 hf11=>⟨fun _=>trivial,?_⟩
   refine c_t [] [4,5,6] hf11 .nil fun a12 hf12=>?_
   refine c_ret ?_
   refine r_then ?_
   refine c_rt [.slice none 0 0, .slice none 0 0, .slice none 0 0, .slice none 0 0, .slice none 0 0, .slice none 0 0, .slice none 0 0, .slice none 0 0, .slice none 0 0, .slice none 0 0] (.tuple #[.agg #[.slice none 0 0, .slice none 0 0, .slice none 0 0, .slice none 0 0, .slice none 0 0, .slice none 0 0, .slice none 0 0, .slice none 0 0, .slice none 0 0, .slice none 0 0],vI 0,vI 2]) hf12 (.cell (hS4.box (i:=0) rfl (j:=0) rfl) (.cell (hS4.box (i:=0) rfl (j:=1) rfl) (.cell (hS4.box (i:=0) rfl (j:=2) rfl) (.cell (hS4.box (i:=0) rfl (j:=3) rfl) (.cell (hS4.box (i:=0) rfl (j:=4) rfl) (.cell (hS4.box (i:=0) rfl (j:=5) rfl) (.cell (hS4.box (i:=0) rfl (j:=6) rfl) (.cell (hS4.box (i:=0) rfl (j:=7) rfl) (.cell (hS4.box (i:=0) rfl (j:=8) rfl) (.cell (hS4.box (i:=0) rfl (j:=9) rfl) .nil)))))))))) ?_
   obtain rfl:=some_eq hr4
   exact ⟨_,rfl,z1,none,0, .slice none 0 0, .slice none 0 0, .slice none 0 0, .slice none 0 0, .slice none 0 0, .slice none 0 0, .slice none 0 0, .slice none 0 0, .slice none 0 0,k2,rfl,(St.drop 1 hS4),SliceR.nil' _ _,⟨rfl,(Rows.cons (c:=[_]) (sliceRep (SliceR.nil' _ _)) (Rows.cons (c:=[_]) (sliceRep (SliceR.nil' _ _)) (Rows.cons (c:=[_]) (sliceRep (SliceR.nil' _ _)) (Rows.cons (c:=[_]) (sliceRep (SliceR.nil' _ _)) (Rows.cons (c:=[_]) (sliceRep (SliceR.nil' _ _)) (Rows.cons (c:=[_]) (sliceRep (SliceR.nil' _ _)) (Rows.cons (c:=[_]) (sliceRep (SliceR.nil' _ _)) (Rows.cons (c:=[_]) (sliceRep (SliceR.nil' _ _)) (Rows.cons (c:=[_]) (sliceRep (SliceR.nil' _ _)) rfl)))))))))⟩⟩
  ·have hr5:=cond_f hb2 hr3
   refine c_skip ?_
   refine n_then ?_
   refine c_sr ?_
   refine p_box (i:=0) (d:=(some 20)) (cs:=[]) (T:=33) (v:=fun b2=> .slice (some ⟨b2,0,none⟩) 0 0) hS2 hf9 (fun b=>by kernel_rfl) fun b2 ww5 a13 hS5 hf13=>⟨fun _=>trivial,?_⟩
   have hS6:=hS5.ownBox (T:=LotT) (E:=33) (n:=0) (xs:=[]) (i:=0) rfl rfl rfl (by decide)
   refine c_n 1 [] [1,4,20,21] hf13 .nil fun a14 hf14=>?_
   obtain ⟨d1,hd2,hr6⟩:=bind_some hr5
   refine p_append (T:=LotT) (i:=2) (j:=0) (d:=some 22) (o2:=o_x0) (c2:=c_x0) (ys:=x0) el22 hS6 hf14 rfl (by kernel_rfl) (SliceR.src (SliceR.mono k2 hx_x0) hS6) hd2 fun e1 q1 ww6 a15 hS7 hf15=>⟨fun _=>trivial,?_⟩
   refine c_n 1 [] [1,4,23] hf15 .nil fun a16 hf16=>?_
   refine c_box [.slice none 0 0, .slice none 0 0, .slice none 0 0, .slice none 0 0, .slice none 0 0, .slice none 0 0, .slice none 0 0, .slice none 0 0, .slice none 0 0, .slice none 0 0] 26 hS7 hf16 fun b3 ww7 a17 hS8 hf17=>⟨fun _=>trivial,?_⟩
   refine c_st 0 [.slice e1 d1.length q1, .slice none 0 0, .slice none 0 0, .slice none 0 0, .slice none 0 0, .slice none 0 0, .slice none 0 0, .slice none 0 0, .slice none 0 0, .slice none 0 0] hS8 hf17 rfl fun ww8 a18 hS9 hf18=>⟨fun _=>trivial,?_⟩
   refine c_dt ?_
   refine c_seq ?_
   refine c_sq [] [1,4,7,8] hf18 .nil fun a19 hf19=>?_
   refine c_block 0 ?_
   obtain ⟨z2,k3,hS10,hx1⟩:=hS9.share (j:=1) rfl
   refine c_loop (fun n a w=>∃z3:Zone,∃y5:List Lot,∃y6:List (List (List Part)),∃y1:Int,∃e2:Option Addr,∃q2:Nat,∃v2:Value,∃v3:Value,∃v4:Value,∃v5:Value,∃v6:Value,∃v7:Value,∃v8:Value,∃v9:Value,∃v10:Value,Zone.le z2 z3∧Fr a 49 [(1, .slice o_x1 x1.length c_x1),(4,pB b1 0),(7,pB b3 0),(8,vI y1)]∧St z3 (box b3 [.slice e2 y5.length q2,v2,v3,v4,v5,v6,v7,v8,v9,v10] 26::emp::box b1 [.slice none 0 0, .slice none 0 0, .slice none 0 0, .slice none 0 0, .slice none 0 0, .slice none 0 0, .slice none 0 0, .slice none 0 0, .slice none 0 0, .slice none 0 0] 26::L) w∧SliceR LotT z3 e2 q2 y5∧(Ty.arr 9 (Ty.slice (Ty.slice PartT))).rep z3 [v2,v3,v4,v5,v6,v7,v8,v9,v10] y6∧(F44_l1 fuel x1 n y5 y6 y1)=some r) fuel ⟨z2,d1,[[],[],[],[],[],[],[],[],[]],0,e1,q1,(.slice none 0 0),(.slice none 0 0),(.slice none 0 0),(.slice none 0 0),(.slice none 0 0),(.slice none 0 0),(.slice none 0 0),(.slice none 0 0),(.slice none 0 0),zr,hf19.to,hS10,hx1,⟨rfl,(Rows.cons (c:=[_]) (sliceRep (SliceR.nil' _ _)) (Rows.cons (c:=[_]) (sliceRep (SliceR.nil' _ _)) (Rows.cons (c:=[_]) (sliceRep (SliceR.nil' _ _)) (Rows.cons (c:=[_]) (sliceRep (SliceR.nil' _ _)) (Rows.cons (c:=[_]) (sliceRep (SliceR.nil' _ _)) (Rows.cons (c:=[_]) (sliceRep (SliceR.nil' _ _)) (Rows.cons (c:=[_]) (sliceRep (SliceR.nil' _ _)) (Rows.cons (c:=[_]) (sliceRep (SliceR.nil' _ _)) (Rows.cons (c:=[_]) (sliceRep (SliceR.nil' _ _)) rfl)))))))))⟩,hr6⟩ ?_
   rintro n2 a20 ww9 ⟨z3,y5,y6,y1,e2,q2,v2,v3,v4,v5,v6,v7,v8,v9,v10,k4,hf21,hS11,hx2,hx3,hr7⟩
   cases n2 with
   | zero=>cases hr7
   | succ n1 =>
   refine c_seq ?_
   refine c_sq [] [1,4,7,8,27] hf21 .nil fun a21 hf22=>?_
   refine c_if (decide (y1<(x1.length:Int))) hf22 (fun hb3=>?_) (fun hb3=>?_)
   ·have hr8:=cond_t hb3 hr7
    refine c_skip ?_
    refine n_then ?_
    refine c_seq ?_
    refine c_block 1 ?_
    refine c_mid (fun a w=>∃z4:Zone,∃y2:Int,∃y3:List Lot,∃y4:List (List (List Part)),∃b4:Nat,∃e3:Option Addr,∃q3:Nat,∃v11:Value,∃v12:Value,∃v13:Value,∃v14:Value,∃v15:Value,∃v16:Value,∃v17:Value,∃v18:Value,∃v19:Value,Zone.le z3 z4∧Fr a 49 [(1, .slice o_x1 x1.length c_x1),(4,pB b1 0),(7,pB b3 0),(8,vI y1),(9,pB b4 0),(11,vI y2)]∧St z4 (box b4 [.slice e3 y3.length q3,v11,v12,v13,v14,v15,v16,v17,v18,v19] 26::box b3 [.slice e2 y5.length q2,v2,v3,v4,v5,v6,v7,v8,v9,v10] 26::emp::box b1 [.slice none 0 0, .slice none 0 0, .slice none 0 0, .slice none 0 0, .slice none 0 0, .slice none 0 0, .slice none 0 0, .slice none 0 0, .slice none 0 0, .slice none 0 0] 26::L) w∧SliceR LotT z4 e3 q3 y3∧(Ty.arr 9 (Ty.slice (Ty.slice PartT))).rep z4 [v11,v12,v13,v14,v15,v16,v17,v18,v19] y4∧(F44_j1 (F44_l1 fuel x1 n1) y1 y2 y3 y4)=some r) ?_ ?_
    ·skip
     have hS12:=hS11.drew
     have s1:=Sub.of zr hS12
     refine w_regB (by kernel_rfl) [5,12,13] (Sub z3 (box b3 [.slice e2 y5.length q2,v2,v3,v4,v5,v6,v7,v8,v9,v10] 26::emp::box b1 [.slice none 0 0, .slice none 0 0, .slice none 0 0, .slice none 0 0, .slice none 0 0, .slice none 0 0, .slice none 0 0, .slice none 0 0, .slice none 0 0, .slice none 0 0] 26::L)) (by kernel_rfl) ?_
     refine k_seg' 10 [(0,true),(1,true),(2,true),(3,true),(4,true)] (by kernel_rfl) (by kernel_rfl) (At.start s1) (by kernel_rfl) ?_
     obtain ⟨p1,hp27086,hr9⟩:=bind_some hr8
     obtain ⟨ad1,ho1,hb4,cc1,hc1,hk1⟩:=SliceR.getI (SliceR.mono (zt (zt k2 k3) k4) hx_x1) hp27086
     subst hc1
     refine c_S 5 [.slice e2 y5.length q2,v2,v3,v4,v5,v6,v7,v8,v9,v10, .pointer (some ad1),vI p1.kind,vI p1.lot,vI p1.frm,vI p1.to,vI p1.mass] [1,4,7,8,31,35] s1 hf22 (fun _ s=>(.cell (s.box (i:=0) rfl (j:=0) rfl) (.cell (s.box (i:=0) rfl (j:=1) rfl) (.cell (s.box (i:=0) rfl (j:=2) rfl) (.cell (s.box (i:=0) rfl (j:=3) rfl) (.cell (s.box (i:=0) rfl (j:=4) rfl) (.cell (s.box (i:=0) rfl (j:=5) rfl) (.cell (s.box (i:=0) rfl (j:=6) rfl) (.cell (s.box (i:=0) rfl (j:=7) rfl) (.cell (s.box (i:=0) rfl (j:=8) rfl) (.cell (s.box (i:=0) rfl (j:=9) rfl) (.prop ho1 (.prop hb4 (.cell (s.cell (hk1 0 _ rfl)) (.cell (s.cell (hk1 1 _ rfl)) (.cell (s.cell (hk1 2 _ rfl)) (.cell (s.cell (hk1 3 _ rfl)) (.cell (s.cell (hk1 4 _ rfl)) .nil)))))))))))))))))) .nil fun a22 hf23=>?_
     refine c_done ?_
     intro hA1
     refine k_any' 9 [5,10,11] (by kernel_rfl) hA1 (by kernel_rfl) (by kernel_rfl) ?_
     refine (all_cons ?_ (all_cons ?_ (all_cons ?_ all_nil)))
     ·skip
      obtain ⟨r1,hd3,hr10⟩:=bind_some hr9
      refine c_call hf23 (f28_ok fuel y5 y6 p1.kind p1.lot p1.frm p1.to p1.mass r1 hd3 z3 _ _ hS12 e2 q2 hx2 v2 v3 v4 v5 v6 v7 v8 v9 v10 (Ty.mono _ zr hx3)) ?_
      rintro v20 ww10 a23 ⟨z5,e4,q4,v21,v22,v23,v24,v25,v26,v27,v28,v29,e5,q5,k5,rfl,hS13,hx4,hx5,hx6⟩ hf24
      refine ⟨fun e=>absurd e (by decide),?_⟩
      refine c_done ?_
      intro hA2
      refine k_seg' 5 [(6,true),(7,true),(8,true),(9,true)] (by kernel_rfl) (by kernel_rfl) hA2 (by kernel_rfl) ?_
      refine p_qP 4 [] [(1, .slice o_x1 x1.length c_x1),(4,pB b1 0),(7,pB b3 0),(8,vI y1),(37, .agg #[.slice e4 r1.1.length q4,v21,v22,v23,v24,v25,v26,v27,v28,v29]),(38, .agg #[.slice e5 r1.2.2.1.length q5]),(39,vI r1.2.2.2)] [] hf24 (by kernel_rfl) (fun _=> .nil) fun a24 hf25=>?_
      refine c_done ?_
      intro hA3
      refine k_any' 4 [10,11] (by kernel_rfl) hA3 (by kernel_rfl) (by kernel_rfl) ?_
      refine (all_cons ?_ (all_cons ?_ all_nil))
      ·skip
       refine c_box [.slice none 0 0, .slice none 0 0, .slice none 0 0, .slice none 0 0, .slice none 0 0, .slice none 0 0, .slice none 0 0, .slice none 0 0, .slice none 0 0, .slice none 0 0] 26 hS13 hf25 fun b5 ww11 a25 hS14 hf26=>⟨fun _=>Sub.of k5 (St.drop 1 hS14),?_⟩
       refine c_done ?_
       intro hA4
       refine k_seg' 0 [(11,false),(12,false),(13,false),(14,true)] (by kernel_rfl) (by kernel_rfl) hA4 (by kernel_rfl) ?_
       refine c_box [.slice none 0 0] 40 hS14 hf26 fun b6 ww12 a26 hS15 hf27=>⟨fun _=>Sub.of k5 (St.drop 2 hS15),?_⟩
       have s2:=Sub.of k5 (St.drop 2 hS15)
       have hq1:=oneCells_of (Ty.one _ (Ty.mono _ zr hx5))
       refine p_store_eq (i:=12) (j:=1) (b:=b5) (off:=0) (vs:=[.slice e4 r1.1.length q4,v21,v22,v23,v24,v25,v26,v27,v28,v29]) (cs':=[.slice e4 r1.1.length q4,v21,v22,v23,v24,v25,v26,v27,v28,v29]) hS15 hf27 rfl (by kernel_rfl) hq1 rfl fun ww13 a27 hS16 hf28=>⟨fun e=>absurd e (by decide),?_⟩
       refine c_st 0 [.slice e5 r1.2.2.1.length q5] hS16 hf28 rfl fun ww14 a28 hS17 hf29=>⟨fun e=>absurd e (by decide),?_⟩
       refine p_qP 1 [] [(1, .slice o_x1 x1.length c_x1),(4,pB b1 0),(7,pB b3 0),(8,vI y1),(9,pB b5 0),(11,vI r1.2.2.2)] [] hf29 (by kernel_rfl) (fun _=> .nil) fun a29 hf30=>?_
       refine c_done ?_
       intro hA5
       refine k_done' (by kernel_rfl) (by kernel_rfl) ?_
       refine n_then ?_
       exact ⟨z5,r1.2.2.2,r1.1,r1.2.1,b5,e4,q4,v21,v22,v23,v24,v25,v26,v27,v28,v29,k5,hf30.to,(St.pick 2 [1] hS17 (by kernel_rfl)),hx4,(Ty.mono _ zr hx5),hr10⟩
      ·skip
       refine c_box [.slice none 0 0] 40 hS13 hf25 fun b7 ww15 a30 hS18 hf32=>⟨fun _=>Sub.of k5 (St.drop 1 hS18),?_⟩
       refine c_done ?_
       intro hA6
       refine k_seg' 0 [(10,false),(12,false),(13,false),(14,true)] (by kernel_rfl) (by kernel_rfl) hA6 (by kernel_rfl) ?_
       refine c_box [.slice none 0 0, .slice none 0 0, .slice none 0 0, .slice none 0 0, .slice none 0 0, .slice none 0 0, .slice none 0 0, .slice none 0 0, .slice none 0 0, .slice none 0 0] 26 hS18 hf32 fun b8 ww16 a31 hS19 hf33=>⟨fun _=>Sub.of k5 (St.drop 2 hS19),?_⟩
       have s3:=Sub.of k5 (St.drop 2 hS19)
       have hq2:=oneCells_of (Ty.one _ (Ty.mono _ zr hx5))
       refine p_store_eq (i:=12) (j:=0) (b:=b8) (off:=0) (vs:=[.slice e4 r1.1.length q4,v21,v22,v23,v24,v25,v26,v27,v28,v29]) (cs':=[.slice e4 r1.1.length q4,v21,v22,v23,v24,v25,v26,v27,v28,v29]) hS19 hf33 rfl (by kernel_rfl) hq2 rfl fun ww17 a32 hS20 hf34=>⟨fun e=>absurd e (by decide),?_⟩
       refine c_st 1 [.slice e5 r1.2.2.1.length q5] hS20 hf34 rfl fun ww18 a33 hS21 hf35=>⟨fun e=>absurd e (by decide),?_⟩
       refine p_qP 1 [] [(1, .slice o_x1 x1.length c_x1),(4,pB b1 0),(7,pB b3 0),(8,vI y1),(9,pB b8 0),(11,vI r1.2.2.2)] [] hf35 (by kernel_rfl) (fun _=> .nil) fun a34 hf36=>?_
       refine c_done ?_
       intro hA7
       refine k_done' (by kernel_rfl) (by kernel_rfl) ?_
       refine n_then ?_
       exact ⟨z5,r1.2.2.2,r1.1,r1.2.1,b8,e4,q4,v21,v22,v23,v24,v25,v26,v27,v28,v29,k5,hf36.to,(St.pick 2 [0] hS21 (by kernel_rfl)),hx4,(Ty.mono _ zr hx5),hr10⟩
     ·skip
      refine c_box [.slice none 0 0, .slice none 0 0, .slice none 0 0, .slice none 0 0, .slice none 0 0, .slice none 0 0, .slice none 0 0, .slice none 0 0, .slice none 0 0, .slice none 0 0] 26 hS12 hf23 fun b9 ww19 a35 hS22 hf38=>⟨fun _=>Sub.of zr (St.drop 1 hS22),?_⟩
      refine c_done ?_
      intro hA8
      have s4:=Sub.of zr (St.drop 1 hS22)
      refine k_seg' 9 [] (by kernel_rfl) (by kernel_rfl) hA8 (by kernel_rfl) ?_
      refine c_done ?_
      intro hA9
      refine k_any' 8 [5,11] (by kernel_rfl) hA9 (by kernel_rfl) (by kernel_rfl) ?_
      refine (all_cons ?_ (all_cons ?_ all_nil))
      ·skip
       obtain ⟨r3,hd4,hr11⟩:=bind_some hr9
       refine c_call hf38 (f28_ok fuel y5 y6 p1.kind p1.lot p1.frm p1.to p1.mass r3 hd4 z3 _ _ hS22 e2 q2 hx2 v2 v3 v4 v5 v6 v7 v8 v9 v10 (Ty.mono _ zr hx3)) ?_
       rintro v30 ww20 a36 ⟨z6,e6,q6,v31,v32,v33,v34,v35,v36,v37,v38,v39,e7,q7,k6,rfl,hS23,hx7,hx8,hx9⟩ hf39
       refine ⟨fun e=>absurd e (by decide),?_⟩
       refine c_done ?_
       intro hA10
       refine k_seg' 0 [(6,true),(7,true),(8,true),(9,true),(11,false),(12,false),(13,false),(14,true)] (by kernel_rfl) (by kernel_rfl) hA10 (by kernel_rfl) ?_
       refine p_qP 4 [] [(1, .slice o_x1 x1.length c_x1),(4,pB b1 0),(7,pB b3 0),(8,vI y1),(9,pB b9 0),(37, .agg #[.slice e6 r3.1.length q6,v31,v32,v33,v34,v35,v36,v37,v38,v39]),(38, .agg #[.slice e7 r3.2.2.1.length q7]),(39,vI r3.2.2.2)] [] hf39 (by kernel_rfl) (fun _=> .nil) fun a37 hf40=>?_
       refine c_box [.slice none 0 0] 40 hS23 hf40 fun b10 ww21 a38 hS24 hf41=>⟨fun _=>Sub.of k6 (St.drop 2 hS24),?_⟩
       have s5:=Sub.of k6 (St.drop 2 hS24)
       have hq3:=oneCells_of (Ty.one _ (Ty.mono _ zr hx8))
       refine p_store_eq (i:=12) (j:=1) (b:=b9) (off:=0) (vs:=[.slice e6 r3.1.length q6,v31,v32,v33,v34,v35,v36,v37,v38,v39]) (cs':=[.slice e6 r3.1.length q6,v31,v32,v33,v34,v35,v36,v37,v38,v39]) hS24 hf41 rfl (by kernel_rfl) hq3 rfl fun ww22 a39 hS25 hf42=>⟨fun e=>absurd e (by decide),?_⟩
       refine c_st 0 [.slice e7 r3.2.2.1.length q7] hS25 hf42 rfl fun ww23 a40 hS26 hf43=>⟨fun e=>absurd e (by decide),?_⟩
       refine p_qP 1 [] [(1, .slice o_x1 x1.length c_x1),(4,pB b1 0),(7,pB b3 0),(8,vI y1),(9,pB b9 0),(11,vI r3.2.2.2)] [] hf43 (by kernel_rfl) (fun _=> .nil) fun a41 hf44=>?_
       refine c_done ?_
       intro hA11
       refine k_done' (by kernel_rfl) (by kernel_rfl) ?_
       refine n_then ?_
       exact ⟨z6,r3.2.2.2,r3.1,r3.2.1,b9,e6,q6,v31,v32,v33,v34,v35,v36,v37,v38,v39,k6,hf44.to,(St.pick 2 [1] hS26 (by kernel_rfl)),hx7,(Ty.mono _ zr hx8),hr11⟩
      ·skip
       refine c_box [.slice none 0 0] 40 hS22 hf38 fun b11 ww24 a42 hS27 hf46=>⟨fun _=>Sub.of zr (St.drop 2 hS27),?_⟩
       refine c_done ?_
       intro hA12
       have s6:=Sub.of zr (St.drop 2 hS27)
       refine k_seg' 0 [(5,false),(6,true),(7,true),(8,true),(9,true),(12,false),(13,false),(14,true)] (by kernel_rfl) (by kernel_rfl) hA12 (by kernel_rfl) ?_
       obtain ⟨r4,hd5,hr12⟩:=bind_some hr9
       refine c_call hf46 (f28_ok fuel y5 y6 p1.kind p1.lot p1.frm p1.to p1.mass r4 hd5 z3 _ _ hS27 e2 q2 hx2 v2 v3 v4 v5 v6 v7 v8 v9 v10 (Ty.mono _ zr hx3)) ?_
       rintro v40 ww25 a43 ⟨z7,e8,q8,v41,v42,v43,v44,v45,v46,v47,v48,v49,e9,q9,k7,rfl,hS28,hx10,hx11,hx12⟩ hf47
       refine ⟨fun e=>absurd e (by decide),?_⟩
       refine p_qP 4 [] [(1, .slice o_x1 x1.length c_x1),(4,pB b1 0),(7,pB b3 0),(8,vI y1),(9,pB b9 0),(10,pB b11 0),(37, .agg #[.slice e8 r4.1.length q8,v41,v42,v43,v44,v45,v46,v47,v48,v49]),(38, .agg #[.slice e9 r4.2.2.1.length q9]),(39,vI r4.2.2.2)] [] hf47 (by kernel_rfl) (fun _=> .nil) fun a44 hf48=>?_
       have hq4:=oneCells_of (Ty.one _ (Ty.mono _ zr hx11))
       refine p_store_eq (i:=12) (j:=1) (b:=b9) (off:=0) (vs:=[.slice e8 r4.1.length q8,v41,v42,v43,v44,v45,v46,v47,v48,v49]) (cs':=[.slice e8 r4.1.length q8,v41,v42,v43,v44,v45,v46,v47,v48,v49]) hS28 hf48 rfl (by kernel_rfl) hq4 rfl fun ww26 a45 hS29 hf49=>⟨fun e=>absurd e (by decide),?_⟩
       refine c_st 0 [.slice e9 r4.2.2.1.length q9] hS29 hf49 rfl fun ww27 a46 hS30 hf50=>⟨fun e=>absurd e (by decide),?_⟩
       refine p_qP 1 [] [(1, .slice o_x1 x1.length c_x1),(4,pB b1 0),(7,pB b3 0),(8,vI y1),(9,pB b9 0),(11,vI r4.2.2.2)] [] hf50 (by kernel_rfl) (fun _=> .nil) fun a47 hf51=>?_
       refine c_done ?_
       intro hA13
       refine k_done' (by kernel_rfl) (by kernel_rfl) ?_
       refine n_then ?_
       exact ⟨z7,r4.2.2.2,r4.1,r4.2.1,b9,e8,q8,v41,v42,v43,v44,v45,v46,v47,v48,v49,k7,hf51.to,(St.pick 2 [1] hS30 (by kernel_rfl)),hx10,(Ty.mono _ zr hx11),hr12⟩
     ·skip
      refine c_box [.slice none 0 0] 40 hS12 hf23 fun b12 ww28 a48 hS31 hf53=>⟨fun _=>Sub.of zr (St.drop 1 hS31),?_⟩
      refine c_done ?_
      intro hA14
      have s7:=Sub.of zr (St.drop 1 hS31)
      refine k_seg' 9 [] (by kernel_rfl) (by kernel_rfl) hA14 (by kernel_rfl) ?_
      refine c_done ?_
      intro hA15
      refine k_any' 8 [5,10] (by kernel_rfl) hA15 (by kernel_rfl) (by kernel_rfl) ?_
      refine (all_cons ?_ (all_cons ?_ all_nil))
      ·skip
       obtain ⟨r5,hd6,hr13⟩:=bind_some hr9
       refine c_call hf53 (f28_ok fuel y5 y6 p1.kind p1.lot p1.frm p1.to p1.mass r5 hd6 z3 _ _ hS31 e2 q2 hx2 v2 v3 v4 v5 v6 v7 v8 v9 v10 (Ty.mono _ zr hx3)) ?_
       rintro v50 ww29 a49 ⟨z8,e10,q10,v51,v52,v53,v54,v55,v56,v57,v58,v59,e11,q11,k8,rfl,hS32,hx13,hx14,hx15⟩ hf54
       refine ⟨fun e=>absurd e (by decide),?_⟩
       refine c_done ?_
       intro hA16
       refine k_seg' 0 [(6,true),(7,true),(8,true),(9,true),(10,false),(12,false),(13,false),(14,true)] (by kernel_rfl) (by kernel_rfl) hA16 (by kernel_rfl) ?_
       refine p_qP 4 [] [(1, .slice o_x1 x1.length c_x1),(4,pB b1 0),(7,pB b3 0),(8,vI y1),(10,pB b12 0),(37, .agg #[.slice e10 r5.1.length q10,v51,v52,v53,v54,v55,v56,v57,v58,v59]),(38, .agg #[.slice e11 r5.2.2.1.length q11]),(39,vI r5.2.2.2)] [] hf54 (by kernel_rfl) (fun _=> .nil) fun a50 hf55=>?_
       refine c_box [.slice none 0 0, .slice none 0 0, .slice none 0 0, .slice none 0 0, .slice none 0 0, .slice none 0 0, .slice none 0 0, .slice none 0 0, .slice none 0 0, .slice none 0 0] 26 hS32 hf55 fun b13 ww30 a51 hS33 hf56=>⟨fun _=>Sub.of k8 (St.drop 2 hS33),?_⟩
       have s8:=Sub.of k8 (St.drop 2 hS33)
       have hq5:=oneCells_of (Ty.one _ (Ty.mono _ zr hx14))
       refine p_store_eq (i:=12) (j:=0) (b:=b13) (off:=0) (vs:=[.slice e10 r5.1.length q10,v51,v52,v53,v54,v55,v56,v57,v58,v59]) (cs':=[.slice e10 r5.1.length q10,v51,v52,v53,v54,v55,v56,v57,v58,v59]) hS33 hf56 rfl (by kernel_rfl) hq5 rfl fun ww31 a52 hS34 hf57=>⟨fun e=>absurd e (by decide),?_⟩
       refine c_st 1 [.slice e11 r5.2.2.1.length q11] hS34 hf57 rfl fun ww32 a53 hS35 hf58=>⟨fun e=>absurd e (by decide),?_⟩
       refine p_qP 1 [] [(1, .slice o_x1 x1.length c_x1),(4,pB b1 0),(7,pB b3 0),(8,vI y1),(9,pB b13 0),(11,vI r5.2.2.2)] [] hf58 (by kernel_rfl) (fun _=> .nil) fun a54 hf59=>?_
       refine c_done ?_
       intro hA17
       refine k_done' (by kernel_rfl) (by kernel_rfl) ?_
       refine n_then ?_
       exact ⟨z8,r5.2.2.2,r5.1,r5.2.1,b13,e10,q10,v51,v52,v53,v54,v55,v56,v57,v58,v59,k8,hf59.to,(St.pick 2 [0] hS35 (by kernel_rfl)),hx13,(Ty.mono _ zr hx14),hr13⟩
      ·skip
       refine c_box [.slice none 0 0, .slice none 0 0, .slice none 0 0, .slice none 0 0, .slice none 0 0, .slice none 0 0, .slice none 0 0, .slice none 0 0, .slice none 0 0, .slice none 0 0] 26 hS31 hf53 fun b14 ww33 a55 hS36 hf61=>⟨fun _=>Sub.of zr (St.drop 2 hS36),?_⟩
       refine c_done ?_
       intro hA18
       have s9:=Sub.of zr (St.drop 2 hS36)
       refine k_seg' 0 [(5,false),(6,true),(7,true),(8,true),(9,true),(12,false),(13,false),(14,true)] (by kernel_rfl) (by kernel_rfl) hA18 (by kernel_rfl) ?_
       obtain ⟨r6,hd7,hr14⟩:=bind_some hr9
       refine c_call hf61 (f28_ok fuel y5 y6 p1.kind p1.lot p1.frm p1.to p1.mass r6 hd7 z3 _ _ hS36 e2 q2 hx2 v2 v3 v4 v5 v6 v7 v8 v9 v10 (Ty.mono _ zr hx3)) ?_
       rintro v60 ww34 a56 ⟨z9,e12,q12,v61,v62,v63,v64,v65,v66,v67,v68,v69,e13,q13,k9,rfl,hS37,hx16,hx17,hx18⟩ hf62
       refine ⟨fun e=>absurd e (by decide),?_⟩
       refine p_qP 4 [] [(1, .slice o_x1 x1.length c_x1),(4,pB b1 0),(7,pB b3 0),(8,vI y1),(9,pB b14 0),(10,pB b12 0),(37, .agg #[.slice e12 r6.1.length q12,v61,v62,v63,v64,v65,v66,v67,v68,v69]),(38, .agg #[.slice e13 r6.2.2.1.length q13]),(39,vI r6.2.2.2)] [] hf62 (by kernel_rfl) (fun _=> .nil) fun a57 hf63=>?_
       have hq6:=oneCells_of (Ty.one _ (Ty.mono _ zr hx17))
       refine p_store_eq (i:=12) (j:=0) (b:=b14) (off:=0) (vs:=[.slice e12 r6.1.length q12,v61,v62,v63,v64,v65,v66,v67,v68,v69]) (cs':=[.slice e12 r6.1.length q12,v61,v62,v63,v64,v65,v66,v67,v68,v69]) hS37 hf63 rfl (by kernel_rfl) hq6 rfl fun ww35 a58 hS38 hf64=>⟨fun e=>absurd e (by decide),?_⟩
       refine c_st 1 [.slice e13 r6.2.2.1.length q13] hS38 hf64 rfl fun ww36 a59 hS39 hf65=>⟨fun e=>absurd e (by decide),?_⟩
       refine p_qP 1 [] [(1, .slice o_x1 x1.length c_x1),(4,pB b1 0),(7,pB b3 0),(8,vI y1),(9,pB b14 0),(11,vI r6.2.2.2)] [] hf65 (by kernel_rfl) (fun _=> .nil) fun a60 hf66=>?_
       refine c_done ?_
       intro hA19
       refine k_done' (by kernel_rfl) (by kernel_rfl) ?_
       refine n_then ?_
       exact ⟨z9,r6.2.2.2,r6.1,r6.2.1,b14,e12,q12,v61,v62,v63,v64,v65,v66,v67,v68,v69,k9,hf66.to,(St.pick 2 [0] hS39 (by kernel_rfl)),hx16,(Ty.mono _ zr hx17),hr14⟩
    ·rintro a61 ww37 ⟨z4,y2,y3,y4,b4,e3,q3,v11,v12,v13,v14,v15,v16,v17,v18,v19,k10,hf68,hS40,hx19,hx20,hr15⟩
     refine c_seq ?_
     refine c_sq [] [1,4,7,8,9,11,41] hf68 .nil fun a62 hf69=>?_
     refine c_if (y2 != (0:Int)) hf69 (fun hb5=>?_) (fun hb5=>?_)
     ·have hr16:=cond_t hb5 hr15
      refine c_sr ?_
      refine c_n 3 [] [4,42,43,44] hf69 .nil fun a63 hf70=>?_
      refine c_st 3 [.slice none 0 0, .slice none 0 0, .slice none 0 0, .slice none 0 0, .slice none 0 0, .slice none 0 0, .slice none 0 0, .slice none 0 0, .slice none 0 0, .slice none 0 0] hS40 hf70 rfl fun ww38 a64 hS41 hf71=>⟨fun _=>trivial,?_⟩
      refine c_t [] [4,5,6] hf71 .nil fun a65 hf72=>?_
      refine c_ret ?_
      refine r_then ?_
      refine r_block ?_
      refine r_then ?_
      refine r_then ?_
      refine r_block ?_
      refine r_then ?_
      refine c_rt [.slice none 0 0, .slice none 0 0, .slice none 0 0, .slice none 0 0, .slice none 0 0, .slice none 0 0, .slice none 0 0, .slice none 0 0, .slice none 0 0, .slice none 0 0] (.tuple #[.agg #[.slice none 0 0, .slice none 0 0, .slice none 0 0, .slice none 0 0, .slice none 0 0, .slice none 0 0, .slice none 0 0, .slice none 0 0, .slice none 0 0, .slice none 0 0],vI y1,vI y2]) hf72 (.cell (hS41.box (i:=3) rfl (j:=0) rfl) (.cell (hS41.box (i:=3) rfl (j:=1) rfl) (.cell (hS41.box (i:=3) rfl (j:=2) rfl) (.cell (hS41.box (i:=3) rfl (j:=3) rfl) (.cell (hS41.box (i:=3) rfl (j:=4) rfl) (.cell (hS41.box (i:=3) rfl (j:=5) rfl) (.cell (hS41.box (i:=3) rfl (j:=6) rfl) (.cell (hS41.box (i:=3) rfl (j:=7) rfl) (.cell (hS41.box (i:=3) rfl (j:=8) rfl) (.cell (hS41.box (i:=3) rfl (j:=9) rfl) .nil)))))))))) ?_
      obtain rfl:=some_eq hr16
      exact ⟨_,rfl,z4,none,0, .slice none 0 0, .slice none 0 0, .slice none 0 0, .slice none 0 0, .slice none 0 0, .slice none 0 0, .slice none 0 0, .slice none 0 0, .slice none 0 0,(zt (zt (zt k2 k3) k4) k10),rfl,(St.drop 4 hS41),SliceR.nil' _ _,⟨rfl,(Rows.cons (c:=[_]) (sliceRep (SliceR.nil' _ _)) (Rows.cons (c:=[_]) (sliceRep (SliceR.nil' _ _)) (Rows.cons (c:=[_]) (sliceRep (SliceR.nil' _ _)) (Rows.cons (c:=[_]) (sliceRep (SliceR.nil' _ _)) (Rows.cons (c:=[_]) (sliceRep (SliceR.nil' _ _)) (Rows.cons (c:=[_]) (sliceRep (SliceR.nil' _ _)) (Rows.cons (c:=[_]) (sliceRep (SliceR.nil' _ _)) (Rows.cons (c:=[_]) (sliceRep (SliceR.nil' _ _)) (Rows.cons (c:=[_]) (sliceRep (SliceR.nil' _ _)) rfl)))))))))⟩⟩
     ·have hr17:=cond_f hb5 hr15
      refine c_skip ?_
      refine n_then ?_
      refine c_reg ?_
      refine c_n 1 [.slice e3 y3.length q3,v11,v12,v13,v14,v15,v16,v17,v18,v19] [1,4,7,8,45] hf69 (.cell (hS40.box (i:=0) rfl (j:=0) rfl) (.cell (hS40.box (i:=0) rfl (j:=1) rfl) (.cell (hS40.box (i:=0) rfl (j:=2) rfl) (.cell (hS40.box (i:=0) rfl (j:=3) rfl) (.cell (hS40.box (i:=0) rfl (j:=4) rfl) (.cell (hS40.box (i:=0) rfl (j:=5) rfl) (.cell (hS40.box (i:=0) rfl (j:=6) rfl) (.cell (hS40.box (i:=0) rfl (j:=7) rfl) (.cell (hS40.box (i:=0) rfl (j:=8) rfl) (.cell (hS40.box (i:=0) rfl (j:=9) rfl) .nil)))))))))) fun a66 hf73=>?_
      have hq7:=oneCells_of (Ty.one _ (Ty.mono _ zr hx20))
      refine p_store_eq (i:=1) (j:=1) (b:=b3) (off:=0) (vs:=[.slice e3 y3.length q3,v11,v12,v13,v14,v15,v16,v17,v18,v19]) (cs':=[.slice e3 y3.length q3,v11,v12,v13,v14,v15,v16,v17,v18,v19]) hS40 hf73 rfl (by kernel_rfl) hq7 rfl fun ww39 a67 hS42 hf74=>⟨fun _=>trivial,?_⟩
      refine c_done ?_
      refine n_block ?_
      refine n_then ?_
      refine c_q [] [1,4,7,8] hf74 .nil fun a68 hf75=>?_
      refine n_then ?_
      exact ⟨n1,Nat.lt_succ_self n1,z4,y3,y4,(w64 (y1 + (1:Int))),e3,q3,v11,v12,v13,v14,v15,v16,v17,v18,v19,(zt k4 k10),hf75.to,(St.drop 1 hS42),hx19,(Ty.mono _ zr hx20),hr17⟩
   ·have hr18:=cond_f hb3 hr7
    refine c_exit 0 ?_
    refine x_then ?_
    refine x_then ?_
    refine x_block ?_
    refine n_then ?_
    refine c_sr ?_
    refine c_n 3 [.slice e2 y5.length q2,v2,v3,v4,v5,v6,v7,v8,v9,v10] [4,46,48] hf22 (.cell (hS11.box (i:=0) rfl (j:=0) rfl) (.cell (hS11.box (i:=0) rfl (j:=1) rfl) (.cell (hS11.box (i:=0) rfl (j:=2) rfl) (.cell (hS11.box (i:=0) rfl (j:=3) rfl) (.cell (hS11.box (i:=0) rfl (j:=4) rfl) (.cell (hS11.box (i:=0) rfl (j:=5) rfl) (.cell (hS11.box (i:=0) rfl (j:=6) rfl) (.cell (hS11.box (i:=0) rfl (j:=7) rfl) (.cell (hS11.box (i:=0) rfl (j:=8) rfl) (.cell (hS11.box (i:=0) rfl (j:=9) rfl) .nil)))))))))) fun a69 hf77=>?_
    have hq8:=oneCells_of (Ty.one _ (Ty.mono _ zr hx3))
    refine p_store_eq (i:=3) (j:=2) (b:=b1) (off:=0) (vs:=[.slice e2 y5.length q2,v2,v3,v4,v5,v6,v7,v8,v9,v10]) (cs':=[.slice e2 y5.length q2,v2,v3,v4,v5,v6,v7,v8,v9,v10]) hS11 hf77 rfl (by kernel_rfl) hq8 rfl fun ww40 a70 hS43 hf78=>⟨fun _=>trivial,?_⟩
    refine c_t [] [4,5,6] hf78 .nil fun a71 hf79=>?_
    refine c_ret ?_
    refine c_rt [.slice e2 y5.length q2,v2,v3,v4,v5,v6,v7,v8,v9,v10] (.tuple #[.agg #[.slice e2 y5.length q2,v2,v3,v4,v5,v6,v7,v8,v9,v10],vI (x1.length:Int),vI 0]) hf79 (.cell (hS43.box (i:=2) rfl (j:=0) rfl) (.cell (hS43.box (i:=2) rfl (j:=1) rfl) (.cell (hS43.box (i:=2) rfl (j:=2) rfl) (.cell (hS43.box (i:=2) rfl (j:=3) rfl) (.cell (hS43.box (i:=2) rfl (j:=4) rfl) (.cell (hS43.box (i:=2) rfl (j:=5) rfl) (.cell (hS43.box (i:=2) rfl (j:=6) rfl) (.cell (hS43.box (i:=2) rfl (j:=7) rfl) (.cell (hS43.box (i:=2) rfl (j:=8) rfl) (.cell (hS43.box (i:=2) rfl (j:=9) rfl) .nil)))))))))) ?_
    obtain rfl:=some_eq hr18
    exact ⟨_,rfl,z3,e2,q2,v2,v3,v4,v5,v6,v7,v8,v9,v10,(zt (zt k2 k3) k4),rfl,(St.drop 3 hS43),hx2,(Ty.mono _ zr hx3)⟩
end Go.Proofs.Ytlmgjjmighajdaa
set_option linter.unusedVariables false
namespace Go.Proofs.Ytlmgjjmighajdaa
open Go.Sl Go.Sx
def F105_l1 (x0:List Part) (x1:Int):Nat→Int→Option (Int)
  | 0,_=>none
  | n1 + 1,y1 =>
    let k1:Int→Option (Int):=F105_l1 x0 x1 n1
    (cond (decide (y1<(x0.length:Int))) ((getI x0 y1).bind fun p1=>(cond (p1.lot == x1) ((getI x0 y1).bind fun p2=>(some (p2.mass))) (k1 (w64 (y1 + (1:Int)))))) (some (0)))
def F105 (fuel:Nat) (x0:List Part) (x1:Int):Option (Int) :=
  (F105_l1 x0 x1 fuel 0)
set_option maxRecDepth 100000 in
theorem f105_ok (fuel:Nat) (x0:List Part) (x1:Int) (r:Int) (hr:F105 fuel x0 x1=some r) (h:Zone) (L:List Atom) (w:World) (hS:St h L w) (o_x0:Option Addr) (c_x0:Nat) (hx_x0:SliceR PartT h o_x0 c_x0 x0) :
    Calls Try.prog 105 #[.agg #[.slice o_x0 x0.length c_x0],vI x1] w fun e w'=>∃v,e= .returned v∧(∃h',Zone.le h h'∧v=vI r∧St h' L w'):=by
 refine calls_intro (N:=27) Try.func105 (by kernel_rfl) fun a hf=>?_
 refine c_sr ?_
 refine c_box [.slice o_x0 x0.length c_x0] 40 hS hf fun b1 ww1 a1 hS1 hf1=>⟨fun _=>trivial,?_⟩
 refine c_t [] [1,2] hf1 .nil fun a2 hf2=>?_
 refine c_seq ?_
 refine c_sq [] [1,2,5] hf2 .nil fun a3 hf3=>?_
 refine c_block 0 ?_
 refine c_loop (fun n a w=>∃z1:Zone,∃y1:Int,Zone.le h z1∧Fr a 27 [(1,vI x1),(2,pB b1 0),(5,vI y1)]∧St z1 (box b1 [.slice o_x0 x0.length c_x0] 40::L) w∧(F105_l1 x0 x1 n y1)=some r) fuel ⟨h,0,zr,hf3.to,hS1,hr⟩ ?_
 rintro n2 a4 ww2 ⟨z1,y1,k2,hf5,hS2,hr1⟩
 cases n2 with
 | zero=>cases hr1
 | succ n1 =>
 refine c_seq ?_
 refine c_sq [.slice o_x0 x0.length c_x0] [1,2,5,10] hf5 (.cell (hS2.box (i:=0) rfl (j:=0) rfl) .nil) fun a5 hf6=>?_
 refine c_if (decide (y1<(x0.length:Int))) hf6 (fun hb1=>?_) (fun hb1=>?_)
 ·have hr2:=cond_t hb1 hr1
  refine c_skip ?_
  refine n_then ?_
  refine c_seq ?_
  refine c_block 1 ?_
  obtain ⟨p1,hp512,hr3⟩:=bind_some hr2
  obtain ⟨ad1,ho1,hb2,cc1,hc1,hk1⟩:=SliceR.getI (SliceR.mono k2 hx_x0) hp512
  subst hc1
  refine c_sq [.slice o_x0 x0.length c_x0, .pointer (some ad1),vI p1.lot] [1,2,5,20] hf6 (.cell (hS2.box (i:=0) rfl (j:=0) rfl) (.prop ho1 (.prop hb2 (.cell (hS2.cell (hk1 0 _ rfl)) .nil)))) fun a6 hf7=>?_
  refine c_if (p1.lot == x1) hf7 (fun hb3=>?_) (fun hb3=>?_)
  ·have hr4:=cond_t hb3 hr3
   obtain ⟨p2,hp526,hr5⟩:=bind_some hr4
   obtain ⟨ad2,ho2,hb4,cc2,hc2,hk2⟩:=SliceR.getI (SliceR.mono k2 hx_x0) hp526
   subst hc2
   refine c_sq [.slice o_x0 x0.length c_x0, .pointer (some ad2),vI p2.mass] [4] hf7 (.cell (hS2.box (i:=0) rfl (j:=0) rfl) (.prop ho2 (.prop hb4 (.cell (hS2.cell (hk2 1 _ rfl)) .nil)))) fun a7 hf8=>?_
   refine c_ret ?_
   refine r_block ?_
   refine r_then ?_
   refine r_then ?_
   refine r_block ?_
   refine r_then ?_
   refine c_rt [] (vI p2.mass) hf8 .nil ?_
   obtain rfl:=some_eq hr5
   exact ⟨_,rfl,z1,k2,rfl,(St.drop 1 hS2)⟩
  ·have hr6:=cond_f hb3 hr3
   refine c_skip ?_
   refine n_block ?_
   refine n_then ?_
   refine c_q [] [1,2,5] hf7 .nil fun a8 hf9=>?_
   refine n_then ?_
   exact ⟨n1,Nat.lt_succ_self n1,z1,(w64 (y1 + (1:Int))),k2,hf9.to,hS2,hr6⟩
 ·have hr7:=cond_f hb1 hr1
  refine c_exit 0 ?_
  refine x_then ?_
  refine x_then ?_
  refine x_block ?_
  refine n_then ?_
  refine c_sq [] [4] hf6 .nil fun a9 hf11=>?_
  refine c_ret ?_
  refine c_rt [] (vI 0) hf11 .nil ?_
  obtain rfl:=some_eq hr7
  exact ⟨_,rfl,z1,k2,rfl,(St.drop 1 hS2)⟩
def F46_j2 (k1:(List Lot)→(List (List (List Part)))→Int→Int→Int→Int→Option (List Account×Int)) (y1:Int) (y2:List Lot) (y3:List (List (List Part))) (y4:Int) (y5:Int) (y6:Int):Option (List Account×Int) :=
  (k1 y2 y3 y4 y5 y6 (w64 (y1 + (1:Int))))
def F46_j3 (k1:(List Lot)→(List (List (List Part)))→Int→Int→Int→Int→Option (List Account×Int)) (y7:Int) (y8:Int) (y9:Int) (y1:Int) (y2:List Lot) (y3:List (List (List Part))) (r1:Int) (p1:Deed) (y10:Bool):Option (List Account×Int) :=
  (cond y10 (F46_j2 k1 y1 y2 y3 (w64 (y7 + r1)) y8 y9) (cond (p1.kind == (3:Int)) (F46_j2 k1 y1 y2 y3 y7 (w64 (y8 + r1)) y9) (cond (p1.kind == (5:Int)) (F46_j2 k1 y1 y2 y3 y7 y8 (w64 (y9 + r1))) (F46_j2 k1 y1 y2 y3 y7 y8 y9))))
def F46_j1 (fuel:Nat) (k1:(List Lot)→(List (List (List Part)))→Int→Int→Int→Int→Option (List Account×Int)) (x1:List Deed) (p2:Lot) (y7:Int) (y8:Int) (y9:Int) (y1:Int) (y2:List Lot) (y3:List (List (List Part))) (y11:List Part):Option (List Account×Int) :=
  ((F105 fuel y11 p2.id).bind fun r1=>((getI x1 y1).bind fun p1=>(cond (p1.kind == (1:Int)) (F46_j3 k1 y7 y8 y9 y1 y2 y3 r1 p1 (p1.kind == (1:Int))) (F46_j3 k1 y7 y8 y9 y1 y2 y3 r1 p1 (p1.kind == (2:Int))))))
def F46_l4 (fuel:Nat) (k2:Int→Int→Option (List Account×Int)) (r2:List Lot×List (List (List Part))×Int×Int) (p2:Lot) (y12:Int):Nat→Int→Int→Option (List Account×Int)
  | 0,_,_=>none
  | n1 + 1,y13,y14 =>
    let k3:Int→Int→Option (List Account×Int):=F46_l4 fuel k2 r2 p2 y12 n1
    ((getI r2.2.1 y12).bind fun p3=>(cond (decide (y14<(p3.length:Int))) ((getI r2.2.1 y12).bind fun p4=>((getI p4 y14).bind fun p5=>((F105 fuel p5 p2.id).bind fun r3=>(k3 (w64 (y13 + r3)) (w64 (y14 + (1:Int))))))) (k2 y13 (w64 (y12 + (1:Int))))))
def F46_l3 (fuel:Nat) (k4:(List Account)→Int→Option (List Account×Int)) (r2:List Lot×List (List (List Part))×Int×Int) (y15:List Account) (y16:Int) (p2:Lot) (y7:Int) (y8:Int) (y9:Int):Nat→Int→Int→Option (List Account×Int)
  | 0,_,_=>none
  | n2 + 1,y17,y12 =>
    let k2:Int→Int→Option (List Account×Int):=F46_l3 fuel k4 r2 y15 y16 p2 y7 y8 y9 n2
    (cond (decide (y12<(9:Int))) (F46_l4 fuel k2 r2 p2 y12 fuel y17 0) ((appC y15 ([⟨p2.id,y7,y8,y9,y17⟩])).bind fun d1=>(k4 d1 (w64 (y16 + (1:Int))))))
def F46_l2 (fuel:Nat) (k4:(List Account)→Int→Option (List Account×Int)) (x1:List Deed) (r2:List Lot×List (List (List Part))×Int×Int) (y15:List Account) (y16:Int) (p2:Lot):Nat→(List Lot)→(List (List (List Part)))→Int→Int→Int→Int→Option (List Account×Int)
  | 0,_,_,_,_,_,_=>none
  | n3 + 1,y18,y19,y7,y8,y9,y1 =>
    let k1:(List Lot)→(List (List (List Part)))→Int→Int→Int→Int→Option (List Account×Int):=F46_l2 fuel k4 x1 r2 y15 y16 p2 n3
    (cond (decide (y1<(x1.length:Int))) ((getI x1 y1).bind fun p6=>((F28 fuel y18 y19 p6.kind p6.lot p6.frm p6.to p6.mass).bind fun r4=>(F46_j1 fuel k1 x1 p2 y7 y8 y9 y1 r4.1 r4.2.1 r4.2.2.1))) (F46_l3 fuel k4 r2 y15 y16 p2 y7 y8 y9 fuel 0 0))
def F46_l1 (fuel:Nat) (x0:List Lot) (x1:List Deed) (r2:List Lot×List (List (List Part))×Int×Int):Nat→(List Account)→Int→Option (List Account×Int)
  | 0,_,_=>none
  | n4 + 1,y15,y16 =>
    let k4:(List Account)→Int→Option (List Account×Int):=F46_l1 fuel x0 x1 r2 n4
    (cond (decide (y16<(x0.length:Int))) ((getI x0 y16).bind fun p2=>((appC ([]) x0).bind fun d2=>(F46_l2 fuel k4 x1 r2 y15 y16 p2 fuel d2 ([[],[],[],[],[],[],[],[],[]]) 0 0 0 0))) (some (y15,0)))
def F46 (fuel:Nat) (x0:List Lot) (x1:List Deed):Option (List Account×Int) :=
  ((F44 fuel x0 x1).bind fun r2=>(cond (r2.2.2.2 != (0:Int)) (some ([],r2.2.2.2)) (F46_l1 fuel x0 x1 r2 fuel ([]) 0)))
set_option maxRecDepth 100000 in
theorem f46_ok (fuel:Nat) (x0:List Lot) (x1:List Deed) (r:List Account×Int) (hr:F46 fuel x0 x1=some r) (h:Zone) (L:List Atom) (w:World) (hS:St h L w) (o_x0:Option Addr) (c_x0:Nat) (hx_x0:SliceR LotT h o_x0 c_x0 x0) (o_x1:Option Addr) (c_x1:Nat) (hx_x1:SliceR DeedT h o_x1 c_x1 x1) :
    Calls Try.prog 46 #[.slice o_x0 x0.length c_x0, .slice o_x1 x1.length c_x1] w fun e w'=>∃v,e= .returned v∧(∃h',∃o0:Option Addr,∃c0:Nat,Zone.le h h'∧v= .tuple #[.slice o0 r.1.length c0,vI r.2]∧St h' L w'∧SliceR AccountT h' o0 c0 r.1):=by
 refine calls_intro (N:=126) Try.func46 (by kernel_rfl) fun a hf=>?_
 refine c_sq [] [0,1] hf .nil fun a1 hf1=>?_
 refine c_sr ?_
 refine c_n 2 [] [0,1,21,22] hf1 .nil fun a2 hf2=>?_
 obtain ⟨r2,hd1,hr1⟩:=bind_some hr
 refine c_call hf2 (f44_ok fuel x0 x1 r2 hd1 h _ _ hS o_x0 c_x0 hx_x0 o_x1 c_x1 hx_x1) ?_
 rintro v1 ww1 a3 ⟨z1,e1,q1,v2,v3,v4,v5,v6,v7,v8,v9,v10,k5,rfl,hS1,hx1,hx2⟩ hf3
 refine ⟨fun _=>trivial,?_⟩
 refine c_n 4 [] [0,1,24,25,26] hf3 .nil fun a4 hf4=>?_
 refine c_box [.slice none 0 0, .slice none 0 0, .slice none 0 0, .slice none 0 0, .slice none 0 0, .slice none 0 0, .slice none 0 0, .slice none 0 0, .slice none 0 0, .slice none 0 0] 26 hS1 hf4 fun b1 ww2 a5 hS2 hf5=>⟨fun _=>trivial,?_⟩
 have hq1:=oneCells_of (Ty.one _ (Ty.mono _ zr hx2))
 refine p_store_eq (i:=8) (j:=0) (b:=b1) (off:=0) (vs:=[.slice e1 r2.1.length q1,v2,v3,v4,v5,v6,v7,v8,v9,v10]) (cs':=[.slice e1 r2.1.length q1,v2,v3,v4,v5,v6,v7,v8,v9,v10]) hS2 hf5 rfl (by kernel_rfl) hq1 rfl fun ww3 a6 hS3 hf6=>⟨fun _=>trivial,?_⟩
 refine c_t [] [0,1,6,8] hf6 .nil fun a7 hf7=>?_
 refine c_seq ?_
 refine c_sq [] [0,1,6,8,28] hf7 .nil fun a8 hf8=>?_
 refine c_if (r2.2.2.2 != (0:Int)) hf8 (fun hb1=>?_) (fun hb1=>?_)
 ·have hr2:=cond_t hb1 hr1
  refine c_sq [] [4,5] hf8 .nil fun a9 hf9=>?_
  refine c_ret ?_
  refine r_then ?_
  refine c_rt [] (.tuple #[.slice none 0 0,vI r2.2.2.2]) hf9 .nil ?_
  obtain rfl:=some_eq hr2
  exact ⟨_,rfl,z1,none,0,k5,rfl,(St.drop 1 hS3),SliceR.nil' _ _⟩
 ·have hr3:=cond_f hb1 hr1
  refine c_skip ?_
  refine n_then ?_
  refine c_sq [] [0,1,6,9] hf8 .nil fun a10 hf10=>?_
  refine c_seq ?_
  refine c_sq [] [0,1,6,9,10] hf10 .nil fun a11 hf11=>?_
  refine c_block 0 ?_
  have hS4:=hS3.ownNil AccountT 83
  refine c_loop (fun n a w=>∃z2:Zone,∃y15:List Account,∃y16:Int,∃e2:Option Addr,∃q2:Nat,Zone.le z1 z2∧Fr a 126 [(0, .slice o_x0 x0.length c_x0),(1, .slice o_x1 x1.length c_x1),(6,pB b1 0),(9, .slice e2 y15.length q2),(10,vI y16)]∧St z2 (ownS AccountT 83 e2 q2 y15::box b1 [.slice e1 r2.1.length q1,v2,v3,v4,v5,v6,v7,v8,v9,v10] 26::L) w∧(F46_l1 fuel x0 x1 r2 n y15 y16)=some r) fuel ⟨z1,[],0,none,0,zr,hf11.to,hS4,hr3⟩ ?_
  rintro n5 a12 ww4 ⟨z2,y15,y16,e2,q2,k6,hf13,hS5,hr4⟩
  cases n5 with
  | zero=>cases hr4
  | succ n4 =>
  refine c_seq ?_
  refine c_sq [] [0,1,6,9,10,33] hf13 .nil fun a13 hf14=>?_
  refine c_if (decide (y16<(x0.length:Int))) hf14 (fun hb2=>?_) (fun hb2=>?_)
  ·have hr5:=cond_t hb2 hr4
   refine c_skip ?_
   refine n_then ?_
   refine c_seq ?_
   refine c_block 1 ?_
   refine c_sr ?_
   obtain ⟨p2,hp746679,hr6⟩:=bind_some hr5
   obtain ⟨ad1,ho1,hb3,cc1,hc1,hk1⟩:=SliceR.getI (SliceR.mono (zt k5 k6) hx_x0) hp746679
   subst hc1
   refine c_n 6 [.pointer (some ad1),vI p2.id] [0,1,6,9,10,41] hf14 (.prop ho1 (.prop hb3 (.cell (hS5.cell (hk1 0 _ rfl)) .nil))) fun a14 hf15=>?_
   refine c_box [vI 0,vI 0,vI 0,vI 0,vI 0] 83 hS5 hf15 fun b2 ww5 a15 hS6 hf16=>⟨fun _=>trivial,?_⟩
   refine c_st 0 [vI p2.id,vI 0,vI 0,vI 0,vI 0] hS6 hf16 rfl fun ww6 a16 hS7 hf17=>⟨fun _=>trivial,?_⟩
   refine c_dt ?_
   refine c_sr ?_
   refine p_box (i:=0) (d:=(some 42)) (cs:=[]) (T:=33) (v:=fun b3=> .slice (some ⟨b3,0,none⟩) 0 0) hS7 hf17 (fun b=>by kernel_rfl) fun b3 ww7 a17 hS8 hf18=>⟨fun _=>trivial,?_⟩
   have hS9:=hS8.ownBox (T:=LotT) (E:=33) (n:=0) (xs:=[]) (i:=0) rfl rfl rfl (by decide)
   refine c_n 1 [] [0,1,6,9,10,11,42,43] hf18 .nil fun a18 hf19=>?_
   obtain ⟨d2,hd2,hr7⟩:=bind_some hr6
   refine p_append (T:=LotT) (i:=2) (j:=0) (d:=some 44) (o2:=o_x0) (c2:=c_x0) (ys:=x0) el22 hS9 hf19 rfl (by kernel_rfl) (SliceR.src (SliceR.mono (zt k5 k6) hx_x0) hS9) hd2 fun e3 q3 ww8 a19 hS10 hf20=>⟨fun _=>trivial,?_⟩
   refine c_n 1 [] [0,1,6,9,10,11,45] hf20 .nil fun a20 hf21=>?_
   refine c_box [.slice none 0 0, .slice none 0 0, .slice none 0 0, .slice none 0 0, .slice none 0 0, .slice none 0 0, .slice none 0 0, .slice none 0 0, .slice none 0 0, .slice none 0 0] 26 hS10 hf21 fun b4 ww9 a21 hS11 hf22=>⟨fun _=>trivial,?_⟩
   refine c_st 0 [.slice e3 d2.length q3, .slice none 0 0, .slice none 0 0, .slice none 0 0, .slice none 0 0, .slice none 0 0, .slice none 0 0, .slice none 0 0, .slice none 0 0, .slice none 0 0] hS11 hf22 rfl fun ww10 a22 hS12 hf23=>⟨fun _=>trivial,?_⟩
   refine c_dt ?_
   refine c_seq ?_
   refine c_sq [] [0,1,6,9,10,11,12,13] hf23 .nil fun a23 hf24=>?_
   refine c_block 2 ?_
   obtain ⟨z3,k7,hS13,hx3⟩:=hS12.share (j:=1) rfl
   refine c_loop (fun n a w=>∃z4:Zone,∃y18:List Lot,∃y19:List (List (List Part)),∃y7:Int,∃y8:Int,∃y9:Int,∃y1:Int,∃e4:Option Addr,∃q4:Nat,∃v11:Value,∃v12:Value,∃v13:Value,∃v14:Value,∃v15:Value,∃v16:Value,∃v17:Value,∃v18:Value,∃v19:Value,Zone.le z3 z4∧Fr a 126 [(0, .slice o_x0 x0.length c_x0),(1, .slice o_x1 x1.length c_x1),(6,pB b1 0),(9, .slice e2 y15.length q2),(10,vI y16),(11,pB b2 0),(12,pB b4 0),(13,vI y1)]∧St z4 (box b4 [.slice e4 y18.length q4,v11,v12,v13,v14,v15,v16,v17,v18,v19] 26::emp::box b2 [vI p2.id,vI y7,vI y8,vI y9,vI 0] 83::ownS AccountT 83 e2 q2 y15::box b1 [.slice e1 r2.1.length q1,v2,v3,v4,v5,v6,v7,v8,v9,v10] 26::L) w∧SliceR LotT z4 e4 q4 y18∧(Ty.arr 9 (Ty.slice (Ty.slice PartT))).rep z4 [v11,v12,v13,v14,v15,v16,v17,v18,v19] y19∧(F46_l2 fuel (F46_l1 fuel x0 x1 r2 n4) x1 r2 y15 y16 p2 n y18 y19 y7 y8 y9 y1)=some r) fuel ⟨z3,d2,[[],[],[],[],[],[],[],[],[]],0,0,0,0,e3,q3,(.slice none 0 0),(.slice none 0 0),(.slice none 0 0),(.slice none 0 0),(.slice none 0 0),(.slice none 0 0),(.slice none 0 0),(.slice none 0 0),(.slice none 0 0),zr,hf24.to,hS13,hx3,⟨rfl,(Rows.cons (c:=[_]) (sliceRep (SliceR.nil' _ _)) (Rows.cons (c:=[_]) (sliceRep (SliceR.nil' _ _)) (Rows.cons (c:=[_]) (sliceRep (SliceR.nil' _ _)) (Rows.cons (c:=[_]) (sliceRep (SliceR.nil' _ _)) (Rows.cons (c:=[_]) (sliceRep (SliceR.nil' _ _)) (Rows.cons (c:=[_]) (sliceRep (SliceR.nil' _ _)) (Rows.cons (c:=[_]) (sliceRep (SliceR.nil' _ _)) (Rows.cons (c:=[_]) (sliceRep (SliceR.nil' _ _)) (Rows.cons (c:=[_]) (sliceRep (SliceR.nil' _ _)) rfl)))))))))⟩,hr7⟩ ?_
   rintro n6 a24 ww11 ⟨z4,y18,y19,y7,y8,y9,y1,e4,q4,v11,v12,v13,v14,v15,v16,v17,v18,v19,k8,hf26,hS14,hx4,hx5,hr8⟩
   cases n6 with
   | zero=>cases hr8
   | succ n3 =>
   refine c_seq ?_
   refine c_sq [] [0,1,6,9,10,11,12,13,49] hf26 .nil fun a25 hf27=>?_
   refine c_if (decide (y1<(x1.length:Int))) hf27 (fun hb4=>?_) (fun hb4=>?_)
   ·have hr9:=cond_t hb4 hr8
    refine c_skip ?_
    refine n_then ?_
    refine c_seq ?_
    refine c_block 3 ?_
    refine c_mid (fun a w=>∃z5:Zone,∃y2:List Lot,∃y3:List (List (List Part)),∃y11:List Part,∃b5:Nat,∃b6:Nat,∃e5:Option Addr,∃q5:Nat,∃v20:Value,∃v21:Value,∃v22:Value,∃v23:Value,∃v24:Value,∃v25:Value,∃v26:Value,∃v27:Value,∃v28:Value,∃e6:Option Addr,∃q6:Nat,Zone.le z4 z5∧Fr a 126 [(0, .slice o_x0 x0.length c_x0),(1, .slice o_x1 x1.length c_x1),(6,pB b1 0),(9, .slice e2 y15.length q2),(10,vI y16),(11,pB b2 0),(12,pB b4 0),(13,vI y1),(14,pB b5 0),(15,pB b6 0)]∧St z5 (box b5 [.slice e5 y2.length q5,v20,v21,v22,v23,v24,v25,v26,v27,v28] 26::box b6 [.slice e6 y11.length q6] 40::box b4 [.slice e4 y18.length q4,v11,v12,v13,v14,v15,v16,v17,v18,v19] 26::emp::box b2 [vI p2.id,vI y7,vI y8,vI y9,vI 0] 83::ownS AccountT 83 e2 q2 y15::box b1 [.slice e1 r2.1.length q1,v2,v3,v4,v5,v6,v7,v8,v9,v10] 26::L) w∧SliceR LotT z5 e5 q5 y2∧(Ty.arr 9 (Ty.slice (Ty.slice PartT))).rep z5 [v20,v21,v22,v23,v24,v25,v26,v27,v28] y3∧SliceR PartT z5 e6 q6 y11∧(F46_j1 fuel (F46_l2 fuel (F46_l1 fuel x0 x1 r2 n4) x1 r2 y15 y16 p2 n3) x1 p2 y7 y8 y9 y1 y2 y3 y11)=some r) ?_ ?_
    ·skip
     have hS15:=hS14.drew
     have s1:=Sub.of zr hS15
     refine w_regB (by kernel_rfl) [5,12,13] (Sub z4 (box b4 [.slice e4 y18.length q4,v11,v12,v13,v14,v15,v16,v17,v18,v19] 26::emp::box b2 [vI p2.id,vI y7,vI y8,vI y9,vI 0] 83::ownS AccountT 83 e2 q2 y15::box b1 [.slice e1 r2.1.length q1,v2,v3,v4,v5,v6,v7,v8,v9,v10] 26::L)) (by kernel_rfl) ?_
     refine k_seg' 10 [(0,true),(1,true),(2,true),(3,true),(4,true)] (by kernel_rfl) (by kernel_rfl) (At.start s1) (by kernel_rfl) ?_
     obtain ⟨p6,hp776393,hr10⟩:=bind_some hr9
     obtain ⟨ad2,ho2,hb5,cc2,hc2,hk2⟩:=SliceR.getI (SliceR.mono (zt (zt (zt k5 k6) k7) k8) hx_x1) hp776393
     subst hc2
     refine c_S 5 [.slice e4 y18.length q4,v11,v12,v13,v14,v15,v16,v17,v18,v19, .pointer (some ad2),vI p6.kind,vI p6.lot,vI p6.frm,vI p6.to,vI p6.mass] [0,1,6,9,10,11,12,13,53,57] s1 hf27 (fun _ s=>(.cell (s.box (i:=0) rfl (j:=0) rfl) (.cell (s.box (i:=0) rfl (j:=1) rfl) (.cell (s.box (i:=0) rfl (j:=2) rfl) (.cell (s.box (i:=0) rfl (j:=3) rfl) (.cell (s.box (i:=0) rfl (j:=4) rfl) (.cell (s.box (i:=0) rfl (j:=5) rfl) (.cell (s.box (i:=0) rfl (j:=6) rfl) (.cell (s.box (i:=0) rfl (j:=7) rfl) (.cell (s.box (i:=0) rfl (j:=8) rfl) (.cell (s.box (i:=0) rfl (j:=9) rfl) (.prop ho2 (.prop hb5 (.cell (s.cell (hk2 0 _ rfl)) (.cell (s.cell (hk2 1 _ rfl)) (.cell (s.cell (hk2 2 _ rfl)) (.cell (s.cell (hk2 3 _ rfl)) (.cell (s.cell (hk2 4 _ rfl)) .nil)))))))))))))))))) .nil fun a26 hf28=>?_
     refine c_done ?_
     intro hA1
     refine k_any' 9 [5,10,11] (by kernel_rfl) hA1 (by kernel_rfl) (by kernel_rfl) ?_
     refine (all_cons ?_ (all_cons ?_ (all_cons ?_ all_nil)))
     ·skip
      obtain ⟨r4,hd3,hr11⟩:=bind_some hr10
      refine c_call hf28 (f28_ok fuel y18 y19 p6.kind p6.lot p6.frm p6.to p6.mass r4 hd3 z4 _ _ hS15 e4 q4 hx4 v11 v12 v13 v14 v15 v16 v17 v18 v19 (Ty.mono _ zr hx5)) ?_
      rintro v29 ww12 a27 ⟨z6,e7,q7,v30,v31,v32,v33,v34,v35,v36,v37,v38,e8,q8,k9,rfl,hS16,hx6,hx7,hx8⟩ hf29
      refine ⟨fun e=>absurd e (by decide),?_⟩
      refine c_done ?_
      intro hA2
      refine k_seg' 5 [(6,true),(7,true),(8,true),(9,true)] (by kernel_rfl) (by kernel_rfl) hA2 (by kernel_rfl) ?_
      refine p_qP 4 [] [(0, .slice o_x0 x0.length c_x0),(1, .slice o_x1 x1.length c_x1),(6,pB b1 0),(9, .slice e2 y15.length q2),(10,vI y16),(11,pB b2 0),(12,pB b4 0),(13,vI y1),(59, .agg #[.slice e7 r4.1.length q7,v30,v31,v32,v33,v34,v35,v36,v37,v38]),(60, .agg #[.slice e8 r4.2.2.1.length q8]),(61,vI r4.2.2.2)] [] hf29 (by kernel_rfl) (fun _=> .nil) fun a28 hf30=>?_
      refine c_done ?_
      intro hA3
      refine k_any' 4 [10,11] (by kernel_rfl) hA3 (by kernel_rfl) (by kernel_rfl) ?_
      refine (all_cons ?_ (all_cons ?_ all_nil))
      ·skip
       refine c_box [.slice none 0 0, .slice none 0 0, .slice none 0 0, .slice none 0 0, .slice none 0 0, .slice none 0 0, .slice none 0 0, .slice none 0 0, .slice none 0 0, .slice none 0 0] 26 hS16 hf30 fun b7 ww13 a29 hS17 hf31=>⟨fun _=>Sub.of k9 (St.drop 1 hS17),?_⟩
       refine c_done ?_
       intro hA4
       refine k_seg' 0 [(11,false),(12,false),(13,false),(14,true)] (by kernel_rfl) (by kernel_rfl) hA4 (by kernel_rfl) ?_
       refine c_box [.slice none 0 0] 40 hS17 hf31 fun b8 ww14 a30 hS18 hf32=>⟨fun _=>Sub.of k9 (St.drop 2 hS18),?_⟩
       have s2:=Sub.of k9 (St.drop 2 hS18)
       have hq2:=oneCells_of (Ty.one _ (Ty.mono _ zr hx7))
       refine p_store_eq (i:=12) (j:=1) (b:=b7) (off:=0) (vs:=[.slice e7 r4.1.length q7,v30,v31,v32,v33,v34,v35,v36,v37,v38]) (cs':=[.slice e7 r4.1.length q7,v30,v31,v32,v33,v34,v35,v36,v37,v38]) hS18 hf32 rfl (by kernel_rfl) hq2 rfl fun ww15 a31 hS19 hf33=>⟨fun e=>absurd e (by decide),?_⟩
       refine c_st 0 [.slice e8 r4.2.2.1.length q8] hS19 hf33 rfl fun ww16 a32 hS20 hf34=>⟨fun e=>absurd e (by decide),?_⟩
       refine p_qP 1 [] [(0, .slice o_x0 x0.length c_x0),(1, .slice o_x1 x1.length c_x1),(6,pB b1 0),(9, .slice e2 y15.length q2),(10,vI y16),(11,pB b2 0),(12,pB b4 0),(13,vI y1),(14,pB b7 0),(15,pB b8 0)] [] hf34 (by kernel_rfl) (fun _=> .nil) fun a33 hf35=>?_
       refine c_done ?_
       intro hA5
       refine k_done' (by kernel_rfl) (by kernel_rfl) ?_
       refine n_then ?_
       exact ⟨z6,r4.1,r4.2.1,r4.2.2.1,b7,b8,e7,q7,v30,v31,v32,v33,v34,v35,v36,v37,v38,e8,q8,k9,hf35.to,(St.pick 2 [1,0] hS20 (by kernel_rfl)),hx6,(Ty.mono _ zr hx7),hx8,hr11⟩
      ·skip
       refine c_box [.slice none 0 0] 40 hS16 hf30 fun b9 ww17 a34 hS21 hf37=>⟨fun _=>Sub.of k9 (St.drop 1 hS21),?_⟩
       refine c_done ?_
       intro hA6
       refine k_seg' 0 [(10,false),(12,false),(13,false),(14,true)] (by kernel_rfl) (by kernel_rfl) hA6 (by kernel_rfl) ?_
       refine c_box [.slice none 0 0, .slice none 0 0, .slice none 0 0, .slice none 0 0, .slice none 0 0, .slice none 0 0, .slice none 0 0, .slice none 0 0, .slice none 0 0, .slice none 0 0] 26 hS21 hf37 fun b10 ww18 a35 hS22 hf38=>⟨fun _=>Sub.of k9 (St.drop 2 hS22),?_⟩
       have s3:=Sub.of k9 (St.drop 2 hS22)
       have hq3:=oneCells_of (Ty.one _ (Ty.mono _ zr hx7))
       refine p_store_eq (i:=12) (j:=0) (b:=b10) (off:=0) (vs:=[.slice e7 r4.1.length q7,v30,v31,v32,v33,v34,v35,v36,v37,v38]) (cs':=[.slice e7 r4.1.length q7,v30,v31,v32,v33,v34,v35,v36,v37,v38]) hS22 hf38 rfl (by kernel_rfl) hq3 rfl fun ww19 a36 hS23 hf39=>⟨fun e=>absurd e (by decide),?_⟩
       refine c_st 1 [.slice e8 r4.2.2.1.length q8] hS23 hf39 rfl fun ww20 a37 hS24 hf40=>⟨fun e=>absurd e (by decide),?_⟩
       refine p_qP 1 [] [(0, .slice o_x0 x0.length c_x0),(1, .slice o_x1 x1.length c_x1),(6,pB b1 0),(9, .slice e2 y15.length q2),(10,vI y16),(11,pB b2 0),(12,pB b4 0),(13,vI y1),(14,pB b10 0),(15,pB b9 0)] [] hf40 (by kernel_rfl) (fun _=> .nil) fun a38 hf41=>?_
       refine c_done ?_
       intro hA7
       refine k_done' (by kernel_rfl) (by kernel_rfl) ?_
       refine n_then ?_
       exact ⟨z6,r4.1,r4.2.1,r4.2.2.1,b10,b9,e7,q7,v30,v31,v32,v33,v34,v35,v36,v37,v38,e8,q8,k9,hf41.to,(St.pick 2 [0,1] hS24 (by kernel_rfl)),hx6,(Ty.mono _ zr hx7),hx8,hr11⟩
     ·skip
      refine c_box [.slice none 0 0, .slice none 0 0, .slice none 0 0, .slice none 0 0, .slice none 0 0, .slice none 0 0, .slice none 0 0, .slice none 0 0, .slice none 0 0, .slice none 0 0] 26 hS15 hf28 fun b11 ww21 a39 hS25 hf43=>⟨fun _=>Sub.of zr (St.drop 1 hS25),?_⟩
      refine c_done ?_
      intro hA8
      have s4:=Sub.of zr (St.drop 1 hS25)
      refine k_seg' 9 [] (by kernel_rfl) (by kernel_rfl) hA8 (by kernel_rfl) ?_
      refine c_done ?_
      intro hA9
      refine k_any' 8 [5,11] (by kernel_rfl) hA9 (by kernel_rfl) (by kernel_rfl) ?_
      refine (all_cons ?_ (all_cons ?_ all_nil))
      ·skip
       obtain ⟨r5,hd4,hr12⟩:=bind_some hr10
       refine c_call hf43 (f28_ok fuel y18 y19 p6.kind p6.lot p6.frm p6.to p6.mass r5 hd4 z4 _ _ hS25 e4 q4 hx4 v11 v12 v13 v14 v15 v16 v17 v18 v19 (Ty.mono _ zr hx5)) ?_
       rintro v39 ww22 a40 ⟨z7,e9,q9,v40,v41,v42,v43,v44,v45,v46,v47,v48,e10,q10,k10,rfl,hS26,hx9,hx10,hx11⟩ hf44
       refine ⟨fun e=>absurd e (by decide),?_⟩
       refine c_done ?_
       intro hA10
       refine k_seg' 0 [(6,true),(7,true),(8,true),(9,true),(11,false),(12,false),(13,false),(14,true)] (by kernel_rfl) (by kernel_rfl) hA10 (by kernel_rfl) ?_
       refine p_qP 4 [] [(0, .slice o_x0 x0.length c_x0),(1, .slice o_x1 x1.length c_x1),(6,pB b1 0),(9, .slice e2 y15.length q2),(10,vI y16),(11,pB b2 0),(12,pB b4 0),(13,vI y1),(14,pB b11 0),(59, .agg #[.slice e9 r5.1.length q9,v40,v41,v42,v43,v44,v45,v46,v47,v48]),(60, .agg #[.slice e10 r5.2.2.1.length q10]),(61,vI r5.2.2.2)] [] hf44 (by kernel_rfl) (fun _=> .nil) fun a41 hf45=>?_
       refine c_box [.slice none 0 0] 40 hS26 hf45 fun b12 ww23 a42 hS27 hf46=>⟨fun _=>Sub.of k10 (St.drop 2 hS27),?_⟩
       have s5:=Sub.of k10 (St.drop 2 hS27)
       have hq4:=oneCells_of (Ty.one _ (Ty.mono _ zr hx10))
       refine p_store_eq (i:=12) (j:=1) (b:=b11) (off:=0) (vs:=[.slice e9 r5.1.length q9,v40,v41,v42,v43,v44,v45,v46,v47,v48]) (cs':=[.slice e9 r5.1.length q9,v40,v41,v42,v43,v44,v45,v46,v47,v48]) hS27 hf46 rfl (by kernel_rfl) hq4 rfl fun ww24 a43 hS28 hf47=>⟨fun e=>absurd e (by decide),?_⟩
       refine c_st 0 [.slice e10 r5.2.2.1.length q10] hS28 hf47 rfl fun ww25 a44 hS29 hf48=>⟨fun e=>absurd e (by decide),?_⟩
       refine p_qP 1 [] [(0, .slice o_x0 x0.length c_x0),(1, .slice o_x1 x1.length c_x1),(6,pB b1 0),(9, .slice e2 y15.length q2),(10,vI y16),(11,pB b2 0),(12,pB b4 0),(13,vI y1),(14,pB b11 0),(15,pB b12 0)] [] hf48 (by kernel_rfl) (fun _=> .nil) fun a45 hf49=>?_
       refine c_done ?_
       intro hA11
       refine k_done' (by kernel_rfl) (by kernel_rfl) ?_
       refine n_then ?_
       exact ⟨z7,r5.1,r5.2.1,r5.2.2.1,b11,b12,e9,q9,v40,v41,v42,v43,v44,v45,v46,v47,v48,e10,q10,k10,hf49.to,(St.pick 2 [1,0] hS29 (by kernel_rfl)),hx9,(Ty.mono _ zr hx10),hx11,hr12⟩
      ·skip
       refine c_box [.slice none 0 0] 40 hS25 hf43 fun b13 ww26 a46 hS30 hf51=>⟨fun _=>Sub.of zr (St.drop 2 hS30),?_⟩
       refine c_done ?_
       intro hA12
       have s6:=Sub.of zr (St.drop 2 hS30)
       refine k_seg' 0 [(5,false),(6,true),(7,true),(8,true),(9,true),(12,false),(13,false),(14,true)] (by kernel_rfl) (by kernel_rfl) hA12 (by kernel_rfl) ?_
       obtain ⟨r6,hd5,hr13⟩:=bind_some hr10
       refine c_call hf51 (f28_ok fuel y18 y19 p6.kind p6.lot p6.frm p6.to p6.mass r6 hd5 z4 _ _ hS30 e4 q4 hx4 v11 v12 v13 v14 v15 v16 v17 v18 v19 (Ty.mono _ zr hx5)) ?_
       rintro v49 ww27 a47 ⟨z8,e11,q11,v50,v51,v52,v53,v54,v55,v56,v57,v58,e12,q12,k11,rfl,hS31,hx12,hx13,hx14⟩ hf52
       refine ⟨fun e=>absurd e (by decide),?_⟩
       refine p_qP 4 [] [(0, .slice o_x0 x0.length c_x0),(1, .slice o_x1 x1.length c_x1),(6,pB b1 0),(9, .slice e2 y15.length q2),(10,vI y16),(11,pB b2 0),(12,pB b4 0),(13,vI y1),(14,pB b11 0),(15,pB b13 0),(59, .agg #[.slice e11 r6.1.length q11,v50,v51,v52,v53,v54,v55,v56,v57,v58]),(60, .agg #[.slice e12 r6.2.2.1.length q12]),(61,vI r6.2.2.2)] [] hf52 (by kernel_rfl) (fun _=> .nil) fun a48 hf53=>?_
       have hq5:=oneCells_of (Ty.one _ (Ty.mono _ zr hx13))
       refine p_store_eq (i:=12) (j:=1) (b:=b11) (off:=0) (vs:=[.slice e11 r6.1.length q11,v50,v51,v52,v53,v54,v55,v56,v57,v58]) (cs':=[.slice e11 r6.1.length q11,v50,v51,v52,v53,v54,v55,v56,v57,v58]) hS31 hf53 rfl (by kernel_rfl) hq5 rfl fun ww28 a49 hS32 hf54=>⟨fun e=>absurd e (by decide),?_⟩
       refine c_st 0 [.slice e12 r6.2.2.1.length q12] hS32 hf54 rfl fun ww29 a50 hS33 hf55=>⟨fun e=>absurd e (by decide),?_⟩
       refine p_qP 1 [] [(0, .slice o_x0 x0.length c_x0),(1, .slice o_x1 x1.length c_x1),(6,pB b1 0),(9, .slice e2 y15.length q2),(10,vI y16),(11,pB b2 0),(12,pB b4 0),(13,vI y1),(14,pB b11 0),(15,pB b13 0)] [] hf55 (by kernel_rfl) (fun _=> .nil) fun a51 hf56=>?_
       refine c_done ?_
       intro hA13
       refine k_done' (by kernel_rfl) (by kernel_rfl) ?_
       refine n_then ?_
       exact ⟨z8,r6.1,r6.2.1,r6.2.2.1,b11,b13,e11,q11,v50,v51,v52,v53,v54,v55,v56,v57,v58,e12,q12,k11,hf56.to,(St.pick 2 [1,0] hS33 (by kernel_rfl)),hx12,(Ty.mono _ zr hx13),hx14,hr13⟩
     ·skip
      refine c_box [.slice none 0 0] 40 hS15 hf28 fun b14 ww30 a52 hS34 hf58=>⟨fun _=>Sub.of zr (St.drop 1 hS34),?_⟩
      refine c_done ?_
      intro hA14
      have s7:=Sub.of zr (St.drop 1 hS34)
      refine k_seg' 9 [] (by kernel_rfl) (by kernel_rfl) hA14 (by kernel_rfl) ?_
      refine c_done ?_
      intro hA15
      refine k_any' 8 [5,10] (by kernel_rfl) hA15 (by kernel_rfl) (by kernel_rfl) ?_
      refine (all_cons ?_ (all_cons ?_ all_nil))
      ·skip
       obtain ⟨r7,hd6,hr14⟩:=bind_some hr10
       refine c_call hf58 (f28_ok fuel y18 y19 p6.kind p6.lot p6.frm p6.to p6.mass r7 hd6 z4 _ _ hS34 e4 q4 hx4 v11 v12 v13 v14 v15 v16 v17 v18 v19 (Ty.mono _ zr hx5)) ?_
       rintro v59 ww31 a53 ⟨z9,e13,q13,v60,v61,v62,v63,v64,v65,v66,v67,v68,e14,q14,k12,rfl,hS35,hx15,hx16,hx17⟩ hf59
       refine ⟨fun e=>absurd e (by decide),?_⟩
       refine c_done ?_
       intro hA16
       refine k_seg' 0 [(6,true),(7,true),(8,true),(9,true),(10,false),(12,false),(13,false),(14,true)] (by kernel_rfl) (by kernel_rfl) hA16 (by kernel_rfl) ?_
       refine p_qP 4 [] [(0, .slice o_x0 x0.length c_x0),(1, .slice o_x1 x1.length c_x1),(6,pB b1 0),(9, .slice e2 y15.length q2),(10,vI y16),(11,pB b2 0),(12,pB b4 0),(13,vI y1),(15,pB b14 0),(59, .agg #[.slice e13 r7.1.length q13,v60,v61,v62,v63,v64,v65,v66,v67,v68]),(60, .agg #[.slice e14 r7.2.2.1.length q14]),(61,vI r7.2.2.2)] [] hf59 (by kernel_rfl) (fun _=> .nil) fun a54 hf60=>?_
       refine c_box [.slice none 0 0, .slice none 0 0, .slice none 0 0, .slice none 0 0, .slice none 0 0, .slice none 0 0, .slice none 0 0, .slice none 0 0, .slice none 0 0, .slice none 0 0] 26 hS35 hf60 fun b15 ww32 a55 hS36 hf61=>⟨fun _=>Sub.of k12 (St.drop 2 hS36),?_⟩
       have s8:=Sub.of k12 (St.drop 2 hS36)
       have hq6:=oneCells_of (Ty.one _ (Ty.mono _ zr hx16))
       refine p_store_eq (i:=12) (j:=0) (b:=b15) (off:=0) (vs:=[.slice e13 r7.1.length q13,v60,v61,v62,v63,v64,v65,v66,v67,v68]) (cs':=[.slice e13 r7.1.length q13,v60,v61,v62,v63,v64,v65,v66,v67,v68]) hS36 hf61 rfl (by kernel_rfl) hq6 rfl fun ww33 a56 hS37 hf62=>⟨fun e=>absurd e (by decide),?_⟩
       refine c_st 1 [.slice e14 r7.2.2.1.length q14] hS37 hf62 rfl fun ww34 a57 hS38 hf63=>⟨fun e=>absurd e (by decide),?_⟩
       refine p_qP 1 [] [(0, .slice o_x0 x0.length c_x0),(1, .slice o_x1 x1.length c_x1),(6,pB b1 0),(9, .slice e2 y15.length q2),(10,vI y16),(11,pB b2 0),(12,pB b4 0),(13,vI y1),(14,pB b15 0),(15,pB b14 0)] [] hf63 (by kernel_rfl) (fun _=> .nil) fun a58 hf64=>?_
       refine c_done ?_
       intro hA17
       refine k_done' (by kernel_rfl) (by kernel_rfl) ?_
       refine n_then ?_
       exact ⟨z9,r7.1,r7.2.1,r7.2.2.1,b15,b14,e13,q13,v60,v61,v62,v63,v64,v65,v66,v67,v68,e14,q14,k12,hf64.to,(St.pick 2 [0,1] hS38 (by kernel_rfl)),hx15,(Ty.mono _ zr hx16),hx17,hr14⟩
      ·skip
       refine c_box [.slice none 0 0, .slice none 0 0, .slice none 0 0, .slice none 0 0, .slice none 0 0, .slice none 0 0, .slice none 0 0, .slice none 0 0, .slice none 0 0, .slice none 0 0] 26 hS34 hf58 fun b16 ww35 a59 hS39 hf66=>⟨fun _=>Sub.of zr (St.drop 2 hS39),?_⟩
       refine c_done ?_
       intro hA18
       have s9:=Sub.of zr (St.drop 2 hS39)
       refine k_seg' 0 [(5,false),(6,true),(7,true),(8,true),(9,true),(12,false),(13,false),(14,true)] (by kernel_rfl) (by kernel_rfl) hA18 (by kernel_rfl) ?_
       obtain ⟨r8,hd7,hr15⟩:=bind_some hr10
       refine c_call hf66 (f28_ok fuel y18 y19 p6.kind p6.lot p6.frm p6.to p6.mass r8 hd7 z4 _ _ hS39 e4 q4 hx4 v11 v12 v13 v14 v15 v16 v17 v18 v19 (Ty.mono _ zr hx5)) ?_
       rintro v69 ww36 a60 ⟨z10,e15,q15,v70,v71,v72,v73,v74,v75,v76,v77,v78,e16,q16,k13,rfl,hS40,hx18,hx19,hx20⟩ hf67
       refine ⟨fun e=>absurd e (by decide),?_⟩
       refine p_qP 4 [] [(0, .slice o_x0 x0.length c_x0),(1, .slice o_x1 x1.length c_x1),(6,pB b1 0),(9, .slice e2 y15.length q2),(10,vI y16),(11,pB b2 0),(12,pB b4 0),(13,vI y1),(14,pB b16 0),(15,pB b14 0),(59, .agg #[.slice e15 r8.1.length q15,v70,v71,v72,v73,v74,v75,v76,v77,v78]),(60, .agg #[.slice e16 r8.2.2.1.length q16]),(61,vI r8.2.2.2)] [] hf67 (by kernel_rfl) (fun _=> .nil) fun a61 hf68=>?_
       have hq7:=oneCells_of (Ty.one _ (Ty.mono _ zr hx19))
       refine p_store_eq (i:=12) (j:=0) (b:=b16) (off:=0) (vs:=[.slice e15 r8.1.length q15,v70,v71,v72,v73,v74,v75,v76,v77,v78]) (cs':=[.slice e15 r8.1.length q15,v70,v71,v72,v73,v74,v75,v76,v77,v78]) hS40 hf68 rfl (by kernel_rfl) hq7 rfl fun ww37 a62 hS41 hf69=>⟨fun e=>absurd e (by decide),?_⟩
       refine c_st 1 [.slice e16 r8.2.2.1.length q16] hS41 hf69 rfl fun ww38 a63 hS42 hf70=>⟨fun e=>absurd e (by decide),?_⟩
       refine p_qP 1 [] [(0, .slice o_x0 x0.length c_x0),(1, .slice o_x1 x1.length c_x1),(6,pB b1 0),(9, .slice e2 y15.length q2),(10,vI y16),(11,pB b2 0),(12,pB b4 0),(13,vI y1),(14,pB b16 0),(15,pB b14 0)] [] hf70 (by kernel_rfl) (fun _=> .nil) fun a64 hf71=>?_
       refine c_done ?_
       intro hA19
       refine k_done' (by kernel_rfl) (by kernel_rfl) ?_
       refine n_then ?_
       exact ⟨z10,r8.1,r8.2.1,r8.2.2.1,b16,b14,e15,q15,v70,v71,v72,v73,v74,v75,v76,v77,v78,e16,q16,k13,hf71.to,(St.pick 2 [0,1] hS42 (by kernel_rfl)),hx18,(Ty.mono _ zr hx19),hx20,hr15⟩
    ·rintro a65 ww39 ⟨z5,y2,y3,y11,b5,b6,e5,q5,v20,v21,v22,v23,v24,v25,v26,v27,v28,e6,q6,k14,hf73,hS43,hx21,hx22,hx23,hr16⟩
     refine c_sr ?_
     refine c_n 3 [.slice e6 y11.length q6,vI p2.id] [0,1,6,9,10,11,12,13,14,62,64] hf73 (.cell (hS43.box (i:=1) rfl (j:=0) rfl) (.cell (hS43.box (i:=4) rfl (j:=0) rfl) .nil)) fun a66 hf74=>?_
     obtain ⟨r1,hd8,hr17⟩:=bind_some hr16
     refine c_call hf74 (f105_ok fuel y11 p2.id r1 hd8 z5 _ _ hS43 e6 q6 hx23) ?_
     rintro v79 ww40 a67 ⟨z11,k15,rfl,hS44⟩ hf75
     refine ⟨fun _=>trivial,?_⟩
     refine c_t [] [0,1,6,9,10,11,12,13,14,17] hf75 .nil fun a68 hf76=>?_
     refine c_mid (fun a w=>∃z12:Zone,∃y4:Int,∃y5:Int,∃y6:Int,Zone.le z11 z12∧Fr a 126 [(0, .slice o_x0 x0.length c_x0),(1, .slice o_x1 x1.length c_x1),(6,pB b1 0),(9, .slice e2 y15.length q2),(10,vI y16),(11,pB b2 0),(12,pB b4 0),(13,vI y1),(14,pB b5 0)]∧St z12 (box b5 [.slice e5 y2.length q5,v20,v21,v22,v23,v24,v25,v26,v27,v28] 26::box b6 [.slice e6 y11.length q6] 40::box b4 [.slice e4 y18.length q4,v11,v12,v13,v14,v15,v16,v17,v18,v19] 26::emp::box b2 [vI p2.id,vI y4,vI y5,vI y6,vI 0] 83::ownS AccountT 83 e2 q2 y15::box b1 [.slice e1 r2.1.length q1,v2,v3,v4,v5,v6,v7,v8,v9,v10] 26::L) w∧(F46_j2 (F46_l2 fuel (F46_l1 fuel x0 x1 r2 n4) x1 r2 y15 y16 p2 n3) y1 y2 y3 y4 y5 y6)=some r) ?_ ?_
     ·skip
      obtain ⟨p1,hp776945,hr18⟩:=bind_some hr17
      obtain ⟨ad3,ho3,hb6,cc3,hc3,hk3⟩:=SliceR.getI (SliceR.mono (zt (zt (zt (zt (zt k5 k6) k7) k8) k14) k15) hx_x1) hp776945
      subst hc3
      refine c_sq [.pointer (some ad3),vI p1.kind] [0,1,6,9,10,11,12,13,14,17,70] hf76 (.prop ho3 (.prop hb6 (.cell (hS44.cell (hk3 0 _ rfl)) .nil))) fun a69 hf77=>?_
      refine c_block 4 ?_
      refine c_mid (fun a w=>∃z13:Zone,∃y10:Bool,Zone.le z11 z13∧Fr a 126 [(0, .slice o_x0 x0.length c_x0),(1, .slice o_x1 x1.length c_x1),(6,pB b1 0),(9, .slice e2 y15.length q2),(10,vI y16),(11,pB b2 0),(12,pB b4 0),(13,vI y1),(14,pB b5 0),(17,vI r1),(70,vI p1.kind),(71, .bool y10)]∧St z13 (box b5 [.slice e5 y2.length q5,v20,v21,v22,v23,v24,v25,v26,v27,v28] 26::box b6 [.slice e6 y11.length q6] 40::box b4 [.slice e4 y18.length q4,v11,v12,v13,v14,v15,v16,v17,v18,v19] 26::emp::box b2 [vI p2.id,vI y7,vI y8,vI y9,vI 0] 83::ownS AccountT 83 e2 q2 y15::box b1 [.slice e1 r2.1.length q1,v2,v3,v4,v5,v6,v7,v8,v9,v10] 26::L) w∧(F46_j3 (F46_l2 fuel (F46_l1 fuel x0 x1 r2 n4) x1 r2 y15 y16 p2 n3) y7 y8 y9 y1 y2 y3 r1 p1 y10)=some r) ?_ ?_
      ·skip
       refine c_sq [] [0,1,6,9,10,11,12,13,14,17,70,71] hf77 .nil fun a70 hf78=>?_
       refine c_if (p1.kind == (1:Int)) hf78 (fun hb7=>?_) (fun hb7=>?_)
       ·have hr19:=cond_t hb7 hr18
        refine c_skip ?_
        refine n_then ?_
        exact ⟨z11,(p1.kind == (1:Int)),zr,hf78.to,hS44,hr19⟩
       ·have hr20:=cond_f hb7 hr18
        refine c_q [] [0,1,6,9,10,11,12,13,14,17,70,71] hf78 .nil fun a71 hf80=>?_
        refine n_then ?_
        exact ⟨z11,(p1.kind == (2:Int)),zr,hf80.to,hS44,hr20⟩
      ·rintro a72 ww41 ⟨z13,y10,k16,hf82,hS45,hr21⟩
       refine c_if y10 hf82 (fun hb8=>?_) (fun hb8=>?_)
       ·have hr22:=cond_t hb8 hr21
        refine c_reg ?_
        refine c_n 5 [vI y7] [0,1,6,9,10,11,12,13,14,77,78] hf82 (.cell (hS45.box (i:=4) rfl (j:=1) rfl) .nil) fun a73 hf83=>?_
        refine c_st 4 [vI p2.id,vI (w64 (y7 + r1)),vI y8,vI y9,vI 0] hS45 hf83 rfl fun ww42 a74 hS46 hf84=>⟨fun _=>trivial,?_⟩
        refine c_done ?_
        refine n_block ?_
        refine n_then ?_
        exact ⟨z13,(w64 (y7 + r1)),y8,y9,k16,hf84.to,hS46,hr22⟩
       ·have hr23:=cond_f hb8 hr21
        refine c_sq [] [0,1,6,9,10,11,12,13,14,17,70,79] hf82 .nil fun a75 hf86=>?_
        refine c_if (p1.kind == (3:Int)) hf86 (fun hb9=>?_) (fun hb9=>?_)
        ·have hr24:=cond_t hb9 hr23
         refine c_reg ?_
         refine c_n 5 [vI y8] [0,1,6,9,10,11,12,13,14,84,85] hf86 (.cell (hS45.box (i:=4) rfl (j:=2) rfl) .nil) fun a76 hf87=>?_
         refine c_st 4 [vI p2.id,vI y7,vI (w64 (y8 + r1)),vI y9,vI 0] hS45 hf87 rfl fun ww43 a77 hS47 hf88=>⟨fun _=>trivial,?_⟩
         refine c_done ?_
         refine n_block ?_
         refine n_then ?_
         exact ⟨z13,y7,(w64 (y8 + r1)),y9,k16,hf88.to,hS47,hr24⟩
        ·have hr25:=cond_f hb9 hr23
         refine c_sq [] [0,1,6,9,10,11,12,13,14,17,86] hf86 .nil fun a78 hf90=>?_
         refine c_if (p1.kind == (5:Int)) hf90 (fun hb10=>?_) (fun hb10=>?_)
         ·have hr26:=cond_t hb10 hr25
          refine c_reg ?_
          refine c_n 5 [vI y9] [0,1,6,9,10,11,12,13,14,91,92] hf90 (.cell (hS45.box (i:=4) rfl (j:=3) rfl) .nil) fun a79 hf91=>?_
          refine c_st 4 [vI p2.id,vI y7,vI y8,vI (w64 (y9 + r1)),vI 0] hS45 hf91 rfl fun ww44 a80 hS48 hf92=>⟨fun _=>trivial,?_⟩
          refine c_done ?_
          refine n_block ?_
          refine n_then ?_
          exact ⟨z13,y7,y8,(w64 (y9 + r1)),k16,hf92.to,hS48,hr26⟩
         ·have hr27:=cond_f hb10 hr25
          refine c_skip ?_
          refine n_block ?_
          refine n_then ?_
          exact ⟨z13,y7,y8,y9,k16,hf90.to,hS45,hr27⟩
     ·rintro a81 ww45 ⟨z12,y4,y5,y6,k17,hf95,hS49,hr28⟩
      refine c_reg ?_
      refine c_n 1 [.slice e5 y2.length q5,v20,v21,v22,v23,v24,v25,v26,v27,v28] [0,1,6,9,10,11,12,13,93] hf95 (.cell (hS49.box (i:=0) rfl (j:=0) rfl) (.cell (hS49.box (i:=0) rfl (j:=1) rfl) (.cell (hS49.box (i:=0) rfl (j:=2) rfl) (.cell (hS49.box (i:=0) rfl (j:=3) rfl) (.cell (hS49.box (i:=0) rfl (j:=4) rfl) (.cell (hS49.box (i:=0) rfl (j:=5) rfl) (.cell (hS49.box (i:=0) rfl (j:=6) rfl) (.cell (hS49.box (i:=0) rfl (j:=7) rfl) (.cell (hS49.box (i:=0) rfl (j:=8) rfl) (.cell (hS49.box (i:=0) rfl (j:=9) rfl) .nil)))))))))) fun a82 hf96=>?_
      have hq8:=oneCells_of (Ty.one _ (Ty.mono _ (zt k15 k17) hx22))
      refine p_store_eq (i:=1) (j:=2) (b:=b4) (off:=0) (vs:=[.slice e5 y2.length q5,v20,v21,v22,v23,v24,v25,v26,v27,v28]) (cs':=[.slice e5 y2.length q5,v20,v21,v22,v23,v24,v25,v26,v27,v28]) hS49 hf96 rfl (by kernel_rfl) hq8 rfl fun ww46 a83 hS50 hf97=>⟨fun _=>trivial,?_⟩
      refine c_done ?_
      refine n_block ?_
      refine n_then ?_
      refine c_q [] [0,1,6,9,10,11,12,13] hf97 .nil fun a84 hf98=>?_
      refine n_then ?_
      exact ⟨n3,Nat.lt_succ_self n3,z12,y2,y3,y4,y5,y6,(w64 (y1 + (1:Int))),e5,q5,v20,v21,v22,v23,v24,v25,v26,v27,v28,(zt (zt (zt k8 k14) k15) k17),hf98.to,(St.drop 2 hS50),(SliceR.mono (zt k15 k17) hx21),(Ty.mono _ (zt k15 k17) hx22),hr28⟩
   ·have hr29:=cond_f hb4 hr8
    refine c_exit 2 ?_
    refine x_then ?_
    refine x_then ?_
    refine x_block ?_
    refine n_then ?_
    refine c_seq ?_
    refine c_sq [] [0,1,6,9,10,11,18] hf27 .nil fun a85 hf100=>?_
    refine c_block 5 ?_
    refine c_loop (fun n a w=>∃z14:Zone,∃y17:Int,∃y12:Int,Zone.le z4 z14∧Fr a 126 [(0, .slice o_x0 x0.length c_x0),(1, .slice o_x1 x1.length c_x1),(6,pB b1 0),(9, .slice e2 y15.length q2),(10,vI y16),(11,pB b2 0),(18,vI y12)]∧St z14 (box b4 [.slice e4 y18.length q4,v11,v12,v13,v14,v15,v16,v17,v18,v19] 26::emp::box b2 [vI p2.id,vI y7,vI y8,vI y9,vI y17] 83::ownS AccountT 83 e2 q2 y15::box b1 [.slice e1 r2.1.length q1,v2,v3,v4,v5,v6,v7,v8,v9,v10] 26::L) w∧(F46_l3 fuel (F46_l1 fuel x0 x1 r2 n4) r2 y15 y16 p2 y7 y8 y9 n y17 y12)=some r) fuel ⟨z4,0,0,zr,hf100.to,hS14,hr29⟩ ?_
    rintro n7 a86 ww47 ⟨z14,y17,y12,k18,hf102,hS51,hr30⟩
    cases n7 with
    | zero=>cases hr30
    | succ n2 =>
    refine c_seq ?_
    refine c_sq [] [0,1,6,9,10,11,18,95] hf102 .nil fun a87 hf103=>?_
    refine c_if (decide (y12<(9:Int))) hf103 (fun hb11=>?_) (fun hb11=>?_)
    ·have hr31:=cond_t hb11 hr30
     refine c_skip ?_
     refine n_then ?_
     refine c_seq ?_
     refine c_block 6 ?_
     refine c_sq [] [0,1,6,9,10,11,18,19] hf103 .nil fun a88 hf104=>?_
     refine c_block 7 ?_
     refine c_loop (fun n a w=>∃z15:Zone,∃y13:Int,∃y14:Int,Zone.le z14 z15∧Fr a 126 [(0, .slice o_x0 x0.length c_x0),(1, .slice o_x1 x1.length c_x1),(6,pB b1 0),(9, .slice e2 y15.length q2),(10,vI y16),(11,pB b2 0),(18,vI y12),(19,vI y14)]∧St z15 (box b4 [.slice e4 y18.length q4,v11,v12,v13,v14,v15,v16,v17,v18,v19] 26::emp::box b2 [vI p2.id,vI y7,vI y8,vI y9,vI y13] 83::ownS AccountT 83 e2 q2 y15::box b1 [.slice e1 r2.1.length q1,v2,v3,v4,v5,v6,v7,v8,v9,v10] 26::L) w∧(F46_l4 fuel (F46_l3 fuel (F46_l1 fuel x0 x1 r2 n4) r2 y15 y16 p2 y7 y8 y9 n2) r2 p2 y12 n y13 y14)=some r) fuel ⟨z14,y17,0,zr,hf104.to,hS51,hr31⟩ ?_
     rintro n8 a89 ww48 ⟨z15,y13,y14,k19,hf106,hS52,hr32⟩
     cases n8 with
     | zero=>cases hr32
     | succ n1 =>
     refine c_seq ?_
     obtain ⟨p3,hp785546,hr33⟩:=bind_some hr32
     obtain ⟨hb12,_,hv1,e17,q17,hehv785550,hx24⟩:=arrGet (Ty.mono _ (zt (zt (zt (zt k6 k7) k8) k18) k19) hx2) rfl hp785546
     obtain rfl:=List.head_eq_of_cons_eq hehv785550
     refine c_sq [.slice e17 p3.length q17] [0,1,6,9,10,11,18,19,104] hf106 (.prop hb12 (.cell ((arrAddr b1 1 y12.toNat) ▸ (hS52.box (i:=4) rfl (getElem?_app_right [.slice e1 r2.1.length q1] _ _ hv1 []))) .nil)) fun a90 hf107=>?_
     refine c_if (decide (y14<(p3.length:Int))) hf107 (fun hb13=>?_) (fun hb13=>?_)
     ·have hr34:=cond_t hb13 hr33
      refine c_skip ?_
      refine n_then ?_
      refine c_seq ?_
      refine c_block 8 ?_
      have hS53:=hS52.drew
      have s10:=Sub.of zr hS53
      refine c_regD [(0,true),(1,true),(2,true),(3,true),(4,true),(5,true),(6,true),(7,true),(8,true),(9,true),(10,true),(11,false),(12,true),(13,true),(14,false)] [14] _ s10 ?_
      obtain ⟨p4,hp785611,hr35⟩:=bind_some hr34
      obtain ⟨hb14,_,hv2,e18,q18,hehv785615,hx25⟩:=arrGet (Ty.mono _ (zt (zt (zt (zt k6 k7) k8) k18) k19) hx2) rfl hp785611
      obtain rfl:=List.head_eq_of_cons_eq hehv785615
      obtain ⟨p5,hp785621,hr36⟩:=bind_some hr35
      obtain ⟨ad4,ho4,hb15,cc4,hc4,hk4⟩:=SliceR.getI hx25 hp785621
      obtain ⟨e19,q19,rfl,hx26⟩:=hc4
      refine c_S 11 [vI y13, .slice e18 p4.length q18, .pointer (some ad4), .slice e19 p5.length q19,vI p2.id] [0,1,6,9,10,11,18,19,108,115,117] s10 hf107 (fun _ s=>(.cell (s.box (i:=2) rfl (j:=4) rfl) (.prop hb14 (.cell ((arrAddr b1 1 y12.toNat) ▸ (s.box (i:=4) rfl (getElem?_app_right [.slice e1 r2.1.length q1] _ _ hv2 []))) (.prop ho4 (.prop hb15 (.cell (s.cell (hk4 0 _ rfl)) (.cell (s.box (i:=2) rfl (j:=0) rfl) .nil)))))))) .nil fun a91 hf108=>?_
      obtain ⟨r3,hd9,hr37⟩:=bind_some hr36
      refine c_call hf108 (f105_ok fuel p5 p2.id r3 hd9 z15 _ _ hS53 e19 q19 hx26) ?_
      rintro v80 ww49 a92 ⟨z16,k20,rfl,hS54⟩ hf109
      refine ⟨fun _=>Sub.of k20 hS54,?_⟩
      have s11:=Sub.of k20 hS54
      refine c_S 2 [] [0,1,6,9,10,11,18,19,119,120] s11 hf109 (fun _ s=> .nil) .nil fun a93 hf110=>?_
      refine c_st 2 [vI p2.id,vI y7,vI y8,vI y9,vI (w64 (y13 + r3))] hS54 hf110 rfl fun ww50 a94 hS55 hf111=>⟨fun e=>absurd e (by decide),?_⟩
      refine c_done ?_
      refine n_block ?_
      refine n_then ?_
      refine c_q [] [0,1,6,9,10,11,18,19] hf111 .nil fun a95 hf112=>?_
      refine n_then ?_
      exact ⟨n1,Nat.lt_succ_self n1,z16,(w64 (y13 + r3)),(w64 (y14 + (1:Int))),(zt k19 k20),hf112.to,hS55,hr37⟩
     ·have hr38:=cond_f hb13 hr33
      refine c_exit 7 ?_
      refine x_then ?_
      refine x_then ?_
      refine x_block ?_
      refine n_block ?_
      refine n_then ?_
      refine c_q [] [0,1,6,9,10,11,18] hf107 .nil fun a96 hf114=>?_
      refine n_then ?_
      exact ⟨n2,Nat.lt_succ_self n2,z15,y13,(w64 (y12 + (1:Int))),(zt k18 k19),hf114.to,hS52,hr38⟩
    ·have hr39:=cond_f hb11 hr30
     refine c_exit 5 ?_
     refine x_then ?_
     refine x_then ?_
     refine x_block ?_
     refine n_then ?_
     refine c_reg ?_
     refine c_n 2 [vI p2.id,vI y7,vI y8,vI y9,vI y17] [0,1,6,10,121,122] hf103 (.cell (hS51.box (i:=2) rfl (j:=0) rfl) (.cell (hS51.box (i:=2) rfl (j:=1) rfl) (.cell (hS51.box (i:=2) rfl (j:=2) rfl) (.cell (hS51.box (i:=2) rfl (j:=3) rfl) (.cell (hS51.box (i:=2) rfl (j:=4) rfl) .nil))))) fun a97 hf116=>?_
     refine p_box (i:=2) (d:=(some 123)) (cs:=[vI p2.id,vI y7,vI y8,vI y9,vI y17]) (T:=83) (v:=fun b17=> .slice (some ⟨b17,0,none⟩) 1 1) hS51 hf116 (fun b=>by kernel_rfl) fun b17 ww51 a98 hS56 hf117=>⟨fun _=>trivial,?_⟩
     have hS57:=hS56.ownBox (T:=AccountT) (E:=83) (n:=1) (xs:=[⟨p2.id,y7,y8,y9,y17⟩]) (i:=0) rfl (Rows.cons (c:=[vI p2.id,vI y7,vI y8,vI y9,vI y17]) rfl rfl) rfl (by decide)
     obtain ⟨d1,hd10,hr40⟩:=bind_some hr39
     refine p_append (T:=AccountT) (i:=3) (j:=4) (d:=some 124) (o2:=(some ⟨b17,0,none⟩)) (c2:=1) (ys:=([⟨p2.id,y7,y8,y9,y17⟩])) el78 hS57 hf117 rfl (by kernel_rfl) (hS57.ownSrc (j:=0) rfl) hd10 fun e20 q20 ww52 a99 hS58 hf118=>⟨fun _=>trivial,?_⟩
     refine c_z [] [0,1,6,9,10] hf118 .nil fun a100 hf119=>?_
     refine n_block ?_
     refine n_then ?_
     refine c_q [] [0,1,6,9,10] hf119 .nil fun a101 hf120=>?_
     refine n_then ?_
     exact ⟨n4,Nat.lt_succ_self n4,z14,d1,(w64 (y16 + (1:Int))),e20,q20,(zt (zt (zt k6 k7) k8) k18),hf120.to,(St.drop 4 hS58),hr40⟩
  ·have hr41:=cond_f hb2 hr4
   refine c_exit 0 ?_
   refine x_then ?_
   refine x_then ?_
   refine x_block ?_
   refine n_then ?_
   refine c_sq [] [4,5] hf14 .nil fun a102 hf122=>?_
   refine c_ret ?_
   obtain ⟨z17,k21,hS59,hx27⟩:=hS5.share (j:=0) rfl
   refine c_rt [] (.tuple #[.slice e2 y15.length q2,vI 0]) hf122 .nil ?_
   obtain rfl:=some_eq hr41
   exact ⟨_,rfl,z17,e2,q2,(zt (zt k5 k6) k21),rfl,(St.drop 2 hS59),hx27⟩
def F47_j1 (k1:Bool→Int→Option (Bool)) (x0:List Account) (x1:List Account) (y1:Bool) (y2:Int) (y3:Bool):Option (Bool) :=
  (cond y3 ((getI x0 y2).bind fun p1=>((getI x1 y2).bind fun p2=>(k1 ((p1.lot == p2.lot) && ((p1.poured == p2.poured) && ((p1.drawn == p2.drawn) && ((p1.lost == p2.lost) && ((p1.left == p2.left) && true))))) (w64 (y2 + (1:Int)))))) (some (y1)))
def F47_l1 (x0:List Account) (x1:List Account):Nat→Bool→Int→Option (Bool)
  | 0,_,_=>none
  | n1 + 1,y1,y2 =>
    let k1:Bool→Int→Option (Bool):=F47_l1 x0 x1 n1
    (cond (decide (y2<(x0.length:Int))) (F47_j1 k1 x0 x1 y1 y2 y1) (F47_j1 k1 x0 x1 y1 y2 false))
def F47 (fuel:Nat) (x0:List Account) (x1:List Account):Option (Bool) :=
  (F47_l1 x0 x1 fuel ((x0.length:Int) == (x1.length:Int)) 0)
set_option maxRecDepth 100000 in
theorem f47_ok (fuel:Nat) (x0:List Account) (x1:List Account) (r:Bool) (hr:F47 fuel x0 x1=some r) (h:Zone) (L:List Atom) (w:World) (hS:St h L w) (o_x0:Option Addr) (c_x0:Nat) (hx_x0:SliceR AccountT h o_x0 c_x0 x0) (o_x1:Option Addr) (c_x1:Nat) (hx_x1:SliceR AccountT h o_x1 c_x1 x1) :
    Calls Try.prog 47 #[.slice o_x0 x0.length c_x0, .slice o_x1 x1.length c_x1] w fun e w'=>∃v,e= .returned v∧(∃h',Zone.le h h'∧v= .bool r∧St h' L w'):=by
 refine calls_intro (N:=31) Try.func47 (by kernel_rfl) fun a hf=>?_
 refine c_sq [] [0,1] hf .nil fun a1 hf1=>?_
 refine c_sq [] [0,1,5] hf1 .nil fun a2 hf2=>?_
 refine c_seq ?_
 refine c_sq [] [0,1,5,6] hf2 .nil fun a3 hf3=>?_
 refine c_block 0 ?_
 refine c_loop (fun n a w=>∃z1:Zone,∃y1:Bool,∃y2:Int,Zone.le h z1∧Fr a 31 [(0, .slice o_x0 x0.length c_x0),(1, .slice o_x1 x1.length c_x1),(5, .bool y1),(6,vI y2)]∧St z1 (L) w∧(F47_l1 x0 x1 n y1 y2)=some r) fuel ⟨h,((x0.length:Int) == (x1.length:Int)),0,zr,hf3.to,hS,hr⟩ ?_
 rintro n2 a4 ww1 ⟨z1,y1,y2,k2,hf5,hS1,hr1⟩
 cases n2 with
 | zero=>cases hr1
 | succ n1 =>
 refine c_seq ?_
 refine c_mid (fun a w=>∃z2:Zone,∃y3:Bool,Zone.le z1 z2∧Fr a 31 [(0, .slice o_x0 x0.length c_x0),(1, .slice o_x1 x1.length c_x1),(5, .bool y1),(6,vI y2),(18, .bool y3)]∧St z2 (L) w∧(F47_j1 (F47_l1 x0 x1 n1) x0 x1 y1 y2 y3)=some r) ?_ ?_
 ·skip
  refine c_reg ?_
  refine c_n 5 [] [0,1,5,6,16] hf5 .nil fun a5 hf6=>?_
  rcases bft (decide (y2<(x0.length:Int))) with hb1 | hb1
  ·have hr2:=cond_t hb1 hr1
   have hf7:=hf6.lit 16 hb1
   refine c_t [] [0,1,5,6,18] hf7 .nil fun a6 hf8=>?_
   exact ⟨z1,y1,zr,hf8.to,hS1,hr2⟩
  ·have hr3:=cond_f hb1 hr1
   have hf10:=hf6.lit 16 hb1
   refine c_t [] [0,1,5,6,18] hf10 .nil fun a7 hf11=>?_
   exact ⟨z1,false,zr,hf11.to,hS1,hr3⟩
 ·rintro a8 ww2 ⟨z2,y3,k3,hf13,hS2,hr4⟩
  refine c_if y3 hf13 (fun hb2=>?_) (fun hb2=>?_)
  ·have hr5:=cond_t hb2 hr4
   refine c_skip ?_
   refine n_then ?_
   refine c_seq ?_
   refine c_block 1 ?_
   have hS3:=hS2.drew
   obtain ⟨p1,hp1018,hr6⟩:=bind_some hr5
   obtain ⟨ad1,ho1,hb3,cc1,hc1,hk1⟩:=SliceR.getI (SliceR.mono (zt k2 k3) hx_x0) hp1018
   subst hc1
   obtain ⟨p2,hp1027,hr7⟩:=bind_some hr6
   obtain ⟨ad2,ho2,hb4,cc2,hc2,hk2⟩:=SliceR.getI (SliceR.mono (zt k2 k3) hx_x1) hp1027
   subst hc2
   refine c_qD [(0,true),(1,true),(2,true),(3,true),(4,true),(5,true),(6,true),(7,true),(8,true),(9,true)] [] [.pointer (some ad1),vI p1.lot,vI p1.poured,vI p1.drawn,vI p1.lost,vI p1.left, .pointer (some ad2),vI p2.lot,vI p2.poured,vI p2.drawn,vI p2.lost,vI p2.left] [0,1,5,6] hf13 (.prop ho1 (.prop hb3 (.cell (hS3.cell (hk1 0 _ rfl)) (.cell (hS3.cell (hk1 1 _ rfl)) (.cell (hS3.cell (hk1 2 _ rfl)) (.cell (hS3.cell (hk1 3 _ rfl)) (.cell (hS3.cell (hk1 4 _ rfl)) (.prop ho2 (.prop hb4 (.cell (hS3.cell (hk2 0 _ rfl)) (.cell (hS3.cell (hk2 1 _ rfl)) (.cell (hS3.cell (hk2 2 _ rfl)) (.cell (hS3.cell (hk2 3 _ rfl)) (.cell (hS3.cell (hk2 4 _ rfl)) .nil)))))))))))))) .nil fun a9 hf14=>?_
   refine n_block ?_
   refine n_then ?_
   refine c_q [] [0,1,5,6] hf14 .nil fun a10 hf15=>?_
   refine n_then ?_
   exact ⟨n1,Nat.lt_succ_self n1,z2,((p1.lot == p2.lot) && ((p1.poured == p2.poured) && ((p1.drawn == p2.drawn) && ((p1.lost == p2.lost) && ((p1.left == p2.left) && true))))),(w64 (y2 + (1:Int))),(zt k2 k3),hf15.to,hS3,hr7⟩
  ·have hr8:=cond_f hb2 hr4
   refine c_exit 0 ?_
   refine x_then ?_
   refine x_then ?_
   refine x_block ?_
   refine n_then ?_
   refine c_sq [] [4] hf13 .nil fun a11 hf17=>?_
   refine c_ret ?_
   refine c_rt [] (.bool y1) hf17 .nil ?_
   obtain rfl:=some_eq hr8
   exact ⟨_,rfl,z2,(zt k2 k3),rfl,hS2⟩
def F43_j3 (fuel:Nat) (y1:Int) (y2:Int) (r1:List Lot×List Deed) (r2:Int) (y3:List Lot) (y4:Bool):Option (List Lot×List Deed) :=
  (cond y4 ((F35 fuel y1 (r1.2.length:Int)).bind fun r3=>(cond (r2 == (3:Int)) ((getI r1.2 r3).bind fun p1=>((setI r1.2 r3 ({ p1 with kind:=y2 })).bind fun d1=>(some (y3,d1)))) (cond (r2 == (4:Int)) ((getI r1.2 r3).bind fun p2=>((setI r1.2 r3 ({ p2 with lot:=y2 })).bind fun d2=>(some (y3,d2)))) (cond (r2 == (5:Int)) ((getI r1.2 r3).bind fun p3=>((setI r1.2 r3 ({ p3 with frm:=y2 })).bind fun d3=>(some (y3,d3)))) (cond (r2 == (6:Int)) ((getI r1.2 r3).bind fun p4=>((setI r1.2 r3 ({ p4 with to:=y2 })).bind fun d4=>(some (y3,d4)))) (cond (r2 == (7:Int)) ((getI r1.2 r3).bind fun p5=>((setI r1.2 r3 ({ p5 with mass:=y2 })).bind fun d5=>(some (y3,d5)))) (cond (r2 == (8:Int)) ((subI r1.2 0 r3).bind fun d6=>((subI r1.2 (w64 (r3 + (1:Int))) (r1.2.length:Int)).bind fun d7=>((appC ([]) d6).bind fun d8=>((appC d8 d7).bind fun d9=>(some (y3,d9)))))) (some (y3,r1.2))))))))) (some (y3,r1.2)))
def F43_j1 (fuel:Nat) (y1:Int) (y2:Int) (r1:List Lot×List Deed) (r2:Int) (y3:List Lot):Option (List Lot×List Deed) :=
  (cond (decide ((r1.2.length:Int) > (0:Int))) (F43_j3 fuel y1 y2 r1 r2 y3 (decide (r2≥(3:Int)))) (F43_j3 fuel y1 y2 r1 r2 y3 false))
def F43_j2 (fuel:Nat) (y1:Int) (y2:Int) (r1:List Lot×List Deed) (r2:Int) (y5:Bool):Option (List Lot×List Deed) :=
  (cond y5 ((F35 fuel y1 (r1.1.length:Int)).bind fun r4=>(cond (r2 == (0:Int)) ((getI r1.1 r4).bind fun p6=>((setI r1.1 r4 ({ p6 with id:=y2 })).bind fun d10=>(F43_j1 fuel y1 y2 r1 r2 d10))) (cond (r2 == (1:Int)) ((getI r1.1 r4).bind fun p7=>((setI r1.1 r4 ({ p7 with owner:=y2 })).bind fun d11=>(F43_j1 fuel y1 y2 r1 r2 d11))) (cond (r2 == (2:Int)) ((getI r1.1 r4).bind fun p8=>((setI r1.1 r4 ({ p8 with wet:=y2 })).bind fun d12=>(F43_j1 fuel y1 y2 r1 r2 d12))) (F43_j1 fuel y1 y2 r1 r2 r1.1))))) (F43_j1 fuel y1 y2 r1 r2 r1.1))
def F43 (fuel:Nat) (x0:List A4) (x1:List A5) (y6:Int) (y1:Int) (y2:Int):Option (List Lot×List Deed) :=
  ((F37 fuel x0 x1).bind fun r1=>((F35 fuel y6 12).bind fun r2=>(cond (decide ((r1.1.length:Int) > (0:Int))) (F43_j2 fuel y1 y2 r1 r2 (decide (r2<(3:Int)))) (F43_j2 fuel y1 y2 r1 r2 false))))
set_option maxRecDepth 100000 in
theorem f43_ok (fuel:Nat) (x0:List A4) (x1:List A5) (y6:Int) (y1:Int) (y2:Int) (r:List Lot×List Deed) (hr:F43 fuel x0 x1 y6 y1 y2=some r) (h:Zone) (L:List Atom) (w:World) (hS:St h L w) (o_x0:Option Addr) (c_x0:Nat) (hx_x0:SliceR A4T h o_x0 c_x0 x0) (o_x1:Option Addr) (c_x1:Nat) (hx_x1:SliceR A5T h o_x1 c_x1 x1) :
    Calls Try.prog 43 #[.slice o_x0 x0.length c_x0, .slice o_x1 x1.length c_x1, .agg #[vI y6,vI y1,vI y2]] w fun e w'=>∃v,e= .returned v∧(∃h',∃o0:Option Addr,∃c0:Nat,∃o1:Option Addr,∃c1:Nat,Zone.le h h'∧v= .tuple #[.slice o0 r.1.length c0, .slice o1 r.2.length c1]∧St h' L w'∧SliceR LotT h' o0 c0 r.1∧SliceR DeedT h' o1 c1 r.2):=by
 refine calls_intro (N:=126) Try.func43 (by kernel_rfl) fun a hf=>?_
 refine c_sr ?_
 refine c_box [vI y6,vI y1,vI y2] 61 hS hf fun b1 ww1 a1 hS1 hf1=>⟨fun _=>trivial,?_⟩
 refine c_t [] [0,1,5] hf1 .nil fun a2 hf2=>?_
 refine c_sr ?_
 refine c_n 2 [] [5,14,15] hf2 .nil fun a3 hf3=>?_
 obtain ⟨r1,hd1,hr1⟩:=bind_some hr
 refine c_call hf3 (f37_ok fuel x0 x1 r1 hd1 h _ _ hS1 o_x0 c_x0 hx_x0 o_x1 c_x1 hx_x1) ?_
 rintro v1 ww2 a4 ⟨z1,e1,q1,e2,q2,k1,rfl,hS2⟩ hf4
 refine ⟨fun _=>trivial,?_⟩
 refine c_t [] [5,8,9] hf4 .nil fun a5 hf5=>?_
 refine c_sr ?_
 refine c_n (oC:=[.prop ((0:Int)≤0∧(0:Int)<(3:Nat)), .cell ⟨b1,0,none⟩ (vI y6)]) 2 [vI y6] [5,8,9,20] hf5 (.prop (by decide) (.cell (hS2.box (i:=2) rfl (j:=0) rfl) .nil)) fun a6 hf6=>?_
 obtain ⟨r2,hd2,hr2⟩:=bind_some hr1
 refine c_call hf6 (f35_ok fuel y6 12 r2 hd2 z1 _ _ hS2 ) ?_
 rintro v2 ww3 a7 ⟨rfl,hS3⟩ hf7
 refine ⟨fun _=>trivial,?_⟩
 refine c_t [] [5,8,9,10] hf7 .nil fun a8 hf8=>?_
 refine c_mid (fun a w=>∃z2:Zone,∃y3:List Lot,Zone.le z1 z2∧Fr a 126 [(5,pB b1 0),(8, .slice e1 y3.length q1),(9, .slice e2 r1.2.length q2),(10,vI r2)]∧St z2 (ownS LotT 33 e1 q1 y3::ownS DeedT 28 e2 q2 r1.2::box b1 [vI y6,vI y1,vI y2] 61::L) w∧y3.length=r1.1.length∧(F43_j1 fuel y1 y2 r1 r2 y3)=some r) ?_ ?_
 ·skip
  refine c_mid (fun a w=>∃z3:Zone,∃y5:Bool,Zone.le z1 z3∧Fr a 126 [(5,pB b1 0),(8, .slice e1 r1.1.length q1),(9, .slice e2 r1.2.length q2),(10,vI r2),(28, .bool y5)]∧St z3 (ownS LotT 33 e1 q1 r1.1::ownS DeedT 28 e2 q2 r1.2::box b1 [vI y6,vI y1,vI y2] 61::L) w∧(F43_j2 fuel y1 y2 r1 r2 y5)=some r) ?_ ?_
  ·skip
   refine c_reg ?_
   refine c_n 4 [] [5,8,9,10,25] hf8 .nil fun a9 hf9=>?_
   rcases bft (decide ((r1.1.length:Int) > (0:Int))) with hb1 | hb1
   ·have hr3:=cond_t hb1 hr2
    have hf10:=hf9.lit 25 hb1
    refine c_t [] [5,8,9,10,28] hf10 .nil fun a10 hf11=>?_
    exact ⟨z1,(decide (r2<(3:Int))),zr,hf11.to,hS3,hr3⟩
   ·have hr4:=cond_f hb1 hr2
    have hf13:=hf9.lit 25 hb1
    refine c_t [] [5,8,9,10,28] hf13 .nil fun a11 hf14=>?_
    exact ⟨z1,false,zr,hf14.to,hS3,hr4⟩
  ·rintro a12 ww4 ⟨z3,y5,k2,hf16,hS4,hr5⟩
   refine c_if y5 hf16 (fun hb2=>?_) (fun hb2=>?_)
   ·have hr6:=cond_t hb2 hr5
    refine c_sr ?_
    refine c_n (oC:=[.prop ((0:Int)≤1∧(1:Int)<(3:Nat)), .cell ⟨b1,1,none⟩ (vI y1)]) 4 [vI y1] [5,8,9,10,30,32] hf16 (.prop (by decide) (.cell (hS4.box (i:=2) rfl (j:=1) rfl) .nil)) fun a13 hf17=>?_
    obtain ⟨r4,hd3,hr7⟩:=bind_some hr6
    refine c_call hf17 (f35_ok fuel y1 (r1.1.length:Int) r4 hd3 z3 _ _ hS4 ) ?_
    rintro v3 ww5 a14 ⟨rfl,hS5⟩ hf18
    refine ⟨fun _=>trivial,?_⟩
    refine c_t [] [5,8,9,10,11] hf18 .nil fun a15 hf19=>?_
    refine c_sq [] [5,8,9,10,11,34] hf19 .nil fun a16 hf20=>?_
    refine c_block 0 ?_
    refine c_sq [] [5,8,9,10,11,34,35] hf20 .nil fun a17 hf21=>?_
    refine c_if (r2 == (0:Int)) hf21 (fun hb3=>?_) (fun hb3=>?_)
    ·have hr8:=cond_t hb3 hr7
     refine c_reg ?_
     obtain ⟨p6,hp541,hr9⟩:=bind_some hr8
     obtain ⟨ad1,ho1,hb4,cc1,hc1,hk1⟩:=hS5.ownGet (j:=0) rfl hp541
     subst hc1
     refine c_n (oC:=[.prop ((0:Int)≤2∧(2:Int)<(3:Nat)), .cell ⟨b1,2,none⟩ (vI y2), .prop (e1=some ad1), .prop (0≤r4∧r4<(r1.1.length:Nat))]) 6 [vI y2, .pointer (some ad1)] [5,8,9,10,40,42] hf21 (.prop (by decide) (.cell (hS5.box (i:=2) rfl (j:=2) rfl) (.prop ho1 (.prop hb4 .nil)))) fun a18 hf22=>?_
     obtain ⟨d10,hd4,hr10⟩:=bind_some hr9
     have hl1:=setI_len hd4
     refine p_setOwn (i:=6) (j:=0) (ad:=ad1) (ix:=r4) (off:=0) (vs:=[vI y2]) (x':=({ p6 with id:=y2 })) hS5 hf22 rfl ho1 hp541 (by kernel_rfl) (by kernel_rfl) rfl hd4 fun ww6 a19 hS6 hf23=>?_
     have hf24:=Fr.conv (fl':=[(5,pB b1 0),(8, .slice e1 d10.length q1),(9, .slice e2 r1.2.length q2),(10,vI r2),(40,vI y2),(42, .pointer (some (ad1.add (Int.toNat r4 * 4))))]) hf23 (by rw [hl1] <;> kernel_rfl)
     refine ⟨fun _=>trivial,?_⟩
     refine c_done ?_
     refine n_block ?_
     refine n_then ?_
     exact ⟨z3,d10,k2,hf24.to,hS6,hl1.symm,hr10⟩
    ·have hr11:=cond_f hb3 hr7
     refine c_sq [] [5,8,9,10,11,34,43] hf21 .nil fun a20 hf26=>?_
     refine c_if (r2 == (1:Int)) hf26 (fun hb5=>?_) (fun hb5=>?_)
     ·have hr12:=cond_t hb5 hr11
      refine c_reg ?_
      obtain ⟨p7,hp567,hr13⟩:=bind_some hr12
      obtain ⟨ad2,ho2,hb6,cc2,hc2,hk2⟩:=hS5.ownGet (j:=0) rfl hp567
      subst hc2
      refine c_n (oC:=[.prop ((0:Int)≤2∧(2:Int)<(3:Nat)), .cell ⟨b1,2,none⟩ (vI y2), .prop (e1=some ad2), .prop (0≤r4∧r4<(r1.1.length:Nat))]) 6 [vI y2, .pointer (some ad2)] [5,8,9,10,48,50] hf26 (.prop (by decide) (.cell (hS5.box (i:=2) rfl (j:=2) rfl) (.prop ho2 (.prop hb6 .nil)))) fun a21 hf27=>?_
      obtain ⟨d11,hd5,hr14⟩:=bind_some hr13
      have hl2:=setI_len hd5
      refine p_setOwn (i:=6) (j:=0) (ad:=ad2) (ix:=r4) (off:=1) (vs:=[vI y2]) (x':=({ p7 with owner:=y2 })) hS5 hf27 rfl ho2 hp567 (by kernel_rfl) (by kernel_rfl) rfl hd5 fun ww7 a22 hS7 hf28=>?_
      have hf29:=Fr.conv (fl':=[(5,pB b1 0),(8, .slice e1 d11.length q1),(9, .slice e2 r1.2.length q2),(10,vI r2),(48,vI y2),(50, .pointer (some ((ad2.add (Int.toNat r4 * 4)).add 1)))]) hf28 (by rw [hl2] <;> kernel_rfl)
      refine ⟨fun _=>trivial,?_⟩
      refine c_done ?_
      refine n_block ?_
      refine n_then ?_
      exact ⟨z3,d11,k2,hf29.to,hS7,hl2.symm,hr14⟩
     ·have hr15:=cond_f hb5 hr11
      refine c_sq [] [5,8,9,10,11,51] hf26 .nil fun a23 hf31=>?_
      refine c_if (r2 == (2:Int)) hf31 (fun hb7=>?_) (fun hb7=>?_)
      ·have hr16:=cond_t hb7 hr15
       refine c_reg ?_
       obtain ⟨p8,hp593,hr17⟩:=bind_some hr16
       obtain ⟨ad3,ho3,hb8,cc3,hc3,hk3⟩:=hS5.ownGet (j:=0) rfl hp593
       subst hc3
       refine c_n (oC:=[.prop ((0:Int)≤2∧(2:Int)<(3:Nat)), .cell ⟨b1,2,none⟩ (vI y2), .prop (e1=some ad3), .prop (0≤r4∧r4<(r1.1.length:Nat))]) 6 [vI y2, .pointer (some ad3)] [5,8,9,10,56,58] hf31 (.prop (by decide) (.cell (hS5.box (i:=2) rfl (j:=2) rfl) (.prop ho3 (.prop hb8 .nil)))) fun a24 hf32=>?_
       obtain ⟨d12,hd6,hr18⟩:=bind_some hr17
       have hl3:=setI_len hd6
       refine p_setOwn (i:=6) (j:=0) (ad:=ad3) (ix:=r4) (off:=3) (vs:=[vI y2]) (x':=({ p8 with wet:=y2 })) hS5 hf32 rfl ho3 hp593 (by kernel_rfl) (by kernel_rfl) rfl hd6 fun ww8 a25 hS8 hf33=>?_
       have hf34:=Fr.conv (fl':=[(5,pB b1 0),(8, .slice e1 d12.length q1),(9, .slice e2 r1.2.length q2),(10,vI r2),(56,vI y2),(58, .pointer (some ((ad3.add (Int.toNat r4 * 4)).add 3)))]) hf33 (by rw [hl3] <;> kernel_rfl)
       refine ⟨fun _=>trivial,?_⟩
       refine c_done ?_
       refine n_block ?_
       refine n_then ?_
       exact ⟨z3,d12,k2,hf34.to,hS8,hl3.symm,hr18⟩
      ·have hr19:=cond_f hb7 hr15
       refine c_skip ?_
       refine n_block ?_
       refine n_then ?_
       exact ⟨z3,r1.1,k2,hf31.to,hS5,rfl,hr19⟩
   ·have hr20:=cond_f hb2 hr5
    refine c_skip ?_
    refine n_then ?_
    exact ⟨z3,r1.1,k2,hf16.to,hS4,rfl,hr20⟩
 ·rintro a26 ww9 ⟨z2,y3,k3,hf38,hS9,hl4,hr21⟩
  refine c_seq ?_
  refine c_mid (fun a w=>∃z4:Zone,∃y4:Bool,Zone.le z2 z4∧Fr a 126 [(5,pB b1 0),(8, .slice e1 y3.length q1),(9, .slice e2 r1.2.length q2),(10,vI r2),(65, .bool y4)]∧St z4 (ownS LotT 33 e1 q1 y3::ownS DeedT 28 e2 q2 r1.2::box b1 [vI y6,vI y1,vI y2] 61::L) w∧(F43_j3 fuel y1 y2 r1 r2 y3 y4)=some r) ?_ ?_
  ·skip
   refine c_reg ?_
   refine c_n 4 [] [5,8,9,10,62] hf38 .nil fun a27 hf39=>?_
   rcases bft (decide ((r1.2.length:Int) > (0:Int))) with hb9 | hb9
   ·have hr22:=cond_t hb9 hr21
    have hf40:=hf39.lit 62 hb9
    refine c_t [] [5,8,9,10,65] hf40 .nil fun a28 hf41=>?_
    exact ⟨z2,(decide (r2≥(3:Int))),zr,hf41.to,hS9,hr22⟩
   ·have hr23:=cond_f hb9 hr21
    have hf43:=hf39.lit 62 hb9
    refine c_t [] [5,8,9,10,65] hf43 .nil fun a29 hf44=>?_
    exact ⟨z2,false,zr,hf44.to,hS9,hr23⟩
  ·rintro a30 ww10 ⟨z4,y4,k4,hf46,hS10,hr24⟩
   refine c_if y4 hf46 (fun hb10=>?_) (fun hb10=>?_)
   ·have hr25:=cond_t hb10 hr24
    refine c_sr ?_
    refine c_n (oC:=[.prop ((0:Int)≤1∧(1:Int)<(3:Nat)), .cell ⟨b1,1,none⟩ (vI y1)]) 4 [vI y1] [5,8,9,10,67,69] hf46 (.prop (by decide) (.cell (hS10.box (i:=2) rfl (j:=1) rfl) .nil)) fun a31 hf47=>?_
    obtain ⟨r3,hd7,hr26⟩:=bind_some hr25
    refine c_call hf47 (f35_ok fuel y1 (r1.2.length:Int) r3 hd7 z4 _ _ hS10 ) ?_
    rintro v4 ww11 a32 ⟨rfl,hS11⟩ hf48
    refine ⟨fun _=>trivial,?_⟩
    refine c_t [] [5,8,9,10,12] hf48 .nil fun a33 hf49=>?_
    refine c_sq [] [5,8,9,12,71] hf49 .nil fun a34 hf50=>?_
    refine c_block 1 ?_
    refine c_sq [] [5,8,9,12,71,72] hf50 .nil fun a35 hf51=>?_
    refine c_if (r2 == (3:Int)) hf51 (fun hb11=>?_) (fun hb11=>?_)
    ·have hr27:=cond_t hb11 hr26
     refine c_reg ?_
     obtain ⟨p1,hp697,hr28⟩:=bind_some hr27
     obtain ⟨ad4,ho4,hb12,cc4,hc4,hk4⟩:=hS11.ownGet (j:=1) rfl hp697
     subst hc4
     refine c_n (oC:=[.prop ((0:Int)≤2∧(2:Int)<(3:Nat)), .cell ⟨b1,2,none⟩ (vI y2), .prop (e2=some ad4), .prop (0≤r3∧r3<(r1.2.length:Nat))]) 6 [vI y2, .pointer (some ad4)] [8,9,77,79] hf51 (.prop (by decide) (.cell (hS11.box (i:=2) rfl (j:=2) rfl) (.prop ho4 (.prop hb12 .nil)))) fun a36 hf52=>?_
     obtain ⟨d1,hd8,hr29⟩:=bind_some hr28
     have hl5:=setI_len hd8
     refine p_setOwn (i:=6) (j:=1) (ad:=ad4) (ix:=r3) (off:=0) (vs:=[vI y2]) (x':=({ p1 with kind:=y2 })) hS11 hf52 rfl ho4 hp697 (by kernel_rfl) (by kernel_rfl) rfl hd8 fun ww12 a37 hS12 hf53=>?_
     have hf54:=Fr.conv (fl':=[(8, .slice e1 y3.length q1),(9, .slice e2 d1.length q2),(77,vI y2),(79, .pointer (some (ad4.add (Int.toNat r3 * 5))))]) hf53 (by rw [hl5] <;> kernel_rfl)
     refine ⟨fun _=>trivial,?_⟩
     refine c_done ?_
     refine n_block ?_
     refine n_then ?_
     refine c_sq [] [6,7] hf54 .nil fun a38 hf55=>?_
     refine c_ret ?_
     obtain ⟨z5,k5,hS13,hx1⟩:=hS12.share (j:=0) rfl
     obtain ⟨z6,k6,hS14,hx2⟩:=hS13.share (j:=1) rfl
     refine c_rt [] (.tuple #[.slice e1 y3.length q1, .slice e2 d1.length q2]) hf55 .nil ?_
     obtain rfl:=some_eq hr29
     exact ⟨_,rfl,z6,e1,q1,e2,q2,(zt (zt (zt (zt k1 k3) k4) k5) k6),rfl,(St.drop 3 hS14),(SliceR.mono k6 hx1),hx2⟩
    ·have hr30:=cond_f hb11 hr26
     refine c_sq [] [5,8,9,12,71,80] hf51 .nil fun a39 hf56=>?_
     refine c_if (r2 == (4:Int)) hf56 (fun hb13=>?_) (fun hb13=>?_)
     ·have hr31:=cond_t hb13 hr30
      refine c_reg ?_
      obtain ⟨p2,hp732,hr32⟩:=bind_some hr31
      obtain ⟨ad5,ho5,hb14,cc5,hc5,hk5⟩:=hS11.ownGet (j:=1) rfl hp732
      subst hc5
      refine c_n (oC:=[.prop ((0:Int)≤2∧(2:Int)<(3:Nat)), .cell ⟨b1,2,none⟩ (vI y2), .prop (e2=some ad5), .prop (0≤r3∧r3<(r1.2.length:Nat))]) 6 [vI y2, .pointer (some ad5)] [8,9,85,87] hf56 (.prop (by decide) (.cell (hS11.box (i:=2) rfl (j:=2) rfl) (.prop ho5 (.prop hb14 .nil)))) fun a40 hf57=>?_
      obtain ⟨d2,hd9,hr33⟩:=bind_some hr32
      have hl6:=setI_len hd9
      refine p_setOwn (i:=6) (j:=1) (ad:=ad5) (ix:=r3) (off:=1) (vs:=[vI y2]) (x':=({ p2 with lot:=y2 })) hS11 hf57 rfl ho5 hp732 (by kernel_rfl) (by kernel_rfl) rfl hd9 fun ww13 a41 hS15 hf58=>?_
      have hf59:=Fr.conv (fl':=[(8, .slice e1 y3.length q1),(9, .slice e2 d2.length q2),(85,vI y2),(87, .pointer (some ((ad5.add (Int.toNat r3 * 5)).add 1)))]) hf58 (by rw [hl6] <;> kernel_rfl)
      refine ⟨fun _=>trivial,?_⟩
      refine c_done ?_
      refine n_block ?_
      refine n_then ?_
      refine c_sq [] [6,7] hf59 .nil fun a42 hf60=>?_
      refine c_ret ?_
      obtain ⟨z7,k7,hS16,hx3⟩:=hS15.share (j:=0) rfl
      obtain ⟨z8,k8,hS17,hx4⟩:=hS16.share (j:=1) rfl
      refine c_rt [] (.tuple #[.slice e1 y3.length q1, .slice e2 d2.length q2]) hf60 .nil ?_
      obtain rfl:=some_eq hr33
      exact ⟨_,rfl,z8,e1,q1,e2,q2,(zt (zt (zt (zt k1 k3) k4) k7) k8),rfl,(St.drop 3 hS17),(SliceR.mono k8 hx3),hx4⟩
     ·have hr34:=cond_f hb13 hr30
      refine c_sq [] [5,8,9,12,71,88] hf56 .nil fun a43 hf61=>?_
      refine c_if (r2 == (5:Int)) hf61 (fun hb15=>?_) (fun hb15=>?_)
      ·have hr35:=cond_t hb15 hr34
       refine c_reg ?_
       obtain ⟨p3,hp767,hr36⟩:=bind_some hr35
       obtain ⟨ad6,ho6,hb16,cc6,hc6,hk6⟩:=hS11.ownGet (j:=1) rfl hp767
       subst hc6
       refine c_n (oC:=[.prop ((0:Int)≤2∧(2:Int)<(3:Nat)), .cell ⟨b1,2,none⟩ (vI y2), .prop (e2=some ad6), .prop (0≤r3∧r3<(r1.2.length:Nat))]) 6 [vI y2, .pointer (some ad6)] [8,9,93,95] hf61 (.prop (by decide) (.cell (hS11.box (i:=2) rfl (j:=2) rfl) (.prop ho6 (.prop hb16 .nil)))) fun a44 hf62=>?_
       obtain ⟨d3,hd10,hr37⟩:=bind_some hr36
       have hl7:=setI_len hd10
       refine p_setOwn (i:=6) (j:=1) (ad:=ad6) (ix:=r3) (off:=2) (vs:=[vI y2]) (x':=({ p3 with frm:=y2 })) hS11 hf62 rfl ho6 hp767 (by kernel_rfl) (by kernel_rfl) rfl hd10 fun ww14 a45 hS18 hf63=>?_
       have hf64:=Fr.conv (fl':=[(8, .slice e1 y3.length q1),(9, .slice e2 d3.length q2),(93,vI y2),(95, .pointer (some ((ad6.add (Int.toNat r3 * 5)).add 2)))]) hf63 (by rw [hl7] <;> kernel_rfl)
       refine ⟨fun _=>trivial,?_⟩
       refine c_done ?_
       refine n_block ?_
       refine n_then ?_
       refine c_sq [] [6,7] hf64 .nil fun a46 hf65=>?_
       refine c_ret ?_
       obtain ⟨z9,k9,hS19,hx5⟩:=hS18.share (j:=0) rfl
       obtain ⟨z10,k10,hS20,hx6⟩:=hS19.share (j:=1) rfl
       refine c_rt [] (.tuple #[.slice e1 y3.length q1, .slice e2 d3.length q2]) hf65 .nil ?_
       obtain rfl:=some_eq hr37
       exact ⟨_,rfl,z10,e1,q1,e2,q2,(zt (zt (zt (zt k1 k3) k4) k9) k10),rfl,(St.drop 3 hS20),(SliceR.mono k10 hx5),hx6⟩
      ·have hr38:=cond_f hb15 hr34
       refine c_sq [] [5,8,9,12,71,96] hf61 .nil fun a47 hf66=>?_
       refine c_if (r2 == (6:Int)) hf66 (fun hb17=>?_) (fun hb17=>?_)
       ·have hr39:=cond_t hb17 hr38
        refine c_reg ?_
        obtain ⟨p4,hp802,hr40⟩:=bind_some hr39
        obtain ⟨ad7,ho7,hb18,cc7,hc7,hk7⟩:=hS11.ownGet (j:=1) rfl hp802
        subst hc7
        refine c_n (oC:=[.prop ((0:Int)≤2∧(2:Int)<(3:Nat)), .cell ⟨b1,2,none⟩ (vI y2), .prop (e2=some ad7), .prop (0≤r3∧r3<(r1.2.length:Nat))]) 6 [vI y2, .pointer (some ad7)] [8,9,101,103] hf66 (.prop (by decide) (.cell (hS11.box (i:=2) rfl (j:=2) rfl) (.prop ho7 (.prop hb18 .nil)))) fun a48 hf67=>?_
        obtain ⟨d4,hd11,hr41⟩:=bind_some hr40
        have hl8:=setI_len hd11
        refine p_setOwn (i:=6) (j:=1) (ad:=ad7) (ix:=r3) (off:=3) (vs:=[vI y2]) (x':=({ p4 with to:=y2 })) hS11 hf67 rfl ho7 hp802 (by kernel_rfl) (by kernel_rfl) rfl hd11 fun ww15 a49 hS21 hf68=>?_
        have hf69:=Fr.conv (fl':=[(8, .slice e1 y3.length q1),(9, .slice e2 d4.length q2),(101,vI y2),(103, .pointer (some ((ad7.add (Int.toNat r3 * 5)).add 3)))]) hf68 (by rw [hl8] <;> kernel_rfl)
        refine ⟨fun _=>trivial,?_⟩
        refine c_done ?_
        refine n_block ?_
        refine n_then ?_
        refine c_sq [] [6,7] hf69 .nil fun a50 hf70=>?_
        refine c_ret ?_
        obtain ⟨z11,k11,hS22,hx7⟩:=hS21.share (j:=0) rfl
        obtain ⟨z12,k12,hS23,hx8⟩:=hS22.share (j:=1) rfl
        refine c_rt [] (.tuple #[.slice e1 y3.length q1, .slice e2 d4.length q2]) hf70 .nil ?_
        obtain rfl:=some_eq hr41
        exact ⟨_,rfl,z12,e1,q1,e2,q2,(zt (zt (zt (zt k1 k3) k4) k11) k12),rfl,(St.drop 3 hS23),(SliceR.mono k12 hx7),hx8⟩
       ·have hr42:=cond_f hb17 hr38
        refine c_sq [] [5,8,9,12,71,104] hf66 .nil fun a51 hf71=>?_
        refine c_if (r2 == (7:Int)) hf71 (fun hb19=>?_) (fun hb19=>?_)
        ·have hr43:=cond_t hb19 hr42
         refine c_reg ?_
         obtain ⟨p5,hp837,hr44⟩:=bind_some hr43
         obtain ⟨ad8,ho8,hb20,cc8,hc8,hk8⟩:=hS11.ownGet (j:=1) rfl hp837
         subst hc8
         refine c_n (oC:=[.prop ((0:Int)≤2∧(2:Int)<(3:Nat)), .cell ⟨b1,2,none⟩ (vI y2), .prop (e2=some ad8), .prop (0≤r3∧r3<(r1.2.length:Nat))]) 6 [vI y2, .pointer (some ad8)] [8,9,109,111] hf71 (.prop (by decide) (.cell (hS11.box (i:=2) rfl (j:=2) rfl) (.prop ho8 (.prop hb20 .nil)))) fun a52 hf72=>?_
         obtain ⟨d5,hd12,hr45⟩:=bind_some hr44
         have hl9:=setI_len hd12
         refine p_setOwn (i:=6) (j:=1) (ad:=ad8) (ix:=r3) (off:=4) (vs:=[vI y2]) (x':=({ p5 with mass:=y2 })) hS11 hf72 rfl ho8 hp837 (by kernel_rfl) (by kernel_rfl) rfl hd12 fun ww16 a53 hS24 hf73=>?_
         have hf74:=Fr.conv (fl':=[(8, .slice e1 y3.length q1),(9, .slice e2 d5.length q2),(109,vI y2),(111, .pointer (some ((ad8.add (Int.toNat r3 * 5)).add 4)))]) hf73 (by rw [hl9] <;> kernel_rfl)
         refine ⟨fun _=>trivial,?_⟩
         refine c_done ?_
         refine n_block ?_
         refine n_then ?_
         refine c_sq [] [6,7] hf74 .nil fun a54 hf75=>?_
         refine c_ret ?_
         obtain ⟨z13,k13,hS25,hx9⟩:=hS24.share (j:=0) rfl
         obtain ⟨z14,k14,hS26,hx10⟩:=hS25.share (j:=1) rfl
         refine c_rt [] (.tuple #[.slice e1 y3.length q1, .slice e2 d5.length q2]) hf75 .nil ?_
         obtain rfl:=some_eq hr45
         exact ⟨_,rfl,z14,e1,q1,e2,q2,(zt (zt (zt (zt k1 k3) k4) k13) k14),rfl,(St.drop 3 hS26),(SliceR.mono k14 hx9),hx10⟩
        ·have hr46:=cond_f hb19 hr42
         refine c_sq [] [8,9,12,112] hf71 .nil fun a55 hf76=>?_
         refine c_if (r2 == (8:Int)) hf76 (fun hb21=>?_) (fun hb21=>?_)
         ·have hr47:=cond_t hb21 hr46
          obtain ⟨z15,k15,hS27,hx11⟩:=hS11.share (j:=1) rfl
          have hS28:=hS27.drew
          refine c_regD [(1,true),(2,true),(3,true),(5,true),(6,true),(7,true),(8,true),(0,false),(4,false),(9,false),(10,true)] [0,4,9] (fun x=>x=ww11.drew) rfl ?_
          obtain ⟨d6,hd13,hr48⟩:=bind_some hr47
          obtain ⟨e3,q3,hv1,hb22,hx12⟩:=SliceR.subV hx11 hd13
          obtain ⟨d7,hd14,hr49⟩:=bind_some hr48
          obtain ⟨e4,q4,hv2,hb23,hx13⟩:=SliceR.subV hx11 hd14
          refine c_E 7 [.slice e3 d6.length q3, .slice e4 d7.length q4] [8,117,122] hf76 (.prop hv1 (.prop hb22 (.prop hv2 (.prop hb23 .nil)))) .nil fun a56 hf77=>?_
          refine p_box (i:=0) (d:=(some 114)) (cs:=[]) (T:=28) (v:=fun b2=> .slice (some ⟨b2,0,none⟩) 0 0) hS28 hf77 (fun b=>by kernel_rfl) fun b2 ww17 a57 hS29 hf78=>⟨fun e=>absurd e (by decide),?_⟩
          have hS30:=hS29.ownBox (T:=DeedT) (E:=28) (n:=0) (xs:=[]) (i:=0) rfl rfl rfl (by decide)
          obtain ⟨d8,hd15,hr50⟩:=bind_some hr49
          refine p_append (T:=DeedT) (i:=4) (j:=0) (d:=some 118) (o2:=e3) (c2:=q3) (ys:=d6) el64 hS30 hf78 rfl (by kernel_rfl) (SliceR.src hx12 hS30) hd15 fun e5 q5 ww18 a58 hS31 hf79=>⟨fun e=>absurd e (by decide),?_⟩
          obtain ⟨d9,hd16,hr51⟩:=bind_some hr50
          refine p_append (T:=DeedT) (i:=9) (j:=0) (d:=some 123) (o2:=e4) (c2:=q4) (ys:=d7) el64 hS31 hf79 rfl (by kernel_rfl) (SliceR.src hx13 hS31) hd16 fun e6 q6 ww19 a59 hS32 hf80=>⟨fun e=>absurd e (by decide),?_⟩
          refine p_qP 1 [] [(8, .slice e1 y3.length q1),(9, .slice e6 d9.length q6)] [] hf80 (by kernel_rfl) (fun _=> .nil) fun a60 hf81=>?_
          refine c_done ?_
          refine n_block ?_
          refine n_then ?_
          refine c_sq [] [6,7] hf81 .nil fun a61 hf82=>?_
          refine c_ret ?_
          obtain ⟨z16,k16,hS33,hx14⟩:=hS32.share (j:=1) rfl
          obtain ⟨z17,k17,hS34,hx15⟩:=hS33.share (j:=0) rfl
          refine c_rt [] (.tuple #[.slice e1 y3.length q1, .slice e6 d9.length q6]) hf82 .nil ?_
          obtain rfl:=some_eq hr51
          exact ⟨_,rfl,z17,e1,q1,e6,q6,(zt (zt (zt (zt (zt k1 k3) k4) k15) k16) k17),rfl,(St.drop 4 hS34),(SliceR.mono k17 hx14),hx15⟩
         ·have hr52:=cond_f hb21 hr46
          refine c_skip ?_
          refine n_block ?_
          refine n_then ?_
          refine c_sq [] [6,7] hf76 .nil fun a62 hf83=>?_
          refine c_ret ?_
          obtain ⟨z18,k18,hS35,hx16⟩:=hS11.share (j:=0) rfl
          obtain ⟨z19,k19,hS36,hx17⟩:=hS35.share (j:=1) rfl
          refine c_rt [] (.tuple #[.slice e1 y3.length q1, .slice e2 r1.2.length q2]) hf83 .nil ?_
          obtain rfl:=some_eq hr52
          exact ⟨_,rfl,z19,e1,q1,e2,q2,(zt (zt (zt (zt k1 k3) k4) k18) k19),rfl,(St.drop 3 hS36),(SliceR.mono k19 hx16),hx17⟩
   ·have hr53:=cond_f hb10 hr24
    refine c_skip ?_
    refine n_then ?_
    refine c_sq [] [6,7] hf46 .nil fun a63 hf84=>?_
    refine c_ret ?_
    obtain ⟨z20,k20,hS37,hx18⟩:=hS10.share (j:=0) rfl
    obtain ⟨z21,k21,hS38,hx19⟩:=hS37.share (j:=1) rfl
    refine c_rt [] (.tuple #[.slice e1 y3.length q1, .slice e2 r1.2.length q2]) hf84 .nil ?_
    obtain rfl:=some_eq hr53
    exact ⟨_,rfl,z21,e1,q1,e2,q2,(zt (zt (zt (zt k1 k3) k4) k20) k21),rfl,(St.drop 3 hS38),(SliceR.mono k21 hx18),hx19⟩
def F10_j1 (y1:Bool):Option (Bool) :=
  (some (y1))
def F10 (fuel:Nat) (x0l:List A4) (x0d:List A5) (x0c0:Int) (x0c1:Int) (x0c2:Int):Option (Bool) :=
  ((F16 fuel ).bind fun r1=>((F43 fuel x0l x0d x0c0 x0c1 x0c2).bind fun r2=>((F38 fuel r2.1 r2.2).bind fun r3=>((F44 fuel r2.1 r2.2).bind fun r4=>((F45 fuel r2.1 r2.2).bind fun r5=>((F46 fuel r2.1 r2.2).bind fun r6=>((F29 fuel r3.1 r3.2.1 r4.1 r4.2.1).bind fun r7=>((F47 fuel r5.1 r6.1).bind fun r8=>(cond r1 (cond r7 (cond r8 (cond (r3.2.2.1 == r4.2.2.1) (cond (r3.2.2.2 == r4.2.2.2) (F10_j1 (r5.2 == r6.2)) (F10_j1 false)) (F10_j1 false)) (F10_j1 false)) (F10_j1 false)) (F10_j1 false))))))))))
set_option maxRecDepth 100000 in
theorem f10_ok (fuel:Nat) (x0l:List A4) (x0d:List A5) (x0c0:Int) (x0c1:Int) (x0c2:Int) (r:Bool) (hr:F10 fuel x0l x0d x0c0 x0c1 x0c2=some r) (h:Zone) (L:List Atom) (w:World) (hS:St h L w) (o_x0l:Option Addr) (c_x0l:Nat) (hx_x0l:SliceR A4T h o_x0l c_x0l x0l) (o_x0d:Option Addr) (c_x0d:Nat) (hx_x0d:SliceR A5T h o_x0d c_x0d x0d) :
    Calls Try.prog 10 #[.agg #[.slice o_x0l x0l.length c_x0l, .slice o_x0d x0d.length c_x0d,vI x0c0,vI x0c1,vI x0c2]] w fun e w'=>∃v,e= .returned v∧(∃h',Zone.le h h'∧v= .bool r∧St h' L w'):=by
 refine calls_intro (N:=83) Try.func10 (by kernel_rfl) fun a hf=>?_
 refine c_sr ?_
 refine c_box [.slice o_x0l x0l.length c_x0l, .slice o_x0d x0d.length c_x0d,vI x0c0,vI x0c1,vI x0c2] 63 hS hf fun b1 ww1 a1 hS1 hf1=>⟨fun _=>trivial,?_⟩
 refine c_t [] [1] hf1 .nil fun a2 hf2=>?_
 refine c_sr ?_
 obtain ⟨r1,hd1,hr1⟩:=bind_some hr
 refine c_call hf2 (f16_ok fuel  r1 hd1 h _ _ hS1 ) ?_
 rintro v1 ww2 a3 ⟨z1,k1,rfl,hS2⟩ hf3
 refine ⟨fun _=>trivial,?_⟩
 refine c_t [] [1,3] hf3 .nil fun a4 hf4=>?_
 refine c_sr ?_
 refine c_n 6 [.slice o_x0l x0l.length c_x0l, .slice o_x0d x0d.length c_x0d,vI x0c0,vI x0c1,vI x0c2] [3,21,23,25] hf4 (.cell (hS2.box (i:=0) rfl (j:=0) rfl) (.cell (hS2.box (i:=0) rfl (j:=1) rfl) (.cell (hS2.box (i:=0) rfl (j:=2) rfl) (.cell (hS2.box (i:=0) rfl (j:=3) rfl) (.cell (hS2.box (i:=0) rfl (j:=4) rfl) .nil))))) fun a5 hf5=>?_
 obtain ⟨r2,hd2,hr2⟩:=bind_some hr1
 refine c_call hf5 (f43_ok fuel x0l x0d x0c0 x0c1 x0c2 r2 hd2 z1 _ _ hS2 o_x0l c_x0l (SliceR.mono k1 hx_x0l) o_x0d c_x0d (SliceR.mono k1 hx_x0d)) ?_
 rintro v2 ww3 a6 ⟨z2,e1,q1,e2,q2,k2,rfl,hS3,hx1,hx2⟩ hf6
 refine ⟨fun _=>trivial,?_⟩
 refine c_t [] [3,4,5] hf6 .nil fun a7 hf7=>?_
 refine c_sr ?_
 refine c_n 2 [] [3,4,5,30,31] hf7 .nil fun a8 hf8=>?_
 obtain ⟨r3,hd3,hr3⟩:=bind_some hr2
 refine c_call hf8 (f38_ok fuel r2.1 r2.2 r3 hd3 z2 _ _ hS3 e1 q1 hx1 e2 q2 hx2) ?_
 rintro v3 ww4 a9 ⟨z3,e3,q3,v4,v5,v6,v7,v8,v9,v10,v11,v12,k3,rfl,hS4,hx3,hx4⟩ hf9
 refine ⟨fun _=>trivial,?_⟩
 refine c_n 4 [] [3,4,5,33,34,35] hf9 .nil fun a10 hf10=>?_
 refine c_box [.slice none 0 0, .slice none 0 0, .slice none 0 0, .slice none 0 0, .slice none 0 0, .slice none 0 0, .slice none 0 0, .slice none 0 0, .slice none 0 0, .slice none 0 0] 26 hS4 hf10 fun b2 ww5 a11 hS5 hf11=>⟨fun _=>trivial,?_⟩
 have hq1:=oneCells_of (Ty.one _ (Ty.mono _ zr hx4))
 refine p_store_eq (i:=8) (j:=0) (b:=b2) (off:=0) (vs:=[.slice e3 r3.1.length q3,v4,v5,v6,v7,v8,v9,v10,v11,v12]) (cs':=[.slice e3 r3.1.length q3,v4,v5,v6,v7,v8,v9,v10,v11,v12]) hS5 hf11 rfl (by kernel_rfl) hq1 rfl fun ww6 a12 hS6 hf12=>⟨fun _=>trivial,?_⟩
 refine c_t [] [3,4,5,6,7,8] hf12 .nil fun a13 hf13=>?_
 refine c_sr ?_
 refine c_n 2 [] [3,4,5,6,7,8,37,38] hf13 .nil fun a14 hf14=>?_
 obtain ⟨r4,hd4,hr4⟩:=bind_some hr3
 refine c_call hf14 (f44_ok fuel r2.1 r2.2 r4 hd4 z3 _ _ hS6 e1 q1 (SliceR.mono k3 hx1) e2 q2 (SliceR.mono k3 hx2)) ?_
 rintro v13 ww7 a15 ⟨z4,e4,q4,v14,v15,v16,v17,v18,v19,v20,v21,v22,k4,rfl,hS7,hx5,hx6⟩ hf15
 refine ⟨fun _=>trivial,?_⟩
 refine c_n 4 [] [3,4,5,6,7,8,40,41,42] hf15 .nil fun a16 hf16=>?_
 refine c_box [.slice none 0 0, .slice none 0 0, .slice none 0 0, .slice none 0 0, .slice none 0 0, .slice none 0 0, .slice none 0 0, .slice none 0 0, .slice none 0 0, .slice none 0 0] 26 hS7 hf16 fun b3 ww8 a17 hS8 hf17=>⟨fun _=>trivial,?_⟩
 have hq2:=oneCells_of (Ty.one _ (Ty.mono _ zr hx6))
 refine p_store_eq (i:=8) (j:=0) (b:=b3) (off:=0) (vs:=[.slice e4 r4.1.length q4,v14,v15,v16,v17,v18,v19,v20,v21,v22]) (cs':=[.slice e4 r4.1.length q4,v14,v15,v16,v17,v18,v19,v20,v21,v22]) hS8 hf17 rfl (by kernel_rfl) hq2 rfl fun ww9 a18 hS9 hf18=>⟨fun _=>trivial,?_⟩
 refine c_t [] [3,4,5,6,7,8,9,10,11] hf18 .nil fun a19 hf19=>?_
 refine c_sr ?_
 refine c_n 2 [] [3,4,5,6,7,8,9,10,11,44,45] hf19 .nil fun a20 hf20=>?_
 obtain ⟨r5,hd5,hr5⟩:=bind_some hr4
 refine c_call hf20 (f45_ok fuel r2.1 r2.2 r5 hd5 z4 _ _ hS9 e1 q1 (SliceR.mono (zt k3 k4) hx1) e2 q2 (SliceR.mono (zt k3 k4) hx2)) ?_
 rintro v23 ww10 a21 ⟨z5,e5,q5,k5,rfl,hS10,hx7⟩ hf21
 refine ⟨fun _=>trivial,?_⟩
 refine c_t [] [3,4,5,6,7,8,9,10,11,12,13] hf21 .nil fun a22 hf22=>?_
 refine c_sr ?_
 refine c_n 2 [] [3,6,7,8,9,10,11,12,13,50,51] hf22 .nil fun a23 hf23=>?_
 obtain ⟨r6,hd6,hr6⟩:=bind_some hr5
 refine c_call hf23 (f46_ok fuel r2.1 r2.2 r6 hd6 z5 _ _ hS10 e1 q1 (SliceR.mono (zt (zt k3 k4) k5) hx1) e2 q2 (SliceR.mono (zt (zt k3 k4) k5) hx2)) ?_
 rintro v24 ww11 a24 ⟨z6,e6,q6,k6,rfl,hS11,hx8⟩ hf24
 refine ⟨fun _=>trivial,?_⟩
 refine c_t [] [3,6,7,8,9,10,11,12,13,14,15] hf24 .nil fun a25 hf25=>?_
 refine c_sr ?_
 refine c_n 2 [.slice e3 r3.1.length q3,v4,v5,v6,v7,v8,v9,v10,v11,v12, .slice e4 r4.1.length q4,v14,v15,v16,v17,v18,v19,v20,v21,v22] [3,7,8,10,11,12,13,14,15,55,56] hf25 (.cell (hS11.box (i:=1) rfl (j:=0) rfl) (.cell (hS11.box (i:=1) rfl (j:=1) rfl) (.cell (hS11.box (i:=1) rfl (j:=2) rfl) (.cell (hS11.box (i:=1) rfl (j:=3) rfl) (.cell (hS11.box (i:=1) rfl (j:=4) rfl) (.cell (hS11.box (i:=1) rfl (j:=5) rfl) (.cell (hS11.box (i:=1) rfl (j:=6) rfl) (.cell (hS11.box (i:=1) rfl (j:=7) rfl) (.cell (hS11.box (i:=1) rfl (j:=8) rfl) (.cell (hS11.box (i:=1) rfl (j:=9) rfl) (.cell (hS11.box (i:=0) rfl (j:=0) rfl) (.cell (hS11.box (i:=0) rfl (j:=1) rfl) (.cell (hS11.box (i:=0) rfl (j:=2) rfl) (.cell (hS11.box (i:=0) rfl (j:=3) rfl) (.cell (hS11.box (i:=0) rfl (j:=4) rfl) (.cell (hS11.box (i:=0) rfl (j:=5) rfl) (.cell (hS11.box (i:=0) rfl (j:=6) rfl) (.cell (hS11.box (i:=0) rfl (j:=7) rfl) (.cell (hS11.box (i:=0) rfl (j:=8) rfl) (.cell (hS11.box (i:=0) rfl (j:=9) rfl) .nil)))))))))))))))))))) fun a26 hf26=>?_
 obtain ⟨r7,hd7,hr7⟩:=bind_some hr6
 refine c_call hf26 (f29_ok fuel r3.1 r3.2.1 r4.1 r4.2.1 r7 hd7 z6 _ _ hS11 e3 q3 (SliceR.mono (zt (zt k4 k5) k6) hx3) v4 v5 v6 v7 v8 v9 v10 v11 v12 (Ty.mono _ (zt (zt k4 k5) k6) hx4) e4 q4 (SliceR.mono (zt k5 k6) hx5) v14 v15 v16 v17 v18 v19 v20 v21 v22 (Ty.mono _ (zt k5 k6) hx6)) ?_
 rintro v25 ww12 a27 ⟨z7,k7,rfl,hS12⟩ hf27
 refine ⟨fun _=>trivial,?_⟩
 refine c_t [] [3,7,8,10,11,12,13,14,15,16] hf27 .nil fun a28 hf28=>?_
 refine c_sr ?_
 refine c_n 2 [] [3,7,8,10,11,13,15,16,58,59] hf28 .nil fun a29 hf29=>?_
 obtain ⟨r8,hd8,hr8⟩:=bind_some hr7
 refine c_call hf29 (f47_ok fuel r5.1 r6.1 r8 hd8 z7 _ _ hS12 e5 q5 (SliceR.mono (zt k6 k7) hx7) e6 q6 (SliceR.mono k7 hx8)) ?_
 rintro v26 ww13 a30 ⟨z8,k8,rfl,hS13⟩ hf30
 refine ⟨fun _=>trivial,?_⟩
 refine c_t [] [3,7,8,10,11,13,15,16,17] hf30 .nil fun a31 hf31=>?_
 refine c_mid (fun a w=>∃z9:Zone,∃y1:Bool,Zone.le z8 z9∧Fr a 83 [(2, .bool y1)]∧St z9 (box b3 [.slice e4 r4.1.length q4,v14,v15,v16,v17,v18,v19,v20,v21,v22] 26::box b2 [.slice e3 r3.1.length q3,v4,v5,v6,v7,v8,v9,v10,v11,v12] 26::box b1 [.slice o_x0l x0l.length c_x0l, .slice o_x0d x0d.length c_x0d,vI x0c0,vI x0c1,vI x0c2] 63::L) w∧(F10_j1 y1)=some r) ?_ ?_
 ·skip
  refine c_reg ?_
  refine c_n 2 [] [7,8,10,11,13,15,16,17,62] hf31 .nil fun a32 hf32=>?_
  rcases bft r1 with hb1 | hb1
  ·have hr9:=cond_t hb1 hr8
   have hf33:=hf32.lit 62 hb1
   refine c_n 3 [] [7,8,10,11,13,15,17,65] hf33 .nil fun a33 hf34=>?_
   rcases bft r7 with hb2 | hb2
   ·have hr10:=cond_t hb2 hr9
    have hf35:=hf34.lit 65 hb2
    refine c_n 3 [] [7,8,10,11,13,15,68] hf35 .nil fun a34 hf36=>?_
    rcases bft r8 with hb3 | hb3
    ·have hr11:=cond_t hb3 hr10
     have hf37:=hf36.lit 68 hb3
     refine c_n 5 [] [8,11,13,15,73] hf37 .nil fun a35 hf38=>?_
     rcases bft (r3.2.2.1 == r4.2.2.1) with hb4 | hb4
     ·have hr12:=cond_t hb4 hr11
      have hf39:=hf38.lit 73 hb4
      refine c_n 5 [] [13,15,78] hf39 .nil fun a36 hf40=>?_
      rcases bft (r3.2.2.2 == r4.2.2.2) with hb5 | hb5
      ·have hr13:=cond_t hb5 hr12
       have hf41:=hf40.lit 78 hb5
       refine c_t [] [2] hf41 .nil fun a37 hf42=>?_
       exact ⟨z8,(r5.2 == r6.2),zr,hf42.to,hS13,hr13⟩
      ·have hr14:=cond_f hb5 hr12
       have hf44:=hf40.lit 78 hb5
       refine c_t [] [2] hf44 .nil fun a38 hf45=>?_
       exact ⟨z8,false,zr,hf45.to,hS13,hr14⟩
     ·have hr15:=cond_f hb4 hr11
      have hf47:=hf38.lit 73 hb4
      refine c_t [] [2] hf47 .nil fun a39 hf48=>?_
      exact ⟨z8,false,zr,hf48.to,hS13,hr15⟩
    ·have hr16:=cond_f hb3 hr10
     have hf50:=hf36.lit 68 hb3
     refine c_t [] [2] hf50 .nil fun a40 hf51=>?_
     exact ⟨z8,false,zr,hf51.to,hS13,hr16⟩
   ·have hr17:=cond_f hb2 hr9
    have hf53:=hf34.lit 65 hb2
    refine c_t [] [2] hf53 .nil fun a41 hf54=>?_
    exact ⟨z8,false,zr,hf54.to,hS13,hr17⟩
  ·have hr18:=cond_f hb1 hr8
   have hf56:=hf32.lit 62 hb1
   refine c_t [] [2] hf56 .nil fun a42 hf57=>?_
   exact ⟨z8,false,zr,hf57.to,hS13,hr18⟩
 ·rintro a43 ww14 ⟨z9,y1,k9,hf59,hS14,hr19⟩
  refine c_ret ?_
  refine c_rt [] (.bool y1) hf59 .nil ?_
  obtain rfl:=some_eq hr19
  exact ⟨_,rfl,z9,(zt (zt (zt (zt (zt (zt (zt (zt k1 k2) k3) k4) k5) k6) k7) k8) k9),rfl,(St.drop 3 hS14)⟩
end Go.Proofs.Ytlmgjjmighajdaa
set_option linter.unusedSimpArgs false
set_option linter.unusedVariables false
namespace Go.Proofs.Ytlmgjjmighajdaa
open Go.Sl Go.Sx
theorem w64_id {n:Int} (h1: -9223372036854775808≤n) (h2:n≤9223372036854775807):w64 n=n:=by
  unfold w64 IntKind.wrap
  simp [IntKind.bits,IntKind.signed]
  omega
theorem succ_w {i:Nat} (h:i<4000000000):w64 ((i:Int) + 1)=((i + 1:Nat):Int):=by
  rw [w64_id (by omega) (by omega)]; simp
theorem pred_w {i:Nat} (h:i<4000000000) (h0:0<i):w64 ((i:Int) - 1)=((i - 1:Nat):Int):=by
  rw [w64_id (by omega) (by omega)]; omega
theorem sane_true:F16 200=some true:=by kernel_rfl
theorem loop_all {ρ:Type} {L:Nat→Int→Option ρ} {len:Nat} {good:Nat→Prop} {no yes:Option ρ}
    (h:∀n i,i<len→(good i∧L (n + 1) (i:Int)=L n ((i + 1:Nat):Int))∨(¬ good i∧L (n + 1) (i:Int)=no))
    (he:∀n,L (n + 1) (len:Int)=yes):∀n i,i≤len→len - i<n→((∀j,i≤j→j<len→good j)∧L n (i:Int)=yes)∨((¬ ∀j,i≤j→j<len→good j)∧L n (i:Int)=no)
  | 0,i,_,hn=>by omega
  | n + 1,i,hi,hn=>by
    rcases Nat.lt_or_ge i len with hlt | hge
    · rcases h n i hlt with ⟨hg,e⟩ | ⟨hg,e⟩
      · rw [e]
        rcases loop_all h he n (i + 1) (by omega) (by omega) with ⟨h1,h2⟩ | ⟨h1,h2⟩
        · exact .inl ⟨fun j hj hl=>by rcases Nat.eq_or_lt_of_le hj with e | e; exact e ▸ hg; exact h1 j e hl,h2⟩
        · exact .inr ⟨fun hall=>h1 fun j hj hl=>hall j (by omega) hl,h2⟩
      · exact .inr ⟨fun hall=>hg (hall i (Nat.le_refl _) hlt),e⟩
    · have:i=len:=by omega
      subst this
      exact .inl ⟨fun j hj hl=>by omega,he n⟩
theorem loop_all0 {ρ:Type} {L:Nat→Int→Option ρ} {len:Nat} {good:Nat→Prop} {no yes:Option ρ}
    (h:∀n i,i<len→(good i∧L (n + 1) (i:Int)=L n ((i + 1:Nat):Int))∨(¬ good i∧L (n + 1) (i:Int)=no))
    (he:∀n,L (n + 1) (len:Int)=yes) {n:Nat} (hn:len<n):((∀j,j<len→good j)∧L n 0=yes)∨((¬ ∀j,j<len→good j)∧L n 0=no):=by
  rcases loop_all h he n 0 (by omega) (by omega) with ⟨h1,h2⟩ | ⟨h1,h2⟩
  · exact .inl ⟨fun j hj=>h1 j (by omega) hj,h2⟩
  · exact .inr ⟨fun h=>h1 fun j _ hj=>h j hj,h2⟩
theorem getI_nat {α:Type} {xs:List α} {i:Nat} (h:i<xs.length):getI xs (i:Int)=some xs[i]:=getI_of h
theorem lt_len {i n:Nat}:decide ((i:Int)<(n:Int))=decide (i<n):=by
  by_cases h:i<n
  · have:(i:Int)<n:=by omega
    simp [h,this]
  · have:¬ (i:Int)<n:=by omega
    simp [h,this]
theorem F71_eq (f:Nat) (x a b:Int):F71 f x a b=some (decide (a≤x∧x≤b)):=by
  unfold F71 F71_j1
  by_cases h1:a≤x <;> by_cases h2:x≤b <;> simp [h1,h2]
theorem F72_eq (f:Nat) (x a b:Int):F72 f x a b=some (decide (a≤x∧x≤b)):=by
  unfold F72 F72_j1
  by_cases h1:a≤x <;> by_cases h2:x≤b <;> simp [h1,h2]
structure LotOk (l:Lot):Prop where
  id0:1≤l.id
  id1:l.id≤9999
  ow0:1≤l.owner
  ow1:l.owner≤9
  gr0:1≤l.grade
  gr1:l.grade≤9
  we0:0≤l.wet
  we1:l.wet≤10000
theorem F17_eq (f:Nat) (l:Lot):(LotOk l∧F17 f l.id l.owner l.grade l.wet=some 0)∨(¬ LotOk l∧F17 f l.id l.owner l.grade l.wet=some 60):=by
  unfold F17 F17_j1
  simp only [F71_eq,Option.bind_some]
  by_cases h1:1≤l.id∧l.id≤9999
  · by_cases h2:1≤l.owner∧l.owner≤9
    · by_cases h3:1≤l.grade∧l.grade≤9
      · by_cases h4:0≤l.wet∧l.wet≤10000
        · exact .inl ⟨⟨h1.1,h1.2,h2.1,h2.2,h3.1,h3.2,h4.1,h4.2⟩,by simp [h1,h2,h3,h4]⟩
        · exact .inr ⟨fun k=>h4 ⟨k.we0,k.we1⟩,by simp [h1,h2,h3,h4]⟩
      · exact .inr ⟨fun k=>h3 ⟨k.gr0,k.gr1⟩,by simp [h1,h2,h3]⟩
    · exact .inr ⟨fun k=>h2 ⟨k.ow0,k.ow1⟩,by simp [h1,h2]⟩
  · exact .inr ⟨fun k=>h1 ⟨k.id0,k.id1⟩,by simp [h1]⟩
theorem F18_17 (f:Nat) (a b c d:Int):F18 f a b c d=F17 f a b c d:=by
  unfold F18 F17 F18_j1 F17_j1
  simp only [F71_eq,F72_eq]
def LotsOk (l:List Lot):Prop:=l.length≤40∧(∀x∈l,LotOk x)∧l.Pairwise fun a b=>a.id<b.id
theorem pairs_of {α:Type} {r:α→α→Prop} (tr:∀a b c,r a b→r b c→r a c):∀ {l:List α},(∀j (h:j + 1<l.length),r l[j] l[j + 1])→l.Pairwise r
  | [],_=>List.Pairwise.nil
  | [_],_=>List.pairwise_singleton _ _
  | a::b::l,h=>by
    have ih:=pairs_of tr (l:=b::l) fun j hj=>h (j + 1) (by simpa using hj)
    refine List.pairwise_cons.2 ⟨fun c hc=>?_,ih⟩
    have h0:r a b:=h 0 (by simp)
    rcases List.mem_cons.1 hc with rfl | hc
    · exact h0
    · exact tr _ _ _ h0 ((List.pairwise_cons.1 ih).1 c hc)
theorem pairs_at {α:Type} {r:α→α→Prop}:∀ {l:List α},l.Pairwise r→∀ {i j:Nat} (hi:i<l.length) (hj:j<l.length),i<j→r l[i] l[j]:=by
  intro l hl i j hi hj hij
  exact List.pairwise_iff_getElem.1 hl i j hi hj hij
def adjL (l:List Lot) (j:Nat):Prop:=∀h:j<l.length,LotOk l[j]∧(0<j→l[j - 1].id<l[j].id)
theorem lotsOk_iff {l:List Lot} (h:l.length≤40):(∀j,j<l.length→adjL l j)↔LotsOk l:=by
  constructor
  · intro k
    refine ⟨h,fun x hx=>?_,pairs_of (fun a b c h1 h2=>by omega) fun j hj=>?_⟩
    · obtain ⟨j,hj,rfl⟩:=List.getElem_of_mem hx
      exact (k j hj hj).1
    · exact (k (j + 1) hj hj).2 (by omega)
  · rintro ⟨_,h1,h2⟩ j _ hj
    exact ⟨h1 _ (List.getElem_mem _),fun h0=>pairs_at h2 (by omega) hj (by omega)⟩
theorem F19_eq {f:Nat} {l:List Lot} (hf:40<f):(LotsOk l∧F19 f l=some 0)∨(¬ LotsOk l∧F19 f l=some 60):=by
  unfold F19
  by_cases h40:(l.length:Int) > 40
  · exact .inr ⟨fun k=>by have:=k.1; omega,by simp [h40]⟩
  · have h41:l.length≤40:=by omega
    simp only [h40,decide_false,cond_false]
    rw [← lotsOk_iff h41]
    refine loop_all0 (L:=F19_l1 f l) (len:=l.length) (fun n i hi=>?_) (fun n=>?_) (by omega)
    · simp only [F19_l1,lt_len,hi,decide_true,cond_true,getI_nat hi,Option.bind_some,F19_j1]
      rw [succ_w (by omega)]
      rcases F17_eq f l[i] with ⟨g1,e⟩ | ⟨g1,e⟩
      · rw [e]
        simp only [Option.bind_some]
        by_cases h0:0<i
        · have h0':(i:Int) > 0:=by omega
          simp only [h0',decide_true,pred_w (i:=i) (by omega) h0,getI_nat (show i - 1<l.length by omega),Option.bind_some]
          by_cases hg:l[i - 1].id≥l[i].id
          · exact .inr ⟨fun k=>by have:=(k hi).2 h0; omega,by simp [hg]⟩
          · exact .inl ⟨fun h=>⟨g1,fun _=>by omega⟩,by simp [hg]⟩
        · have h0':¬ (i:Int) > 0:=by omega
          exact .inl ⟨fun h=>⟨g1,fun k=>absurd k h0⟩,by simp [h0]⟩
      · exact .inr ⟨fun k=>g1 (k hi).1,by rw [e]; simp⟩
    · simp [F19_l1]
theorem F20_19 (f:Nat) (l:List Lot):F20 f l=F19 f l:=by
  unfold F20 F19
  have:∀n y,F20_l1 f l n y=F19_l1 f l n y:=by
    intro n
    induction n with
    | zero=>intro y; rfl
    | succ n ih =>
      intro y
      have ih':F20_l1 f l n=F19_l1 f l n:=funext ih
      simp only [F20_l1,F19_l1,ih',F20_j1,F19_j1,F18_17]
      cases h:getI l y with
      | none=>simp
      | some p=>simp
  rw [this]
def sumM (h:List Part):Int:=(h.map (·.mass)).sum
def sumH (l:List (List Part)):Int:=(l.map sumM).sum
structure PartOk (p:Part):Prop where
  l0:1≤p.lot
  l1:p.lot≤9999
  m0:1≤p.mass
  m1:p.mass≤100000000
def HeapOk (h:List Part):Prop:=h.length≤40∧(∀p∈h,PartOk p)∧(h.Pairwise fun a b=>a.lot<b.lot)∧sumM h≤100000000
def adjP (l:List Part) (j:Nat):Prop:=∀h:j<l.length,PartOk l[j]∧(0<j→l[j - 1].lot<l[j].lot)
theorem sum_app:∀(a b:List Int),(a ++ b).sum=a.sum + b.sum
  | [],b=>by simp
  | x::a,b=>by simp only [List.cons_append,List.sum_cons,sum_app a b]; omega
theorem sumM_app (a b:List Part):sumM (a ++ b)=sumM a + sumM b:=by unfold sumM; rw [List.map_append,sum_app]
theorem sumH_app (a b:List (List Part)):sumH (a ++ b)=sumH a + sumH b:=by unfold sumH; rw [List.map_append,sum_app]
theorem sumM_take {l:List Part} {i:Nat} (hi:i<l.length):sumM (l.take (i + 1))=sumM (l.take i) + l[i].mass:=by
  rw [List.take_succ_eq_append_getElem hi,sumM_app]
  simp [sumM]
theorem sumM_bound:∀ {l:List Part},(∀p∈l,PartOk p)→0≤sumM l∧sumM l≤100000000 * l.length
  | [],_=>by simp [sumM]
  | p::l,h=>by
    have ih:=sumM_bound (l:=l) fun q hq=>h q (List.mem_cons_of_mem _ hq)
    have hp:=h p (by simp)
    have:=hp.m0; have:=hp.m1
    simp only [sumM,List.map_cons,List.sum_cons,List.length_cons] at ih ⊢
    omega
theorem heapOk_iff {l:List Part} (h:l.length≤40):((∀j,j<l.length→adjP l j)∧sumM l≤100000000)↔HeapOk l:=by
  constructor
  · rintro ⟨k,hs⟩
    refine ⟨h,fun x hx=>?_,pairs_of (fun a b c h1 h2=>by omega) fun j hj=>?_,hs⟩
    · obtain ⟨j,hj,rfl⟩:=List.getElem_of_mem hx
      exact (k j hj hj).1
    · exact (k (j + 1) hj hj).2 (by omega)
  · rintro ⟨_,h1,h2,h3⟩
    exact ⟨fun j _ hj=>⟨h1 _ (List.getElem_mem _),fun h0=>pairs_at h2 (by omega) hj (by omega)⟩,h3⟩
theorem F73_loop {f:Nat} {l:List Part} (h40:l.length≤40):∀n i,i≤l.length→l.length - i<n→(∀j,j<i→adjP l j) →
    ((∀j,j<l.length→adjP l j)∧F73_l1 f l n (sumM (l.take i)) (i:Int)=some (decide (sumM l≤100000000)))∨((¬ ∀j,j<l.length→adjP l j)∧F73_l1 f l n (sumM (l.take i)) (i:Int)=some false)
  | 0,i,_,hn,_=>by omega
  | n + 1,i,hi,hn,hd=>by
    rcases Nat.lt_or_ge i l.length with hlt | hge
    · have hb:0≤sumM (l.take i)∧sumM (l.take i)≤100000000 * (l.take i).length:=sumM_bound fun p hp=>by
        obtain ⟨j,hj,rfl⟩:=List.getElem_of_mem hp
        simp only [List.length_take] at hj
        rw [List.getElem_take]
        exact (hd j (by omega) (by omega)).1
      have hb2:(l.take i).length≤40:=by rw [List.length_take]; omega
      have next:adjP l i→((∀j,j<l.length→adjP l j)∧F73_l1 f l n (w64 (sumM (l.take i) + l[i].mass)) (w64 ((i:Int) + 1))=some (decide (sumM l≤100000000)))∨((¬ ∀j,j<l.length→adjP l j)∧F73_l1 f l n (w64 (sumM (l.take i) + l[i].mass)) (w64 ((i:Int) + 1))=some false):=fun g=>by
        have gp:=(g hlt).1
        have:=gp.m0; have:=gp.m1
        rw [succ_w (by omega),w64_id (by omega) (by omega), ← sumM_take hlt]
        exact F73_loop h40 n (i + 1) (by omega) (by omega) fun j hj=>by
          rcases Nat.lt_or_ge j i with h | h
          · exact hd j h
          · have:j=i:=by omega
            subst this; exact g
      simp only [F73_l1,lt_len,hlt,decide_true,cond_true,getI_nat hlt,Option.bind_some,F73_j1,F71_eq]
      by_cases h1:1≤l[i].lot∧l[i].lot≤9999
      · by_cases h2:1≤l[i].mass∧l[i].mass≤100000000
        · by_cases h0:0<i
          · have h0':(i:Int) > 0:=by omega
            simp only [h1,h2,h0',and_self,decide_true,Bool.not_true,cond_false,cond_true,pred_w (i:=i) (by omega) h0,getI_nat (show i - 1<l.length by omega),Option.bind_some]
            by_cases hg:l[i - 1].lot≥l[i].lot
            · exact .inr ⟨fun k=>by have:=(k i hlt hlt).2 h0; omega,by simp [hg]⟩
            · simp only [hg,decide_false,cond_false]
              exact next fun h=>⟨⟨h1.1,h1.2,h2.1,h2.2⟩,fun _=>by omega⟩
          · have h0':¬ (i:Int) > 0:=by omega
            simp only [h1,h2,h0',and_self,decide_true,decide_false,Bool.not_true,cond_false]
            exact next fun h=>⟨⟨h1.1,h1.2,h2.1,h2.2⟩,fun k=>absurd k h0⟩
        · exact .inr ⟨fun k=>h2 ⟨(k i hlt hlt).1.m0,(k i hlt hlt).1.m1⟩,by simp [h1,h2]⟩
      · exact .inr ⟨fun k=>h1 ⟨(k i hlt hlt).1.l0,(k i hlt hlt).1.l1⟩,by simp [h1]⟩
    · have:i=l.length:=by omega
      subst this
      refine .inl ⟨fun j hj=>hd j hj,?_⟩
      simp [F73_l1]
theorem F73_eq {f:Nat} {l:List Part} (hf:40<f):(HeapOk l∧F73 f l=some true)∨(¬ HeapOk l∧F73 f l=some false):=by
  unfold F73
  by_cases h40:(l.length:Int) > 40
  · exact .inr ⟨fun k=>by have:=k.1; omega,by simp [h40]⟩
  · have h41:l.length≤40:=by omega
    simp only [h40,decide_false,cond_false]
    rw [← heapOk_iff h41]
    have:=F73_loop (f:=f) h41 f 0 (by omega) (by omega) (fun j hj=>by omega)
    simp only [List.take_zero] at this
    have e0:sumM []=0:=rfl
    rw [e0] at this
    rcases this with ⟨h1,h2⟩ | ⟨h1,h2⟩
    · by_cases hs:sumM l≤100000000
      · exact .inl ⟨⟨h1,hs⟩,by simpa [hs] using h2⟩
      · exact .inr ⟨fun k=>hs k.2,by simpa [hs] using h2⟩
    · exact .inr ⟨fun k=>h1 k.1,by simpa using h2⟩
theorem F76_73 (f:Nat) (l:List Part):F76 f l=F73 f l:=by
  unfold F76 F73
  have:∀n y z,F76_l1 f l n y z=F73_l1 f l n y z:=by
    intro n
    induction n with
    | zero=>intro y z; rfl
    | succ n ih =>
      intro y z
      have ih':F76_l1 f l n=F73_l1 f l n:=funext fun y=>funext fun z=>ih y z
      simp only [F76_l1,F73_l1,ih',F76_j1,F73_j1,F71_eq,F72_eq]
  rw [this]
theorem mass_le {l:List Part} (h:HeapOk l):0≤sumM l∧sumM l≤100000000:=⟨(sumM_bound h.2.1).1,h.2.2.2⟩
theorem sumM_take_le {l:List Part} (h:∀p∈l,PartOk p) (i:Nat):0≤sumM (l.take i)∧sumM (l.take i)≤sumM l:=by
  have e:l=l.take i ++ l.drop i:=(List.take_append_drop i l).symm
  have h1:=sumM_bound (l:=l.take i) fun p hp=>h p (List.mem_of_mem_take hp)
  have h2:=sumM_bound (l:=l.drop i) fun p hp=>h p (List.mem_of_mem_drop hp)
  have h3:sumM l=sumM (l.take i) + sumM (l.drop i):=by rw [← sumM_app,List.take_append_drop]
  omega
theorem F90_loop {l:List Part} (h:HeapOk l):∀n i,i≤l.length→l.length - i<n→F90_l1 l n (sumM (l.take i)) (i:Int)=some (sumM l)
  | 0,i,_,hn=>by omega
  | n + 1,i,hi,hn=>by
    have h40:=h.1
    rcases Nat.lt_or_ge i l.length with hlt | hge
    · have h1:=sumM_take_le h.2.1 (i + 1)
      have h2:=mass_le h
      rw [sumM_take hlt] at h1
      simp only [F90_l1,lt_len,hlt,decide_true,cond_true,getI_nat hlt,Option.bind_some]
      rw [succ_w (by omega),w64_id (by omega) (by omega), ← sumM_take hlt]
      exact F90_loop h n (i + 1) (by omega) (by omega)
    · have:i=l.length:=by omega
      subst this
      simp [F90_l1]
theorem F90_eq {f:Nat} {l:List Part} (h:HeapOk l) (hf:40<f):F90 f l=some (sumM l):=by
  have:=F90_loop h f 0 (by omega) (by have:=h.1; omega)
  simpa [F90,sumM] using this
theorem F92_90 (f:Nat) (l:List Part):F92 f l=F90 f l:=by
  unfold F92 F90
  have:∀n y z,F92_l1 l n y z=F90_l1 l n y z:=by
    intro n
    induction n with
    | zero=>intro y z; rfl
    | succ n ih =>
      intro y z
      have ih':F92_l1 l n=F90_l1 l n:=funext fun y=>funext fun z=>ih y z
      simp only [F92_l1,F90_l1,ih']
  rw [this]
theorem sumH_take {l:List (List Part)} {i:Nat} (hi:i<l.length):sumH (l.take (i + 1))=sumH (l.take i) + sumM l[i]:=by
  rw [List.take_succ_eq_append_getElem hi,sumH_app]
  simp [sumH]
theorem sumH_bound:∀ {l:List (List Part)},(∀h∈l,HeapOk h)→0≤sumH l∧sumH l≤100000000 * l.length
  | [],_=>by simp [sumH]
  | p::l,h=>by
    have ih:=sumH_bound (l:=l) fun q hq=>h q (List.mem_cons_of_mem _ hq)
    have hp:=mass_le (h p (by simp))
    simp only [sumH,List.map_cons,List.sum_cons,List.length_cons] at ih ⊢
    omega
theorem F75_loop {f:Nat} {l:List (List Part)} (hl:l.length≤4) (h:∀x∈l,HeapOk x) (hf:40<f):∀n i,i≤l.length→l.length - i<n→F75_l1 f l n (sumH (l.take i)) (i:Int)=some (sumH l)
  | 0,i,_,hn=>by omega
  | n + 1,i,hi,hn=>by
    rcases Nat.lt_or_ge i l.length with hlt | hge
    · have h1:=sumH_bound (l:=l.take (i + 1)) fun x hx=>h x (List.mem_of_mem_take hx)
      have h2:(l.take (i + 1)).length≤4:=by rw [List.length_take]; omega
      rw [sumH_take hlt] at h1
      simp only [F75_l1,lt_len,hlt,decide_true,cond_true,getI_nat hlt,Option.bind_some,F90_eq (h _ (List.getElem_mem _)) hf]
      rw [succ_w (by omega),w64_id (by omega) (by omega), ← sumH_take hlt]
      exact F75_loop hl h hf n (i + 1) (by omega) (by omega)
    · have:i=l.length:=by omega
      subst this
      simp [F75_l1]
theorem F75_eq {f:Nat} {l:List (List Part)} (hl:l.length≤4) (h:∀x∈l,HeapOk x) (hf:40<f):F75 f l=some (sumH l):=by
  have:=F75_loop hl h hf f 0 (by omega) (by omega)
  simpa [F75,sumH] using this
theorem F77_75 (f:Nat) (l:List (List Part)):F77 f l=F75 f l:=by
  unfold F77 F75
  have:∀n y z,F77_l1 f l n y z=F75_l1 f l n y z:=by
    intro n
    induction n with
    | zero=>intro y z; rfl
    | succ n ih =>
      intro y z
      have ih':F77_l1 f l n=F75_l1 f l n:=funext fun y=>funext fun z=>ih y z
      simp only [F77_l1,F75_l1,ih',F92_90]
  rw [this]
end Go.Proofs.Ytlmgjjmighajdaa
set_option linter.unusedSimpArgs false
set_option linter.unusedVariables false
namespace Go.Proofs.Ytlmgjjmighajdaa
open Go.Sl Go.Sx
def Has (l:List Lot) (id:Int):Prop:=∃x∈l,x.id=id
instance (l:List Lot) (x:Int):Decidable (Has l x):=inferInstanceAs (Decidable (∃y∈l,y.id=x))
theorem F122_eq (f:Nat) (l:Lot) (x:Int):F122 f l.id l.owner l.grade l.wet x=some (if l.id<x then -1 else if l.id > x then 1 else 0):=by
  unfold F122 F123 F137
  by_cases h1:l.id<x <;> by_cases h2:l.id > x <;> simp [h1,h2]
theorem half_w {a b:Nat} (h:a + b<4000000000):w64 (Int.fdiv (IntKind.wrap .u64 (w64 ((a:Int) + (b:Int)))) 2)=(((a + b) / 2:Nat):Int):=by
  rw [w64_id (n:=(a:Int) + b) (by omega) (by omega)]
  have e1:IntKind.wrap .u64 ((a:Int) + b)=(a:Int) + b:=by
    unfold IntKind.wrap
    simp [IntKind.bits,IntKind.signed]
    omega
  rw [e1]
  have e2:Int.fdiv ((a:Int) + b) 2=(((a + b) / 2:Nat):Int):=by
    rw [Int.fdiv_eq_ediv_of_nonneg _ (by decide)]
    omega
  rw [e2,w64_id (by omega) (by omega)]
theorem F74_loop {f:Nat} {l:List Lot} (hl:l.length≤40) (hs:l.Pairwise fun a b=>a.id<b.id) (x:Int):∀n i j,i≤j→j≤l.length→j - i<n →
    (∀k (h:k<l.length),k<i→l[k].id<x)→(∀k (h:k<l.length),j≤k→¬ l[k].id<x) →
    ∃p:Nat,p≤l.length∧(∀k (h:k<l.length),k<p→l[k].id<x)∧(∀k (h:k<l.length),p≤k→¬ l[k].id<x) ∧
      F74_l1 f l x n (i:Int) (j:Int)=some ((p:Int),decide (∃h:p<l.length,l[p].id=x))
  | 0,i,j,_,_,hn,_,_=>by omega
  | n + 1,i,j,hij,hj,hn,h1,h2=>by
    rcases Nat.lt_or_ge i j with hlt | hge
    · have hm:(i + j) / 2<l.length:=by omega
      have hm1:i≤(i + j) / 2:=by omega
      have hm2:(i + j) / 2<j:=by omega
      simp only [F74_l1,lt_len,hlt,decide_true,cond_true,half_w (a:=i) (b:=j) (by omega),getI_nat hm,Option.bind_some,F122_eq]
      by_cases hx:l[(i + j) / 2].id<x
      · simp only [hx,if_true]
        have e:decide ((-1:Int)<0)=true:=rfl
        rw [e,cond_true,succ_w (by omega)]
        refine F74_loop hl hs x n ((i + j) / 2 + 1) j (by omega) hj (by omega) (fun k hk hki=>?_) h2
        rcases Nat.lt_or_ge k ((i + j) / 2) with h | h
        · have:=pairs_at hs hk hm h; omega
        · have:k=(i + j) / 2:=by omega
          subst this; exact hx
      · have e:decide ((if l[(i + j) / 2].id<x then (-1:Int) else if l[(i + j) / 2].id > x then 1 else 0)<0)=false:=by
          rw [if_neg hx]; split <;> rfl
        rw [e,cond_false]
        refine F74_loop hl hs x n i ((i + j) / 2) (by omega) (by omega) (by omega) h1 (fun k hk hki=>?_)
        rcases Nat.lt_or_ge ((i + j) / 2) k with h | h
        · have:=pairs_at hs hm hk h; omega
        · have:k=(i + j) / 2:=by omega
          subst this; exact hx
    · have:i=j:=by omega
      subst this
      refine ⟨i,hj,h1,h2,?_⟩
      simp only [F74_l1,lt_len,Nat.lt_irrefl,decide_false,cond_false]
      by_cases hi:i<l.length
      · simp only [hi,decide_true,cond_true,getI_nat hi,Option.bind_some,F122_eq,F74_j1]
        have hx:=h2 i hi (Nat.le_refl _)
        congr 2
        rw [if_neg hx]
        by_cases hg:l[i].id > x
        · have:¬ l[i].id=x:=by omega
          simp [hg,this]
        · have:l[i].id=x:=by omega
          simp [this]
      · simp [hi,F74_j1]
theorem F74_eq {f:Nat} {l:List Lot} (h:LotsOk l) (x:Int) (hf:40<f) :
    ∃p:Nat,F74 f l x=some ((p:Int),decide (Has l x))∧(Has l x→∃h:p<l.length,l[p].id=x):=by
  obtain ⟨p,hp,h1,h2,e⟩:=F74_loop (f:=f) h.1 h.2.2 x f 0 l.length (by omega) (by omega) (by have:=h.1; omega) (fun k _ hk=>by omega) (fun k hk hk2=>by omega)
  have key:Has l x↔∃h:p<l.length,l[p].id=x:=by
    constructor
    · rintro ⟨y,hy,rfl⟩
      obtain ⟨j,hj,rfl⟩:=List.getElem_of_mem hy
      rcases Nat.lt_trichotomy j p with hjp | hjp | hjp
      · have:=h1 j hj hjp; omega
      · subst hjp; exact ⟨hj,rfl⟩
      · have hpl:p<l.length:=by omega
        have:=pairs_at h.2.2 hpl hj hjp
        have:=h2 p hpl (Nat.le_refl _)
        omega
    · rintro ⟨hp,e⟩
      exact ⟨l[p],List.getElem_mem _,e⟩
  refine ⟨p,?_,key.1⟩
  unfold F74
  have e0:(0:Int)=((0:Nat):Int):=rfl
  rw [e0,e]
  congr 2
  exact decide_eq_decide.2 key.symm
theorem F56_loop {l:List Lot} (hl:l.length≤40) (x:Int):∀n i,i≤l.length→l.length - i<n→(∀k (h:k<l.length),k<i→l[k].id≠x) →
    (∃p:Nat,(∃h:p<l.length,l[p].id=x∧∀k (h:k<l.length),k<p→l[k].id≠x)∧F56_l1 l x n (i:Int)=some (p:Int))∨(¬ Has l x∧F56_l1 l x n (i:Int)=some (-1))
  | 0,i,_,hn,_=>by omega
  | n + 1,i,hi,hn,hd=>by
    rcases Nat.lt_or_ge i l.length with hlt | hge
    · simp only [F56_l1,lt_len,hlt,decide_true,cond_true,getI_nat hlt,Option.bind_some]
      by_cases hx:l[i].id=x
      · exact .inl ⟨i,⟨hlt,hx,fun k hk hki=>hd k hk hki⟩,by simp [hx]⟩
      · have e:(l[i].id == x)=false:=by simpa using hx
        rw [e,cond_false,succ_w (by omega)]
        exact F56_loop hl x n (i + 1) (by omega) (by omega) fun k hk hki=>by
          rcases Nat.lt_or_ge k i with h | h
          · exact hd k hk h
          · have:k=i:=by omega
            subst this; exact hx
    · have:i=l.length:=by omega
      subst this
      refine .inr ⟨fun ⟨y,hy,e⟩=>?_,by simp [F56_l1]⟩
      obtain ⟨j,hj,rfl⟩:=List.getElem_of_mem hy
      exact hd j hj hj e
theorem F56_eq {f:Nat} {l:List Lot} (hl:l.length≤40) (x:Int) (hf:40<f) :
    (∃p:Nat,(∃h:p<l.length,l[p].id=x)∧Has l x∧F56 f l x=some (p:Int))∨(¬ Has l x∧F56 f l x=some (-1)):=by
  rcases F56_loop hl x f 0 (by omega) (by omega) (fun k _ hk=>by omega) with ⟨p,⟨hp,e,_⟩,h⟩ | h
  · exact .inl ⟨p,⟨hp,e⟩,⟨l[p],List.getElem_mem _,e⟩,by simpa [F56] using h⟩
  · exact .inr ⟨h.1,by simpa [F56] using h.2⟩
structure GoodHeap (lots:List Lot) (h:List Part):Prop where
  ok:HeapOk h
  ne:h≠[]
  lots:∀p∈h,Has lots p.lot
structure GoodHold (lots:List Lot) (l:List (List Part)):Prop where
  len:l.length≤4
  heaps:∀h∈l,GoodHeap lots h
  sum:sumH l≤100000000
theorem F22_l3_eq {f:Nat} {k1:Int→Option Int} {lots:List Lot} (hl:LotsOk lots) {hold:List (List Part)} {i:Nat} (hi:i<hold.length) (hp:hold[i].length≤40) (hf:40<f) :
    ((∀q∈hold[i],Has lots q.lot)∧F22_l3 f k1 lots hold (i:Int) f 0=k1 (w64 ((i:Int) + 1)))∨((¬ ∀q∈hold[i],Has lots q.lot)∧F22_l3 f k1 lots hold (i:Int) f 0=some 62):=by
  have key:=loop_all0 (L:=F22_l3 f k1 lots hold (i:Int)) (len:=hold[i].length) (good:=fun j=>∀h:j<hold[i].length,Has lots hold[i][j].lot) (no:=some 62) (yes:=k1 (w64 ((i:Int) + 1))) (fun n j hj=>by
    simp only [F22_l3,getI_nat hi,Option.bind_some,lt_len,hj,decide_true,cond_true,getI_nat hj]
    rcases F56_eq (f:=f) hl.1 hold[i][j].lot hf with ⟨q,_,hh,e⟩ | ⟨hh,e⟩
    · refine .inl ⟨fun _=>hh,?_⟩
      have h0:¬ (q:Int)<0:=by omega
      simp only [e,Option.bind_some,h0,decide_false,cond_false]; rw [succ_w (by omega)]
    · exact .inr ⟨fun k=>hh (k trivial),by simp [e]⟩) (fun n=>by simp [F22_l3,getI_nat hi]) (n:=f) (by omega)
  have iff:(∀j,j<hold[i].length→∀h:j<hold[i].length,Has lots hold[i][j].lot)↔∀q∈hold[i],Has lots q.lot:=by
    constructor
    · intro k q hq; obtain ⟨j,hj,rfl⟩:=List.getElem_of_mem hq; exact k j hj hj
    · intro k j hj _; exact k _ (List.getElem_mem _)
  rw [iff] at key
  exact key
theorem allMem {α:Type} {l:List α} {r:α→Prop}:(∀j,j<l.length→∀h:j<l.length,r l[j])↔∀x∈l,r x:=by
  constructor
  · intro k q hq; obtain ⟨j,hj,rfl⟩:=List.getElem_of_mem hq; exact k j hj hj
  · intro k j hj _; exact k _ (List.getElem_mem _)
end Go.Proofs.Ytlmgjjmighajdaa
