/-
  A part of the walk and of the plain law of one given statement. No condition.
-/
import Derived.Test.YtlmgjjmighajdaaSPb
set_option linter.unusedVariables false
namespace Go.Proofs.Ytlmgjjmighajdaa
open Go.Sl Go.Sx
def F72_j1 (y1:Bool):Option (Bool) :=
  (some (y1))
def F72 (fuel:Nat) (x0:Int) (x1:Int) (x2:Int):Option (Bool) :=
  (cond (decide (x0≥x1)) (F72_j1 (decide (x0≤x2))) (F72_j1 false))
set_option maxRecDepth 100000 in
theorem f72_ok (fuel:Nat) (x0:Int) (x1:Int) (x2:Int) (r:Bool) (hr:F72 fuel x0 x1 x2=some r) (h:Zone) (L:List Atom) (w:World) (hS:St h L w)  :
    Calls Try.prog 72 #[vI x0,vI x1,vI x2] w fun e w'=>∃v,e= .returned v∧(∃h',Zone.le h h'∧v= .bool r∧St h' L w'):=by
 refine calls_intro (N:=15) Try.func72 (by kernel_rfl) fun a hf=>?_
 refine c_sq [] [0,1,2] hf .nil fun a1 hf1=>?_
 refine c_mid (fun a w=>∃z1:Zone,∃y1:Bool,Zone.le h z1∧Fr a 15 [(6, .bool y1)]∧St z1 (L) w∧(F72_j1 y1)=some r) ?_ ?_
 ·skip
  refine c_reg ?_
  refine c_n 4 [] [0,2,10] hf1 .nil fun a2 hf2=>?_
  rcases bft (decide (x0≥x1)) with hb1 | hb1
  ·have hr1:=cond_t hb1 hr
   have hf3:=hf2.lit 10 hb1
   refine c_t [] [6] hf3 .nil fun a3 hf4=>?_
   exact ⟨h,(decide (x0≤x2)),zr,hf4.to,hS,hr1⟩
  ·have hr2:=cond_f hb1 hr
   have hf6:=hf2.lit 10 hb1
   refine c_t [] [6] hf6 .nil fun a4 hf7=>?_
   exact ⟨h,false,zr,hf7.to,hS,hr2⟩
 ·rintro a5 ww1 ⟨z1,y1,k1,hf9,hS1,hr3⟩
  refine c_ret ?_
  refine c_rt [] (.bool y1) hf9 .nil ?_
  obtain rfl:=some_eq hr3
  exact ⟨_,rfl,z1,k1,rfl,hS1⟩
def F18_j1 (y1:Bool):Option (Int) :=
  (cond y1 (some (60)) (some (0)))
def F18 (fuel:Nat) (x0i:Int) (x0w:Int) (x0g:Int) (x0e:Int):Option (Int) :=
  ((F72 fuel x0i 1 9999).bind fun r1=>(cond (!r1) (F18_j1 true) ((F72 fuel x0w 1 9).bind fun r2=>(cond (!r2) (F18_j1 true) ((F72 fuel x0g 1 9).bind fun r3=>(cond (!r3) (F18_j1 true) ((F72 fuel x0e 0 10000).bind fun r4=>(F18_j1 (!r4)))))))))
set_option maxRecDepth 100000 in
theorem f18_ok (fuel:Nat) (x0i:Int) (x0w:Int) (x0g:Int) (x0e:Int) (r:Int) (hr:F18 fuel x0i x0w x0g x0e=some r) (h:Zone) (L:List Atom) (w:World) (hS:St h L w)  :
    Calls Try.prog 18 #[.agg #[vI x0i,vI x0w,vI x0g,vI x0e]] w fun e w'=>∃v,e= .returned v∧(∃h',Zone.le h h'∧v=vI r∧St h' L w'):=by
 refine calls_intro (N:=25) Try.func18 (by kernel_rfl) fun a hf=>?_
 refine c_sr ?_
 refine c_box [vI x0i,vI x0w,vI x0g,vI x0e] 33 hS hf fun b1 ww1 a1 hS1 hf1=>⟨fun _=>trivial,?_⟩
 refine c_t [] [1] hf1 .nil fun a2 hf2=>?_
 refine c_seq ?_
 refine c_mid (fun a w=>∃z1:Zone,∃y1:Bool,Zone.le h z1∧Fr a 25 [(24, .bool y1)]∧St z1 (box b1 [vI x0i,vI x0w,vI x0g,vI x0e] 33::L) w∧(F18_j1 y1)=some r) ?_ ?_
 ·skip
  refine c_reg ?_
  refine c_n 2 [vI x0i] [1,4] hf2 (.cell (hS1.box (i:=0) rfl (j:=0) rfl) .nil) fun a3 hf3=>?_
  obtain ⟨r1,hd1,hr1⟩:=bind_some hr
  refine c_call hf3 (f72_ok fuel x0i 1 9999 r1 hd1 h _ _ hS1 ) ?_
  rintro v1 ww2 a4 ⟨z2,k1,rfl,hS2⟩ hf4
  refine ⟨fun _=>trivial,?_⟩
  refine c_n 2 [] [1,7] hf4 .nil fun a5 hf5=>?_
  rcases bft (!r1) with hb1 | hb1
  ·have hr2:=cond_t hb1 hr1
   have hf6:=hf5.lit 7 hb1
   refine c_t [] [24] hf6 .nil fun a6 hf7=>?_
   exact ⟨z2,true,k1,hf7.to,hS2,hr2⟩
  ·have hr3:=cond_f hb1 hr1
   have hf9:=hf5.lit 7 hb1
   refine c_n 2 [vI x0w] [1,7,9] hf9 (.cell (hS2.box (i:=0) rfl (j:=1) rfl) .nil) fun a7 hf10=>?_
   obtain ⟨r2,hd2,hr4⟩:=bind_some hr3
   refine c_call hf10 (f72_ok fuel x0w 1 9 r2 hd2 z2 _ _ hS2 ) ?_
   rintro v2 ww3 a8 ⟨z3,k2,rfl,hS3⟩ hf11
   refine ⟨fun _=>trivial,?_⟩
   refine c_n 3 [] [1,13] hf11 .nil fun a9 hf12=>?_
   rcases bft (!r2) with hb2 | hb2
   ·have hr5:=cond_t hb2 hr4
    have hf13:=hf12.lit 13 hb2
    refine c_t [] [24] hf13 .nil fun a10 hf14=>?_
    exact ⟨z3,true,(zt k1 k2),hf14.to,hS3,hr5⟩
   ·have hr6:=cond_f hb2 hr4
    have hf16:=hf12.lit 13 hb2
    refine c_n 2 [vI x0g] [1,13,15] hf16 (.cell (hS3.box (i:=0) rfl (j:=2) rfl) .nil) fun a11 hf17=>?_
    obtain ⟨r3,hd3,hr7⟩:=bind_some hr6
    refine c_call hf17 (f72_ok fuel x0g 1 9 r3 hd3 z3 _ _ hS3 ) ?_
    rintro v3 ww4 a12 ⟨z4,k3,rfl,hS4⟩ hf18
    refine ⟨fun _=>trivial,?_⟩
    refine c_n 3 [] [1,19] hf18 .nil fun a13 hf19=>?_
    rcases bft (!r3) with hb3 | hb3
    ·have hr8:=cond_t hb3 hr7
     have hf20:=hf19.lit 19 hb3
     refine c_t [] [24] hf20 .nil fun a14 hf21=>?_
     exact ⟨z4,true,(zt (zt k1 k2) k3),hf21.to,hS4,hr8⟩
    ·have hr9:=cond_f hb3 hr7
     have hf23:=hf19.lit 19 hb3
     refine c_n 2 [vI x0e] [19,21] hf23 (.cell (hS4.box (i:=0) rfl (j:=3) rfl) .nil) fun a15 hf24=>?_
     obtain ⟨r4,hd4,hr10⟩:=bind_some hr9
     refine c_call hf24 (f72_ok fuel x0e 0 10000 r4 hd4 z4 _ _ hS4 ) ?_
     rintro v4 ww5 a16 ⟨z5,k4,rfl,hS5⟩ hf25
     refine ⟨fun _=>trivial,?_⟩
     refine c_t [] [24] hf25 .nil fun a17 hf26=>?_
     exact ⟨z5,(!r4),(zt (zt (zt k1 k2) k3) k4),hf26.to,hS5,hr10⟩
 ·rintro a18 ww6 ⟨z1,y1,k5,hf28,hS6,hr11⟩
  refine c_if y1 hf28 (fun hb4=>?_) (fun hb4=>?_)
  ·have hr12:=cond_t hb4 hr11
   refine c_sq [] [2] hf28 .nil fun a19 hf29=>?_
   refine c_ret ?_
   refine r_then ?_
   refine c_rt [] (vI 60) hf29 .nil ?_
   obtain rfl:=some_eq hr12
   exact ⟨_,rfl,z1,k5,rfl,(St.drop 1 hS6)⟩
  ·have hr13:=cond_f hb4 hr11
   refine c_skip ?_
   refine n_then ?_
   refine c_sq [] [2] hf28 .nil fun a20 hf30=>?_
   refine c_ret ?_
   refine c_rt [] (vI 0) hf30 .nil ?_
   obtain rfl:=some_eq hr13
   exact ⟨_,rfl,z1,k5,rfl,(St.drop 1 hS6)⟩
def F20_j1 (k1:Int→Option (Int)) (y1:Int) (y2:Bool):Option (Int) :=
  (cond y2 (some (60)) (k1 (w64 (y1 + (1:Int)))))
def F20_l1 (fuel:Nat) (x0:List Lot):Nat→Int→Option (Int)
  | 0,_=>none
  | n1 + 1,y1 =>
    let k1:Int→Option (Int):=F20_l1 fuel x0 n1
    (cond (decide (y1<(x0.length:Int))) ((getI x0 y1).bind fun p1=>((F18 fuel p1.id p1.owner p1.grade p1.wet).bind fun r1=>(cond (r1 != (0:Int)) (F20_j1 k1 y1 true) (cond (decide (y1 > (0:Int))) ((getI x0 (w64 (y1 - (1:Int)))).bind fun p2=>((getI x0 y1).bind fun p3=>(F20_j1 k1 y1 (decide (p2.id≥p3.id))))) (F20_j1 k1 y1 false))))) (some (0)))
def F20 (fuel:Nat) (x0:List Lot):Option (Int) :=
  (cond (decide ((x0.length:Int) > (40:Int))) (some (60)) (F20_l1 fuel x0 fuel 0))
set_option maxRecDepth 100000 in
theorem f20_ok (fuel:Nat) (x0:List Lot) (r:Int) (hr:F20 fuel x0=some r) (h:Zone) (L:List Atom) (w:World) (hS:St h L w) (o_x0:Option Addr) (c_x0:Nat) (hx_x0:SliceR LotT h o_x0 c_x0 x0) :
    Calls Try.prog 20 #[.slice o_x0 x0.length c_x0] w fun e w'=>∃v,e= .returned v∧(∃h',Zone.le h h'∧v=vI r∧St h' L w'):=by
 refine calls_intro (N:=37) Try.func20 (by kernel_rfl) fun a hf=>?_
 refine c_sq [] [0] hf .nil fun a1 hf1=>?_
 refine c_seq ?_
 refine c_sq [] [0,6] hf1 .nil fun a2 hf2=>?_
 refine c_if (decide ((x0.length:Int) > (40:Int))) hf2 (fun hb1=>?_) (fun hb1=>?_)
 ·have hr1:=cond_t hb1 hr
  refine c_sq [] [2] hf2 .nil fun a3 hf3=>?_
  refine c_ret ?_
  refine r_then ?_
  refine c_rt [] (vI 60) hf3 .nil ?_
  obtain rfl:=some_eq hr1
  exact ⟨_,rfl,h,zr,rfl,hS⟩
 ·have hr2:=cond_f hb1 hr
  refine c_skip ?_
  refine n_then ?_
  refine c_seq ?_
  refine c_sq [] [0,3] hf2 .nil fun a4 hf4=>?_
  refine c_block 0 ?_
  refine c_loop (fun n a w=>∃z1:Zone,∃y1:Int,Zone.le h z1∧Fr a 37 [(0, .slice o_x0 x0.length c_x0),(3,vI y1)]∧St z1 (L) w∧(F20_l1 fuel x0 n y1)=some r) fuel ⟨h,0,zr,hf4.to,hS,hr2⟩ ?_
  rintro n2 a5 ww1 ⟨z1,y1,k2,hf6,hS1,hr3⟩
  cases n2 with
  | zero=>cases hr3
  | succ n1 =>
  refine c_seq ?_
  refine c_sq [] [0,3,10] hf6 .nil fun a6 hf7=>?_
  refine c_if (decide (y1<(x0.length:Int))) hf7 (fun hb2=>?_) (fun hb2=>?_)
  ·have hr4:=cond_t hb2 hr3
   refine c_skip ?_
   refine n_then ?_
   refine c_seq ?_
   refine c_block 1 ?_
   refine c_mid (fun a w=>∃z2:Zone,∃y2:Bool,Zone.le z1 z2∧Fr a 37 [(0, .slice o_x0 x0.length c_x0),(3,vI y1),(36, .bool y2)]∧St z2 (L) w∧(F20_j1 (F20_l1 fuel x0 n1) y1 y2)=some r) ?_ ?_
   ·skip
    have hS2:=hS1.drew
    have s1:=Sub.of zr hS2
    refine c_regD [(0,true),(1,true),(2,true),(3,true),(4,false),(5,true),(6,true),(7,true),(8,true),(9,true),(10,true),(11,true),(12,true),(13,true),(14,true),(15,true),(16,true),(17,true),(18,true),(19,true),(20,true),(21,true),(22,true),(23,true)] [] _ s1 ?_
    obtain ⟨p1,hp1987,hr5⟩:=bind_some hr4
    obtain ⟨ad1,ho1,hb3,cc1,hc1,hk1⟩:=SliceR.getI (SliceR.mono k2 hx_x0) hp1987
    subst hc1
    refine c_S 4 [.pointer (some ad1),vI p1.id,vI p1.owner,vI p1.grade,vI p1.wet] [0,3,16] s1 hf7 (fun _ s=>(.prop ho1 (.prop hb3 (.cell (s.cell (hk1 0 _ rfl)) (.cell (s.cell (hk1 1 _ rfl)) (.cell (s.cell (hk1 2 _ rfl)) (.cell (s.cell (hk1 3 _ rfl)) .nil))))))) .nil fun a7 hf8=>?_
    obtain ⟨r1,hd1,hr6⟩:=bind_some hr5
    refine c_call hf8 (f18_ok fuel p1.id p1.owner p1.grade p1.wet r1 hd1 z1 _ _ hS2 ) ?_
    rintro v1 ww2 a8 ⟨z3,k3,rfl,hS3⟩ hf9
    refine ⟨fun _=>Sub.of k3 hS3,?_⟩
    have s2:=Sub.of k3 hS3
    refine c_S 2 [] [0,3,19] s2 hf9 (fun _ s=> .nil) .nil fun a9 hf10=>?_
    rcases bft (r1 != (0:Int)) with hb4 | hb4
    ·have hr7:=cond_t hb4 hr6
     have hf11:=hf10.lit 19 hb4
     refine c_S 17 [] [0,3,20,21,22,23,24,25,26,27,28,29,30,31,32,33,34,35,36] s2 hf11 (fun _ s=> .nil) .nil fun a10 hf12=>?_
     refine c_dt ?_
     exact ⟨z3,true,k3,hf12.to,hS3,hr7⟩
    ·have hr8:=cond_f hb4 hr6
     have hf14:=hf10.lit 19 hb4
     refine c_S 3 [] [0,3,19,20,21,22] s2 hf14 (fun _ s=> .nil) .nil fun a11 hf15=>?_
     rcases bft (decide (y1 > (0:Int))) with hb5 | hb5
     ·have hr9:=cond_t hb5 hr8
      have hf16:=hf15.lit 22 hb5
      obtain ⟨p2,hp2029,hr10⟩:=bind_some hr9
      obtain ⟨ad2,ho2,hb6,cc2,hc2,hk2⟩:=SliceR.getI (SliceR.mono k2 hx_x0) hp2029
      subst hc2
      obtain ⟨p3,hp2038,hr11⟩:=bind_some hr10
      obtain ⟨ad3,ho3,hb7,cc3,hc3,hk3⟩:=SliceR.getI (SliceR.mono k2 hx_x0) hp2038
      subst hc3
      refine c_S 14 [.pointer (some ad2),vI p2.id, .pointer (some ad3),vI p3.id] [0,3,20,21,22,23,24,25,26,27,28,29,30,31,32,33,34,35,36] s2 hf16 (fun _ s=>(.prop ho2 (.prop hb6 (.cell (s.cell (hk2 0 _ rfl)) (.prop ho3 (.prop hb7 (.cell (s.cell (hk3 0 _ rfl)) .nil))))))) .nil fun a12 hf17=>?_
      refine c_dt ?_
      exact ⟨z3,(decide (p2.id≥p3.id)),k3,hf17.to,hS3,hr11⟩
     ·have hr12:=cond_f hb5 hr8
      have hf19:=hf15.lit 22 hb5
      refine c_S 14 [] [0,3,20,21,22,23,24,25,26,27,28,29,30,31,32,33,34,35,36] s2 hf19 (fun _ s=> .nil) .nil fun a13 hf20=>?_
      refine c_dt ?_
      exact ⟨z3,false,k3,hf20.to,hS3,hr12⟩
   ·rintro a14 ww3 ⟨z2,y2,k4,hf22,hS4,hr13⟩
    refine c_if y2 hf22 (fun hb8=>?_) (fun hb8=>?_)
    ·have hr14:=cond_t hb8 hr13
     refine c_sq [] [2] hf22 .nil fun a15 hf23=>?_
     refine c_ret ?_
     refine r_block ?_
     refine r_then ?_
     refine r_then ?_
     refine r_block ?_
     refine r_then ?_
     refine c_rt [] (vI 60) hf23 .nil ?_
     obtain rfl:=some_eq hr14
     exact ⟨_,rfl,z2,(zt k2 k4),rfl,hS4⟩
    ·have hr15:=cond_f hb8 hr13
     refine c_skip ?_
     refine n_block ?_
     refine n_then ?_
     refine c_q [] [0,3] hf22 .nil fun a16 hf24=>?_
     refine n_then ?_
     exact ⟨n1,Nat.lt_succ_self n1,z2,(w64 (y1 + (1:Int))),(zt k2 k4),hf24.to,hS4,hr15⟩
  ·have hr16:=cond_f hb2 hr3
   refine c_exit 0 ?_
   refine x_then ?_
   refine x_then ?_
   refine x_block ?_
   refine n_then ?_
   refine c_sq [] [2] hf7 .nil fun a17 hf26=>?_
   refine c_ret ?_
   refine c_rt [] (vI 0) hf26 .nil ?_
   obtain rfl:=some_eq hr16
   exact ⟨_,rfl,z1,k2,rfl,hS1⟩
def F56_l1 (x0:List Lot) (x1:Int):Nat→Int→Option (Int)
  | 0,_=>none
  | n1 + 1,y1 =>
    let k1:Int→Option (Int):=F56_l1 x0 x1 n1
    (cond (decide (y1<(x0.length:Int))) ((getI x0 y1).bind fun p1=>(cond (p1.id == x1) (some (y1)) (k1 (w64 (y1 + (1:Int)))))) (some (-1)))
def F56 (fuel:Nat) (x0:List Lot) (x1:Int):Option (Int) :=
  (F56_l1 x0 x1 fuel 0)
set_option maxRecDepth 100000 in
theorem f56_ok (fuel:Nat) (x0:List Lot) (x1:Int) (r:Int) (hr:F56 fuel x0 x1=some r) (h:Zone) (L:List Atom) (w:World) (hS:St h L w) (o_x0:Option Addr) (c_x0:Nat) (hx_x0:SliceR LotT h o_x0 c_x0 x0) :
    Calls Try.prog 56 #[.slice o_x0 x0.length c_x0,vI x1] w fun e w'=>∃v,e= .returned v∧(∃h',Zone.le h h'∧v=vI r∧St h' L w'):=by
 refine calls_intro (N:=20) Try.func56 (by kernel_rfl) fun a hf=>?_
 refine c_sq [] [0,1] hf .nil fun a1 hf1=>?_
 refine c_seq ?_
 refine c_sq [] [0,1,5] hf1 .nil fun a2 hf2=>?_
 refine c_block 0 ?_
 refine c_loop (fun n a w=>∃z1:Zone,∃y1:Int,Zone.le h z1∧Fr a 20 [(0, .slice o_x0 x0.length c_x0),(1,vI x1),(5,vI y1)]∧St z1 (L) w∧(F56_l1 x0 x1 n y1)=some r) fuel ⟨h,0,zr,hf2.to,hS,hr⟩ ?_
 rintro n2 a3 ww1 ⟨z1,y1,k2,hf4,hS1,hr1⟩
 cases n2 with
 | zero=>cases hr1
 | succ n1 =>
 refine c_seq ?_
 refine c_sq [] [0,1,5,9] hf4 .nil fun a4 hf5=>?_
 refine c_if (decide (y1<(x0.length:Int))) hf5 (fun hb1=>?_) (fun hb1=>?_)
 ·have hr2:=cond_t hb1 hr1
  refine c_skip ?_
  refine n_then ?_
  refine c_seq ?_
  refine c_block 1 ?_
  obtain ⟨p1,hp371,hr3⟩:=bind_some hr2
  obtain ⟨ad1,ho1,hb2,cc1,hc1,hk1⟩:=SliceR.getI (SliceR.mono k2 hx_x0) hp371
  subst hc1
  refine c_sq [.pointer (some ad1),vI p1.id] [0,1,5,18] hf5 (.prop ho1 (.prop hb2 (.cell (hS1.cell (hk1 0 _ rfl)) .nil))) fun a5 hf6=>?_
  refine c_if (p1.id == x1) hf6 (fun hb3=>?_) (fun hb3=>?_)
  ·have hr4:=cond_t hb3 hr3
   refine c_sq [] [4] hf6 .nil fun a6 hf7=>?_
   refine c_ret ?_
   refine r_block ?_
   refine r_then ?_
   refine r_then ?_
   refine r_block ?_
   refine r_then ?_
   refine c_rt [] (vI y1) hf7 .nil ?_
   obtain rfl:=some_eq hr4
   exact ⟨_,rfl,z1,k2,rfl,hS1⟩
  ·have hr5:=cond_f hb3 hr3
   refine c_skip ?_
   refine n_block ?_
   refine n_then ?_
   refine c_q [] [0,1,5] hf6 .nil fun a7 hf8=>?_
   refine n_then ?_
   exact ⟨n1,Nat.lt_succ_self n1,z1,(w64 (y1 + (1:Int))),k2,hf8.to,hS1,hr5⟩
 ·have hr6:=cond_f hb1 hr1
  refine c_exit 0 ?_
  refine x_then ?_
  refine x_then ?_
  refine x_block ?_
  refine n_then ?_
  refine c_sq [] [4] hf5 .nil fun a8 hf10=>?_
  refine c_ret ?_
  refine c_rt [] (vI (-1)) hf10 .nil ?_
  obtain rfl:=some_eq hr6
  exact ⟨_,rfl,z1,k2,rfl,hS1⟩
def F76_j1 (k1:Int→Int→Option (Bool)) (y1:Int) (y2:Int) (p1:Part) (y3:Bool):Option (Bool) :=
  (cond y3 (some (false)) (k1 (w64 (y1 + p1.mass)) (w64 (y2 + (1:Int)))))
def F76_l1 (fuel:Nat) (x0:List Part):Nat→Int→Int→Option (Bool)
  | 0,_,_=>none
  | n1 + 1,y1,y2 =>
    let k1:Int→Int→Option (Bool):=F76_l1 fuel x0 n1
    (cond (decide (y2<(x0.length:Int))) ((getI x0 y2).bind fun p1=>((F72 fuel p1.lot 1 9999).bind fun r1=>(cond (!r1) (F76_j1 k1 y1 y2 p1 true) ((F72 fuel p1.mass 1 100000000).bind fun r2=>(cond (!r2) (F76_j1 k1 y1 y2 p1 true) (cond (decide (y2 > (0:Int))) ((getI x0 (w64 (y2 - (1:Int)))).bind fun p2=>(F76_j1 k1 y1 y2 p1 (decide (p2.lot≥p1.lot)))) (F76_j1 k1 y1 y2 p1 false))))))) (some ((decide (y1≤(100000000:Int))))))
def F76 (fuel:Nat) (x0:List Part):Option (Bool) :=
  (cond (decide ((x0.length:Int) > (40:Int))) (some (false)) (F76_l1 fuel x0 fuel 0 0))
set_option maxRecDepth 100000 in
theorem f76_ok (fuel:Nat) (x0:List Part) (r:Bool) (hr:F76 fuel x0=some r) (h:Zone) (L:List Atom) (w:World) (hS:St h L w) (o_x0:Option Addr) (c_x0:Nat) (hx_x0:SliceR PartT h o_x0 c_x0 x0) :
    Calls Try.prog 76 #[.agg #[.slice o_x0 x0.length c_x0]] w fun e w'=>∃v,e= .returned v∧(∃h',Zone.le h h'∧v= .bool r∧St h' L w'):=by
 refine calls_intro (N:=54) Try.func76 (by kernel_rfl) fun a hf=>?_
 refine c_sr ?_
 refine c_box [.slice o_x0 x0.length c_x0] 40 hS hf fun b1 ww1 a1 hS1 hf1=>⟨fun _=>trivial,?_⟩
 refine c_t [] [1] hf1 .nil fun a2 hf2=>?_
 refine c_seq ?_
 refine c_sq [.slice o_x0 x0.length c_x0] [1,9] hf2 (.cell (hS1.box (i:=0) rfl (j:=0) rfl) .nil) fun a3 hf3=>?_
 refine c_if (decide ((x0.length:Int) > (40:Int))) hf3 (fun hb1=>?_) (fun hb1=>?_)
 ·have hr1:=cond_t hb1 hr
  refine c_sq [] [2] hf3 .nil fun a4 hf4=>?_
  refine c_ret ?_
  refine r_then ?_
  refine c_rt [] (.bool false) hf4 .nil ?_
  obtain rfl:=some_eq hr1
  exact ⟨_,rfl,h,zr,rfl,(St.drop 1 hS1)⟩
 ·have hr2:=cond_f hb1 hr
  refine c_skip ?_
  refine n_then ?_
  refine c_sq [] [1,3] hf3 .nil fun a5 hf5=>?_
  refine c_seq ?_
  refine c_sq [] [1,3,4] hf5 .nil fun a6 hf6=>?_
  refine c_block 0 ?_
  refine c_loop (fun n a w=>∃z1:Zone,∃y1:Int,∃y2:Int,Zone.le h z1∧Fr a 54 [(1,pB b1 0),(3,vI y1),(4,vI y2)]∧St z1 (box b1 [.slice o_x0 x0.length c_x0] 40::L) w∧(F76_l1 fuel x0 n y1 y2)=some r) fuel ⟨h,0,0,zr,hf6.to,hS1,hr2⟩ ?_
  rintro n2 a7 ww2 ⟨z1,y1,y2,k2,hf8,hS2,hr3⟩
  cases n2 with
  | zero=>cases hr3
  | succ n1 =>
  refine c_seq ?_
  refine c_sq [.slice o_x0 x0.length c_x0] [1,3,4,14] hf8 (.cell (hS2.box (i:=0) rfl (j:=0) rfl) .nil) fun a8 hf9=>?_
  refine c_if (decide (y2<(x0.length:Int))) hf9 (fun hb2=>?_) (fun hb2=>?_)
  ·have hr4:=cond_t hb2 hr3
   refine c_skip ?_
   refine n_then ?_
   refine c_seq ?_
   refine c_block 1 ?_
   refine c_sr ?_
   obtain ⟨p1,hp4712,hr5⟩:=bind_some hr4
   obtain ⟨ad1,ho1,hb3,cc1,hc1,hk1⟩:=SliceR.getI (SliceR.mono k2 hx_x0) hp4712
   subst hc1
   refine c_n 5 [.slice o_x0 x0.length c_x0, .pointer (some ad1),vI p1.lot,vI p1.mass] [1,3,4,21] hf9 (.cell (hS2.box (i:=0) rfl (j:=0) rfl) (.prop ho1 (.prop hb3 (.cell (hS2.cell (hk1 0 _ rfl)) (.cell (hS2.cell (hk1 1 _ rfl)) .nil))))) fun a9 hf10=>?_
   refine c_box [vI 0,vI 0] 56 hS2 hf10 fun b2 ww3 a10 hS3 hf11=>⟨fun _=>trivial,?_⟩
   refine c_st 0 [vI p1.lot,vI p1.mass] hS3 hf11 rfl fun ww4 a11 hS4 hf12=>⟨fun _=>trivial,?_⟩
   refine c_dt ?_
   refine c_seq ?_
   refine c_mid (fun a w=>∃z2:Zone,∃y3:Bool,Zone.le z1 z2∧Fr a 54 [(1,pB b1 0),(3,vI y1),(4,vI y2),(5,pB b2 0),(47, .bool y3)]∧St z2 (box b2 [vI p1.lot,vI p1.mass] 56::box b1 [.slice o_x0 x0.length c_x0] 40::L) w∧(F76_j1 (F76_l1 fuel x0 n1) y1 y2 p1 y3)=some r) ?_ ?_
   ·skip
    have hS5:=hS4.drew
    have s1:=Sub.of zr hS5
    refine c_regD [(0,true),(1,true),(2,false),(3,true),(4,true),(5,true),(6,true),(7,false),(8,true),(9,true),(10,true),(11,true),(12,true),(13,true),(14,true),(15,true),(16,true),(17,true),(18,true),(19,true),(20,true),(21,true),(22,true),(23,true),(24,true),(25,true)] [] _ s1 ?_
    refine c_S 2 [vI p1.lot] [1,3,4,5,23] s1 hf12 (fun _ s=>(.cell (s.box (i:=0) rfl (j:=0) rfl) .nil)) .nil fun a12 hf13=>?_
    obtain ⟨r1,hd1,hr6⟩:=bind_some hr5
    refine c_call hf13 (f72_ok fuel p1.lot 1 9999 r1 hd1 z1 _ _ hS5 ) ?_
    rintro v1 ww5 a13 ⟨z3,k3,rfl,hS6⟩ hf14
    refine ⟨fun _=>Sub.of k3 hS6,?_⟩
    have s2:=Sub.of k3 hS6
    refine c_S 2 [] [1,3,4,5,26] s2 hf14 (fun _ s=> .nil) .nil fun a14 hf15=>?_
    rcases bft (!r1) with hb4 | hb4
    ·have hr7:=cond_t hb4 hr6
     have hf16:=hf15.lit 26 hb4
     refine c_S 21 [] [1,3,4,5,27,28,29,30,33,34,35,36,37,38,39,40,41,42,43,44,45,46,47] s2 hf16 (fun _ s=> .nil) .nil fun a15 hf17=>?_
     refine c_dt ?_
     exact ⟨z3,true,k3,hf17.to,hS6,hr7⟩
    ·have hr8:=cond_f hb4 hr6
     have hf19:=hf15.lit 26 hb4
     refine c_S 2 [vI p1.mass] [1,3,4,5,26,27,28] s2 hf19 (fun _ s=>(.cell (s.box (i:=0) rfl (j:=1) rfl) .nil)) .nil fun a16 hf20=>?_
     obtain ⟨r2,hd2,hr9⟩:=bind_some hr8
     refine c_call hf20 (f72_ok fuel p1.mass 1 100000000 r2 hd2 z3 _ _ hS6 ) ?_
     rintro v2 ww6 a17 ⟨z4,k4,rfl,hS7⟩ hf21
     refine ⟨fun _=>Sub.of (zt k3 k4) hS7,?_⟩
     have s3:=Sub.of (zt k3 k4) hS7
     refine c_S 3 [] [1,3,4,5,27,28,29,30,32] s3 hf21 (fun _ s=> .nil) .nil fun a18 hf22=>?_
     rcases bft (!r2) with hb5 | hb5
     ·have hr10:=cond_t hb5 hr9
      have hf23:=hf22.lit 32 hb5
      refine c_S 15 [] [1,3,4,5,27,28,29,30,33,34,35,36,37,38,39,40,41,42,43,44,45,46,47] s3 hf23 (fun _ s=> .nil) .nil fun a19 hf24=>?_
      refine c_dt ?_
      exact ⟨z4,true,(zt k3 k4),hf24.to,hS7,hr10⟩
     ·have hr11:=cond_f hb5 hr9
      have hf26:=hf22.lit 32 hb5
      refine c_S 3 [] [1,3,4,5,27,28,29,30,32,33,34,35] s3 hf26 (fun _ s=> .nil) .nil fun a20 hf27=>?_
      rcases bft (decide (y2 > (0:Int))) with hb6 | hb6
      ·have hr12:=cond_t hb6 hr11
       have hf28:=hf27.lit 35 hb6
       obtain ⟨p2,hp5115,hr13⟩:=bind_some hr12
       obtain ⟨ad2,ho2,hb7,cc2,hc2,hk2⟩:=SliceR.getI (SliceR.mono k2 hx_x0) hp5115
       subst hc2
       refine c_S 12 [.slice o_x0 x0.length c_x0, .pointer (some ad2),vI p2.lot,vI p1.lot] [1,3,4,5,27,28,29,30,33,34,35,36,37,38,39,40,41,42,43,44,45,46,47] s3 hf28 (fun _ s=>(.cell (s.box (i:=1) rfl (j:=0) rfl) (.prop ho2 (.prop hb7 (.cell (s.cell (hk2 0 _ rfl)) (.cell (s.box (i:=0) rfl (j:=0) rfl) .nil)))))) .nil fun a21 hf29=>?_
       refine c_dt ?_
       exact ⟨z4,(decide (p2.lot≥p1.lot)),(zt k3 k4),hf29.to,hS7,hr13⟩
      ·have hr14:=cond_f hb6 hr11
       have hf31:=hf27.lit 35 hb6
       refine c_S 12 [] [1,3,4,5,27,28,29,30,33,34,35,36,37,38,39,40,41,42,43,44,45,46,47] s3 hf31 (fun _ s=> .nil) .nil fun a22 hf32=>?_
       refine c_dt ?_
       exact ⟨z4,false,(zt k3 k4),hf32.to,hS7,hr14⟩
   ·rintro a23 ww7 ⟨z2,y3,k5,hf34,hS8,hr15⟩
    refine c_if y3 hf34 (fun hb8=>?_) (fun hb8=>?_)
    ·have hr16:=cond_t hb8 hr15
     refine c_sq [] [2] hf34 .nil fun a24 hf35=>?_
     refine c_ret ?_
     refine r_then ?_
     refine r_block ?_
     refine r_then ?_
     refine r_then ?_
     refine r_block ?_
     refine r_then ?_
     refine c_rt [] (.bool false) hf35 .nil ?_
     obtain rfl:=some_eq hr16
     exact ⟨_,rfl,z2,(zt k2 k5),rfl,(St.drop 2 hS8)⟩
    ·have hr17:=cond_f hb8 hr15
     refine c_skip ?_
     refine n_then ?_
     refine c_q [vI p1.mass] [1,3,4] hf34 (.cell (hS8.box (i:=0) rfl (j:=1) rfl) .nil) fun a25 hf36=>?_
     refine n_block ?_
     refine n_then ?_
     refine c_q [] [1,3,4] hf36 .nil fun a26 hf37=>?_
     refine n_then ?_
     exact ⟨n1,Nat.lt_succ_self n1,z2,(w64 (y1 + p1.mass)),(w64 (y2 + (1:Int))),(zt k2 k5),hf37.to,(St.drop 1 hS8),hr17⟩
  ·have hr18:=cond_f hb2 hr3
   refine c_exit 0 ?_
   refine x_then ?_
   refine x_then ?_
   refine x_block ?_
   refine n_then ?_
   refine c_sq [] [2] hf9 .nil fun a27 hf39=>?_
   refine c_ret ?_
   refine c_rt [] (.bool (decide (y1≤(100000000:Int)))) hf39 .nil ?_
   obtain rfl:=some_eq hr18
   exact ⟨_,rfl,z1,k2,rfl,(St.drop 1 hS2)⟩
def F92_l1 (x0:List Part):Nat→Int→Int→Option (Int)
  | 0,_,_=>none
  | n1 + 1,y1,y2 =>
    let k1:Int→Int→Option (Int):=F92_l1 x0 n1
    (cond (decide (y2<(x0.length:Int))) ((getI x0 y2).bind fun p1=>(k1 (w64 (y1 + p1.mass)) (w64 (y2 + (1:Int))))) (some (y1)))
def F92 (fuel:Nat) (x0:List Part):Option (Int) :=
  (F92_l1 x0 fuel 0 0)
set_option maxRecDepth 100000 in
theorem f92_ok (fuel:Nat) (x0:List Part) (r:Int) (hr:F92 fuel x0=some r) (h:Zone) (L:List Atom) (w:World) (hS:St h L w) (o_x0:Option Addr) (c_x0:Nat) (hx_x0:SliceR PartT h o_x0 c_x0 x0) :
    Calls Try.prog 92 #[.agg #[.slice o_x0 x0.length c_x0]] w fun e w'=>∃v,e= .returned v∧(∃h',Zone.le h h'∧v=vI r∧St h' L w'):=by
 refine calls_intro (N:=21) Try.func92 (by kernel_rfl) fun a hf=>?_
 refine c_sr ?_
 refine c_box [.slice o_x0 x0.length c_x0] 40 hS hf fun b1 ww1 a1 hS1 hf1=>⟨fun _=>trivial,?_⟩
 refine c_t [] [1] hf1 .nil fun a2 hf2=>?_
 refine c_sq [] [1,3] hf2 .nil fun a3 hf3=>?_
 refine c_seq ?_
 refine c_sq [] [1,3,4] hf3 .nil fun a4 hf4=>?_
 refine c_block 0 ?_
 refine c_loop (fun n a w=>∃z1:Zone,∃y1:Int,∃y2:Int,Zone.le h z1∧Fr a 21 [(1,pB b1 0),(3,vI y1),(4,vI y2)]∧St z1 (box b1 [.slice o_x0 x0.length c_x0] 40::L) w∧(F92_l1 x0 n y1 y2)=some r) fuel ⟨h,0,0,zr,hf4.to,hS1,hr⟩ ?_
 rintro n2 a5 ww2 ⟨z1,y1,y2,k2,hf6,hS2,hr1⟩
 cases n2 with
 | zero=>cases hr1
 | succ n1 =>
 refine c_seq ?_
 refine c_sq [.slice o_x0 x0.length c_x0] [1,3,4,9] hf6 (.cell (hS2.box (i:=0) rfl (j:=0) rfl) .nil) fun a6 hf7=>?_
 refine c_if (decide (y2<(x0.length:Int))) hf7 (fun hb1=>?_) (fun hb1=>?_)
 ·have hr2:=cond_t hb1 hr1
  refine c_skip ?_
  refine n_then ?_
  refine c_seq ?_
  refine c_block 1 ?_
  obtain ⟨p1,hp309,hr3⟩:=bind_some hr2
  obtain ⟨ad1,ho1,hb2,cc1,hc1,hk1⟩:=SliceR.getI (SliceR.mono k2 hx_x0) hp309
  subst hc1
  refine c_q [.slice o_x0 x0.length c_x0, .pointer (some ad1),vI p1.mass] [1,3,4] hf7 (.cell (hS2.box (i:=0) rfl (j:=0) rfl) (.prop ho1 (.prop hb2 (.cell (hS2.cell (hk1 1 _ rfl)) .nil)))) fun a7 hf8=>?_
  refine n_block ?_
  refine n_then ?_
  refine c_q [] [1,3,4] hf8 .nil fun a8 hf9=>?_
  refine n_then ?_
  exact ⟨n1,Nat.lt_succ_self n1,z1,(w64 (y1 + p1.mass)),(w64 (y2 + (1:Int))),k2,hf9.to,hS2,hr3⟩
 ·have hr4:=cond_f hb1 hr1
  refine c_exit 0 ?_
  refine x_then ?_
  refine x_then ?_
  refine x_block ?_
  refine n_then ?_
  refine c_sq [] [2] hf7 .nil fun a9 hf11=>?_
  refine c_ret ?_
  refine c_rt [] (vI y1) hf11 .nil ?_
  obtain rfl:=some_eq hr4
  exact ⟨_,rfl,z1,k2,rfl,(St.drop 1 hS2)⟩
def F77_l1 (fuel:Nat) (x0:List (List Part)):Nat→Int→Int→Option (Int)
  | 0,_,_=>none
  | n1 + 1,y1,y2 =>
    let k1:Int→Int→Option (Int):=F77_l1 fuel x0 n1
    (cond (decide (y2<(x0.length:Int))) ((getI x0 y2).bind fun p1=>((F92 fuel p1).bind fun r1=>(k1 (w64 (y1 + r1)) (w64 (y2 + (1:Int)))))) (some (y1)))
def F77 (fuel:Nat) (x0:List (List Part)):Option (Int) :=
  (F77_l1 fuel x0 fuel 0 0)
set_option maxRecDepth 100000 in
theorem f77_ok (fuel:Nat) (x0:List (List Part)) (r:Int) (hr:F77 fuel x0=some r) (h:Zone) (L:List Atom) (w:World) (hS:St h L w) (o_x0:Option Addr) (c_x0:Nat) (hx_x0:SliceR (Ty.slice PartT) h o_x0 c_x0 x0) :
    Calls Try.prog 77 #[.slice o_x0 x0.length c_x0] w fun e w'=>∃v,e= .returned v∧(∃h',Zone.le h h'∧v=vI r∧St h' L w'):=by
 refine calls_intro (N:=19) Try.func77 (by kernel_rfl) fun a hf=>?_
 refine c_sq [] [0] hf .nil fun a1 hf1=>?_
 refine c_sq [] [0,3] hf1 .nil fun a2 hf2=>?_
 refine c_seq ?_
 refine c_sq [] [0,3,4] hf2 .nil fun a3 hf3=>?_
 refine c_block 0 ?_
 refine c_loop (fun n a w=>∃z1:Zone,∃y1:Int,∃y2:Int,Zone.le h z1∧Fr a 19 [(0, .slice o_x0 x0.length c_x0),(3,vI y1),(4,vI y2)]∧St z1 (L) w∧(F77_l1 fuel x0 n y1 y2)=some r) fuel ⟨h,0,0,zr,hf3.to,hS,hr⟩ ?_
 rintro n2 a4 ww1 ⟨z1,y1,y2,k2,hf5,hS1,hr1⟩
 cases n2 with
 | zero=>cases hr1
 | succ n1 =>
 refine c_seq ?_
 refine c_sq [] [0,3,4,8] hf5 .nil fun a5 hf6=>?_
 refine c_if (decide (y2<(x0.length:Int))) hf6 (fun hb1=>?_) (fun hb1=>?_)
 ·have hr2:=cond_t hb1 hr1
  refine c_skip ?_
  refine n_then ?_
  refine c_seq ?_
  refine c_block 1 ?_
  refine c_reg ?_
  obtain ⟨p1,hp604,hr3⟩:=bind_some hr2
  obtain ⟨ad1,ho1,hb2,cc1,hc1,hk1⟩:=SliceR.getI (SliceR.mono k2 hx_x0) hp604
  obtain ⟨e1,q1,rfl,hx1⟩:=hc1
  refine c_n 5 [.pointer (some ad1), .slice e1 p1.length q1] [0,4,11,15] hf6 (.prop ho1 (.prop hb2 (.cell (hS1.cell (hk1 0 _ rfl)) .nil))) fun a6 hf7=>?_
  obtain ⟨r1,hd1,hr4⟩:=bind_some hr3
  refine c_call hf7 (f92_ok fuel p1 r1 hd1 z1 _ _ hS1 e1 q1 hx1) ?_
  rintro v1 ww2 a7 ⟨z2,k3,rfl,hS2⟩ hf8
  refine ⟨fun _=>trivial,?_⟩
  refine c_z [] [0,3,4] hf8 .nil fun a8 hf9=>?_
  refine n_block ?_
  refine n_then ?_
  refine c_q [] [0,3,4] hf9 .nil fun a9 hf10=>?_
  refine n_then ?_
  exact ⟨n1,Nat.lt_succ_self n1,z2,(w64 (y1 + r1)),(w64 (y2 + (1:Int))),(zt k2 k3),hf10.to,hS2,hr4⟩
 ·have hr5:=cond_f hb1 hr1
  refine c_exit 0 ?_
  refine x_then ?_
  refine x_then ?_
  refine x_block ?_
  refine n_then ?_
  refine c_sq [] [2] hf6 .nil fun a10 hf12=>?_
  refine c_ret ?_
  refine c_rt [] (vI y1) hf12 .nil ?_
  obtain rfl:=some_eq hr5
  exact ⟨_,rfl,z1,k2,rfl,hS1⟩
def F22_l3 (fuel:Nat) (k1:Int→Option (Int)) (x0l:List Lot) (p1:List (List Part)) (y1:Int):Nat→Int→Option (Int)
  | 0,_=>none
  | n1 + 1,y2 =>
    let k2:Int→Option (Int):=F22_l3 fuel k1 x0l p1 y1 n1
    ((getI p1 y1).bind fun p2=>(cond (decide (y2<(p2.length:Int))) ((getI p1 y1).bind fun p3=>((getI p3 y2).bind fun p4=>((F56 fuel x0l p4.lot).bind fun r1=>(cond (decide (r1<(0:Int))) (some (62)) (k2 (w64 (y2 + (1:Int)))))))) (k1 (w64 (y1 + (1:Int))))))
def F22_j1 (fuel:Nat) (k1:Int→Option (Int)) (x0l:List Lot) (p1:List (List Part)) (y1:Int) (y3:Bool):Option (Int) :=
  (cond y3 (some (62)) (F22_l3 fuel k1 x0l p1 y1 fuel 0))
def F22_l2 (fuel:Nat) (k3:Int→Option (Int)) (x0l:List Lot) (y4:Int) (p1:List (List Part)):Nat→Int→Option (Int)
  | 0,_=>none
  | n2 + 1,y1 =>
    let k1:Int→Option (Int):=F22_l2 fuel k3 x0l y4 p1 n2
    (cond (decide (y1<(p1.length:Int))) ((getI p1 y1).bind fun p5=>((F76 fuel p5).bind fun r2=>(cond (!r2) (F22_j1 fuel k1 x0l p1 y1 true) ((getI p1 y1).bind fun p6=>(F22_j1 fuel k1 x0l p1 y1 ((p6.length:Int) == (0:Int))))))) ((F77 fuel p1).bind fun r3=>(cond (decide (r3 > (100000000:Int))) (some (62)) (k3 (w64 (y4 + (1:Int)))))))
def F22_l1 (fuel:Nat) (x0l:List Lot) (x0h:List (List (List Part))):Nat→Int→Option (Int)
  | 0,_=>none
  | n3 + 1,y4 =>
    let k3:Int→Option (Int):=F22_l1 fuel x0l x0h n3
    (cond (decide (y4<(9:Int))) ((getI x0h y4).bind fun p1=>(cond (decide ((p1.length:Int) > (4:Int))) (some (62)) (F22_l2 fuel k3 x0l y4 p1 fuel 0))) (some (0)))
def F22 (fuel:Nat) (x0l:List Lot) (x0h:List (List (List Part))):Option (Int) :=
  ((F20 fuel x0l).bind fun r4=>(cond (r4 != (0:Int)) (some (62)) (F22_l1 fuel x0l x0h fuel 0)))
set_option maxRecDepth 100000 in
theorem f22_ok (fuel:Nat) (x0l:List Lot) (x0h:List (List (List Part))) (r:Int) (hr:F22 fuel x0l x0h=some r) (h:Zone) (L:List Atom) (w:World) (hS:St h L w) (o_x0l:Option Addr) (c_x0l:Nat) (hx_x0l:SliceR LotT h o_x0l c_x0l x0l) (V00 V01 V02 V03 V04 V05 V06 V07 V08:Value) (hx_x0h:(Ty.arr 9 (Ty.slice (Ty.slice PartT))).rep h [V00,V01,V02,V03,V04,V05,V06,V07,V08] x0h) :
    Calls Try.prog 22 #[.agg #[.slice o_x0l x0l.length c_x0l,V00,V01,V02,V03,V04,V05,V06,V07,V08]] w fun e w'=>∃v,e= .returned v∧(∃h',Zone.le h h'∧v=vI r∧St h' L w'):=by
 refine calls_intro (N:=69) Try.func22 (by kernel_rfl) fun a hf=>?_
 refine c_sr ?_
 refine c_box [.slice o_x0l x0l.length c_x0l,V00,V01,V02,V03,V04,V05,V06,V07,V08] 26 hS hf fun b1 ww1 a1 hS1 hf1=>⟨fun _=>trivial,?_⟩
 refine c_t [] [1] hf1 .nil fun a2 hf2=>?_
 refine c_seq ?_
 refine c_sr ?_
 refine c_n 2 [.slice o_x0l x0l.length c_x0l] [1,8] hf2 (.cell (hS1.box (i:=0) rfl (j:=0) rfl) .nil) fun a3 hf3=>?_
 obtain ⟨r4,hd1,hr1⟩:=bind_some hr
 refine c_call hf3 (f20_ok fuel x0l r4 hd1 h _ _ hS1 o_x0l c_x0l hx_x0l) ?_
 rintro v1 ww2 a4 ⟨z1,k4,rfl,hS2⟩ hf4
 refine ⟨fun _=>trivial,?_⟩
 refine c_t [] [1,10] hf4 .nil fun a5 hf5=>?_
 refine c_if (r4 != (0:Int)) hf5 (fun hb1=>?_) (fun hb1=>?_)
 ·have hr2:=cond_t hb1 hr1
  refine c_sq [] [2] hf5 .nil fun a6 hf6=>?_
  refine c_ret ?_
  refine r_then ?_
  refine c_rt [] (vI 62) hf6 .nil ?_
  obtain rfl:=some_eq hr2
  exact ⟨_,rfl,z1,k4,rfl,(St.drop 1 hS2)⟩
 ·have hr3:=cond_f hb1 hr1
  refine c_skip ?_
  refine n_then ?_
  refine c_seq ?_
  refine c_sq [] [1,3] hf5 .nil fun a7 hf7=>?_
  refine c_block 0 ?_
  refine c_loop (fun n a w=>∃z2:Zone,∃y4:Int,Zone.le z1 z2∧Fr a 69 [(1,pB b1 0),(3,vI y4)]∧St z2 (box b1 [.slice o_x0l x0l.length c_x0l,V00,V01,V02,V03,V04,V05,V06,V07,V08] 26::L) w∧(F22_l1 fuel x0l x0h n y4)=some r) fuel ⟨z1,0,zr,hf7.to,hS2,hr3⟩ ?_
  rintro n4 a8 ww3 ⟨z2,y4,k5,hf9,hS3,hr4⟩
  cases n4 with
  | zero=>cases hr4
  | succ n3 =>
  refine c_seq ?_
  refine c_sq [] [1,3,12] hf9 .nil fun a9 hf10=>?_
  refine c_if (decide (y4<(9:Int))) hf10 (fun hb2=>?_) (fun hb2=>?_)
  ·have hr5:=cond_t hb2 hr4
   refine c_skip ?_
   refine n_then ?_
   refine c_seq ?_
   refine c_block 1 ?_
   obtain ⟨p1,hp183580,hr6⟩:=bind_some hr5
   obtain ⟨hb3,_,hv1,e1,q1,hehv183584,hx1⟩:=arrGet (Ty.mono _ (zt k4 k5) hx_x0h) rfl hp183580
   obtain rfl:=List.head_eq_of_cons_eq hehv183584
   refine c_sq [.slice e1 p1.length q1] [1,3,4] hf10 (.prop hb3 (.cell ((arrAddr b1 1 y4.toNat) ▸ (hS3.box (i:=0) rfl (getElem?_app_right [.slice o_x0l x0l.length c_x0l] _ _ hv1 []))) .nil)) fun a10 hf11=>?_
   refine c_seq ?_
   refine c_sq [] [1,3,4,21] hf11 .nil fun a11 hf12=>?_
   refine c_if (decide ((p1.length:Int) > (4:Int))) hf12 (fun hb4=>?_) (fun hb4=>?_)
   ·have hr7:=cond_t hb4 hr6
    refine c_sq [] [2] hf12 .nil fun a12 hf13=>?_
    refine c_ret ?_
    refine r_then ?_
    refine r_block ?_
    refine r_then ?_
    refine r_then ?_
    refine r_block ?_
    refine r_then ?_
    refine c_rt [] (vI 62) hf13 .nil ?_
    obtain rfl:=some_eq hr7
    exact ⟨_,rfl,z2,(zt k4 k5),rfl,(St.drop 1 hS3)⟩
   ·have hr8:=cond_f hb4 hr6
    refine c_skip ?_
    refine n_then ?_
    refine c_seq ?_
    refine c_sq [] [1,3,4,5] hf12 .nil fun a13 hf14=>?_
    refine c_block 2 ?_
    refine c_loop (fun n a w=>∃z3:Zone,∃y1:Int,Zone.le z2 z3∧Fr a 69 [(1,pB b1 0),(3,vI y4),(4, .slice e1 p1.length q1),(5,vI y1)]∧St z3 (box b1 [.slice o_x0l x0l.length c_x0l,V00,V01,V02,V03,V04,V05,V06,V07,V08] 26::L) w∧(F22_l2 fuel (F22_l1 fuel x0l x0h n3) x0l y4 p1 n y1)=some r) fuel ⟨z2,0,zr,hf14.to,hS3,hr8⟩ ?_
    rintro n5 a14 ww4 ⟨z3,y1,k6,hf16,hS4,hr9⟩
    cases n5 with
    | zero=>cases hr9
    | succ n2 =>
    refine c_seq ?_
    refine c_sq [] [1,3,4,5,25] hf16 .nil fun a15 hf17=>?_
    refine c_if (decide (y1<(p1.length:Int))) hf17 (fun hb5=>?_) (fun hb5=>?_)
    ·have hr10:=cond_t hb5 hr9
     refine c_skip ?_
     refine n_then ?_
     refine c_seq ?_
     refine c_block 3 ?_
     refine c_seq ?_
     refine c_mid (fun a w=>∃z4:Zone,∃y3:Bool,Zone.le z3 z4∧Fr a 69 [(1,pB b1 0),(3,vI y4),(4, .slice e1 p1.length q1),(5,vI y1),(42, .bool y3)]∧St z4 (box b1 [.slice o_x0l x0l.length c_x0l,V00,V01,V02,V03,V04,V05,V06,V07,V08] 26::L) w∧(F22_j1 fuel (F22_l2 fuel (F22_l1 fuel x0l x0h n3) x0l y4 p1 n2) x0l p1 y1 y3)=some r) ?_ ?_
     ·skip
      refine c_reg ?_
      obtain ⟨p5,hp195252,hr11⟩:=bind_some hr10
      obtain ⟨ad1,ho1,hb6,cc1,hc1,hk1⟩:=SliceR.getI (SliceR.mono k6 hx1) hp195252
      obtain ⟨e2,q2,rfl,hx2⟩:=hc1
      refine c_n 4 [.pointer (some ad1), .slice e2 p5.length q2] [1,3,4,5,31] hf17 (.prop ho1 (.prop hb6 (.cell (hS4.cell (hk1 0 _ rfl)) .nil))) fun a16 hf18=>?_
      obtain ⟨r2,hd2,hr12⟩:=bind_some hr11
      refine c_call hf18 (f76_ok fuel p5 r2 hd2 z3 _ _ hS4 e2 q2 hx2) ?_
      rintro v2 ww5 a17 ⟨z5,k7,rfl,hS5⟩ hf19
      refine ⟨fun _=>trivial,?_⟩
      refine c_n 2 [] [1,3,4,5,34] hf19 .nil fun a18 hf20=>?_
      rcases bft (!r2) with hb7 | hb7
      ·have hr13:=cond_t hb7 hr12
       have hf21:=hf20.lit 34 hb7
       refine c_t [] [1,3,4,5,35,36,37,38,39,40,41,42] hf21 .nil fun a19 hf22=>?_
       exact ⟨z5,true,k7,hf22.to,hS5,hr13⟩
      ·have hr14:=cond_f hb7 hr12
       have hf24:=hf20.lit 34 hb7
       obtain ⟨p6,hp195291,hr15⟩:=bind_some hr14
       obtain ⟨ad2,ho2,hb8,cc2,hc2,hk2⟩:=SliceR.getI (SliceR.mono (zt k6 k7) hx1) hp195291
       obtain ⟨e3,q3,rfl,hx3⟩:=hc2
       refine c_t [.pointer (some ad2), .slice e3 p6.length q3] [1,3,4,5,35,36,37,38,39,40,41,42] hf24 (.prop ho2 (.prop hb8 (.cell (hS5.cell (hk2 0 _ rfl)) .nil))) fun a20 hf25=>?_
       exact ⟨z5,((p6.length:Int) == (0:Int)),k7,hf25.to,hS5,hr15⟩
     ·rintro a21 ww6 ⟨z4,y3,k8,hf27,hS6,hr16⟩
      refine c_if y3 hf27 (fun hb9=>?_) (fun hb9=>?_)
      ·have hr17:=cond_t hb9 hr16
       refine c_sq [] [2] hf27 .nil fun a22 hf28=>?_
       refine c_ret ?_
       refine r_then ?_
       refine r_block ?_
       refine r_then ?_
       refine r_then ?_
       refine r_block ?_
       refine r_then ?_
       refine r_block ?_
       refine r_then ?_
       refine r_then ?_
       refine r_block ?_
       refine r_then ?_
       refine c_rt [] (vI 62) hf28 .nil ?_
       obtain rfl:=some_eq hr17
       exact ⟨_,rfl,z4,(zt (zt (zt k4 k5) k6) k8),rfl,(St.drop 1 hS6)⟩
      ·have hr18:=cond_f hb9 hr16
       refine c_skip ?_
       refine n_then ?_
       refine c_sq [] [1,3,4,5,6] hf27 .nil fun a23 hf29=>?_
       refine c_block 4 ?_
       refine c_loop (fun n a w=>∃z6:Zone,∃y2:Int,Zone.le z4 z6∧Fr a 69 [(1,pB b1 0),(3,vI y4),(4, .slice e1 p1.length q1),(5,vI y1),(6,vI y2)]∧St z6 (box b1 [.slice o_x0l x0l.length c_x0l,V00,V01,V02,V03,V04,V05,V06,V07,V08] 26::L) w∧(F22_l3 fuel (F22_l2 fuel (F22_l1 fuel x0l x0h n3) x0l y4 p1 n2) x0l p1 y1 n y2)=some r) fuel ⟨z4,0,zr,hf29.to,hS6,hr18⟩ ?_
       rintro n6 a24 ww7 ⟨z6,y2,k9,hf31,hS7,hr19⟩
       cases n6 with
       | zero=>cases hr19
       | succ n1 =>
       refine c_seq ?_
       obtain ⟨p2,hp195728,hr20⟩:=bind_some hr19
       obtain ⟨ad3,ho3,hb10,cc3,hc3,hk3⟩:=SliceR.getI (SliceR.mono (zt (zt k6 k8) k9) hx1) hp195728
       obtain ⟨e4,q4,rfl,hx4⟩:=hc3
       refine c_sq [.pointer (some ad3), .slice e4 p2.length q4] [1,3,4,5,6,50] hf31 (.prop ho3 (.prop hb10 (.cell (hS7.cell (hk3 0 _ rfl)) .nil))) fun a25 hf32=>?_
       refine c_if (decide (y2<(p2.length:Int))) hf32 (fun hb11=>?_) (fun hb11=>?_)
       ·have hr21:=cond_t hb11 hr20
        refine c_skip ?_
        refine n_then ?_
        refine c_seq ?_
        refine c_block 5 ?_
        refine c_seq ?_
        have hS8:=hS7.drew
        refine c_regD [(0,true),(1,true),(2,true),(3,true),(4,true),(5,true),(6,true),(7,true),(8,true),(9,true),(10,true),(11,false),(12,true)] [11] (fun x=>x=ww7.drew) rfl ?_
        obtain ⟨p3,hp195792,hr22⟩:=bind_some hr21
        obtain ⟨ad4,ho4,hb12,cc4,hc4,hk4⟩:=SliceR.getI (SliceR.mono (zt (zt k6 k8) k9) hx1) hp195792
        obtain ⟨e5,q5,rfl,hx5⟩:=hc4
        obtain ⟨p4,hp195804,hr23⟩:=bind_some hr22
        obtain ⟨ad5,ho5,hb13,cc5,hc5,hk5⟩:=SliceR.getI hx5 hp195804
        subst hc5
        refine c_E 11 [.slice o_x0l x0l.length c_x0l, .pointer (some ad4), .slice e5 p3.length q5, .pointer (some ad5),vI p4.lot] [1,3,4,5,6,54,63] hf32 (.cell (hS8.box (i:=0) rfl (j:=0) rfl) (.prop ho4 (.prop hb12 (.cell (hS8.cell (hk4 0 _ rfl)) (.prop ho5 (.prop hb13 (.cell (hS8.cell (hk5 0 _ rfl)) .nil))))))) .nil fun a26 hf33=>?_
        obtain ⟨r1,hd3,hr24⟩:=bind_some hr23
        refine c_call hf33 (f56_ok fuel x0l p4.lot r1 hd3 z6 _ _ hS8 o_x0l c_x0l (SliceR.mono (zt (zt (zt (zt k4 k5) k6) k8) k9) hx_x0l)) ?_
        rintro v3 ww8 a27 ⟨z7,k10,rfl,hS9⟩ hf34
        refine ⟨fun e=>absurd e (by decide),?_⟩
        refine p_qP 1 [] [(1,pB b1 0),(3,vI y4),(4, .slice e1 p1.length q1),(5,vI y1),(6,vI y2),(65, .bool (decide (r1<(0:Int))))] [] hf34 (by kernel_rfl) (fun _=> .nil) fun a28 hf35=>?_
        refine c_dt ?_
        refine c_if (decide (r1<(0:Int))) hf35 (fun hb14=>?_) (fun hb14=>?_)
        ·have hr25:=cond_t hb14 hr24
         refine c_sq [] [2] hf35 .nil fun a29 hf36=>?_
         refine c_ret ?_
         refine r_block ?_
         refine r_then ?_
         refine r_then ?_
         refine r_block ?_
         refine r_block ?_
         refine r_then ?_
         refine r_then ?_
         refine r_block ?_
         refine r_then ?_
         refine r_block ?_
         refine r_then ?_
         refine r_then ?_
         refine r_block ?_
         refine r_then ?_
         refine c_rt [] (vI 62) hf36 .nil ?_
         obtain rfl:=some_eq hr25
         exact ⟨_,rfl,z7,(zt (zt (zt (zt (zt k4 k5) k6) k8) k9) k10),rfl,(St.drop 1 hS9)⟩
        ·have hr26:=cond_f hb14 hr24
         refine c_skip ?_
         refine n_block ?_
         refine n_then ?_
         refine c_q [] [1,3,4,5,6] hf35 .nil fun a30 hf37=>?_
         refine n_then ?_
         exact ⟨n1,Nat.lt_succ_self n1,z7,(w64 (y2 + (1:Int))),(zt k9 k10),hf37.to,hS9,hr26⟩
       ·have hr27:=cond_f hb11 hr20
        refine c_exit 4 ?_
        refine x_then ?_
        refine x_then ?_
        refine x_block ?_
        refine n_block ?_
        refine n_then ?_
        refine c_q [] [1,3,4,5] hf32 .nil fun a31 hf39=>?_
        refine n_then ?_
        exact ⟨n2,Nat.lt_succ_self n2,z6,(w64 (y1 + (1:Int))),(zt (zt k6 k8) k9),hf39.to,hS7,hr27⟩
    ·have hr28:=cond_f hb5 hr9
     refine c_exit 2 ?_
     refine x_then ?_
     refine x_then ?_
     refine x_block ?_
     refine n_then ?_
     refine c_sr ?_
     refine c_n 1 [] [1,3,66] hf17 .nil fun a32 hf41=>?_
     obtain ⟨r3,hd4,hr29⟩:=bind_some hr28
     refine c_call hf41 (f77_ok fuel p1 r3 hd4 z3 _ _ hS4 e1 q1 (SliceR.mono k6 hx1)) ?_
     rintro v4 ww9 a33 ⟨z8,k11,rfl,hS10⟩ hf42
     refine ⟨fun _=>trivial,?_⟩
     refine c_t [] [1,3,68] hf42 .nil fun a34 hf43=>?_
     refine c_if (decide (r3 > (100000000:Int))) hf43 (fun hb15=>?_) (fun hb15=>?_)
     ·have hr30:=cond_t hb15 hr29
      refine c_sq [] [2] hf43 .nil fun a35 hf44=>?_
      refine c_ret ?_
      refine r_block ?_
      refine r_then ?_
      refine r_then ?_
      refine r_block ?_
      refine r_then ?_
      refine c_rt [] (vI 62) hf44 .nil ?_
      obtain rfl:=some_eq hr30
      exact ⟨_,rfl,z8,(zt (zt (zt k4 k5) k6) k11),rfl,(St.drop 1 hS10)⟩
     ·have hr31:=cond_f hb15 hr29
      refine c_skip ?_
      refine n_block ?_
      refine n_then ?_
      refine c_q [] [1,3] hf43 .nil fun a36 hf45=>?_
      refine n_then ?_
      exact ⟨n3,Nat.lt_succ_self n3,z8,(w64 (y4 + (1:Int))),(zt (zt k5 k6) k11),hf45.to,hS10,hr31⟩
  ·have hr32:=cond_f hb2 hr4
   refine c_exit 0 ?_
   refine x_then ?_
   refine x_then ?_
   refine x_block ?_
   refine n_then ?_
   refine c_sq [] [2] hf10 .nil fun a37 hf47=>?_
   refine c_ret ?_
   refine c_rt [] (vI 0) hf47 .nil ?_
   obtain rfl:=some_eq hr32
   exact ⟨_,rfl,z2,(zt k4 k5),rfl,(St.drop 1 hS3)⟩
def F118 (fuel:Nat) (x0:Int):Option (Bool) :=
  ((F72 fuel x0 0 8).bind fun r1=>(some (r1)))
set_option maxRecDepth 100000 in
theorem f118_ok (fuel:Nat) (x0:Int) (r:Bool) (hr:F118 fuel x0=some r) (h:Zone) (L:List Atom) (w:World) (hS:St h L w)  :
    Calls Try.prog 118 #[vI x0] w fun e w'=>∃v,e= .returned v∧(∃h',Zone.le h h'∧v= .bool r∧St h' L w'):=by
 refine calls_intro (N:=5) Try.func118 (by kernel_rfl) fun a hf=>?_
 refine c_sq [] [0] hf .nil fun a1 hf1=>?_
 refine c_sr ?_
 refine c_n 1 [] [3] hf1 .nil fun a2 hf2=>?_
 obtain ⟨r1,hd1,hr1⟩:=bind_some hr
 refine c_call hf2 (f72_ok fuel x0 0 8 r1 hd1 h _ _ hS ) ?_
 rintro v1 ww1 a3 ⟨z1,k1,rfl,hS1⟩ hf3
 refine ⟨fun _=>trivial,?_⟩
 refine c_t [] [2] hf3 .nil fun a4 hf4=>?_
 refine c_ret ?_
 refine c_rt [] (.bool r1) hf4 .nil ?_
 obtain rfl:=some_eq hr1
 exact ⟨_,rfl,z1,k1,rfl,hS1⟩
def F79_j2 (y1:Bool):Option (Bool) :=
  (some (y1))
def F79_j5 (y2:Bool):Option (Bool) :=
  (some (y2))
def F79_j6 (y3:Bool):Option (Bool) :=
  (some (y3))
def F79_j7 (y4:Bool):Option (Bool) :=
  (some (y4))
def F79_j4 (fuel:Nat) (x0l:List Lot) (x1k:Int) (x1o:Int) (x1f:Int) (x1t:Int) (y5:Bool):Option (Bool) :=
  (cond y5 (cond (x1f == (0:Int)) ((F56 fuel x0l x1o).bind fun r1=>(F79_j5 (decide (r1≥(0:Int))))) (F79_j5 false)) (cond (x1k == (4:Int)) (cond (x1o == (0:Int)) (F79_j6 (x1f != x1t)) (F79_j6 false)) (cond (x1o == (0:Int)) (F79_j7 (x1t == (0:Int))) (F79_j7 false))))
def F79_j3 (fuel:Nat) (x0l:List Lot) (x1k:Int) (x1o:Int) (x1f:Int) (x1t:Int) (y6:Bool):Option (Bool) :=
  (cond y6 (some (false)) (cond (x1k == (1:Int)) (F79_j4 fuel x0l x1k x1o x1f x1t (x1k == (1:Int))) (F79_j4 fuel x0l x1k x1o x1f x1t (x1k == (2:Int)))))
def F79_j1 (fuel:Nat) (x0l:List Lot) (x1k:Int) (x1o:Int) (x1f:Int) (x1t:Int) (x1m:Int) (y7:Bool):Option (Bool) :=
  (cond y7 (some (false)) (cond (x1k == (6:Int)) (cond (x1o == (0:Int)) (cond (x1t == (0:Int)) (cond (x1m == (0:Int)) ((F118 fuel x1f).bind fun r2=>(F79_j2 r2)) (F79_j2 false)) (F79_j2 false)) (F79_j2 false)) ((F72 fuel x1m 1 100000000).bind fun r3=>(cond (!r3) (F79_j3 fuel x0l x1k x1o x1f x1t true) ((F118 fuel x1f).bind fun r4=>(cond (!r4) (F79_j3 fuel x0l x1k x1o x1f x1t true) ((F118 fuel x1t).bind fun r5=>(F79_j3 fuel x0l x1k x1o x1f x1t (!r5)))))))))
def F79 (fuel:Nat) (x0l:List Lot) (x0h:List (List (List Part))) (x1k:Int) (x1o:Int) (x1f:Int) (x1t:Int) (x1m:Int):Option (Bool) :=
  (cond (decide (x1k<(1:Int))) (F79_j1 fuel x0l x1k x1o x1f x1t x1m true) (F79_j1 fuel x0l x1k x1o x1f x1t x1m (decide (x1k > (6:Int)))))
set_option maxRecDepth 100000 in
theorem f79_ok (fuel:Nat) (x0l:List Lot) (x0h:List (List (List Part))) (x1k:Int) (x1o:Int) (x1f:Int) (x1t:Int) (x1m:Int) (r:Bool) (hr:F79 fuel x0l x0h x1k x1o x1f x1t x1m=some r) (h:Zone) (L:List Atom) (w:World) (hS:St h L w) (o_x0l:Option Addr) (c_x0l:Nat) (hx_x0l:SliceR LotT h o_x0l c_x0l x0l) (V00 V01 V02 V03 V04 V05 V06 V07 V08:Value) (hx_x0h:(Ty.arr 9 (Ty.slice (Ty.slice PartT))).rep h [V00,V01,V02,V03,V04,V05,V06,V07,V08] x0h) :
    Calls Try.prog 79 #[.agg #[.slice o_x0l x0l.length c_x0l,V00,V01,V02,V03,V04,V05,V06,V07,V08], .agg #[vI x1k,vI x1o,vI x1f,vI x1t,vI x1m]] w fun e w'=>∃v,e= .returned v∧(∃h',Zone.le h h'∧v= .bool r∧St h' L w'):=by
 refine calls_intro (N:=86) Try.func79 (by kernel_rfl) fun a hf=>?_
 refine c_sr ?_
 refine c_box [.slice o_x0l x0l.length c_x0l,V00,V01,V02,V03,V04,V05,V06,V07,V08] 26 hS hf fun b1 ww1 a1 hS1 hf1=>⟨fun _=>trivial,?_⟩
 refine c_box [vI x1k,vI x1o,vI x1f,vI x1t,vI x1m] 28 hS1 hf1 fun b2 ww2 a2 hS2 hf2=>⟨fun _=>trivial,?_⟩
 refine c_t [] [2,3] hf2 .nil fun a3 hf3=>?_
 refine c_seq ?_
 refine c_mid (fun a w=>∃z1:Zone,∃y7:Bool,Zone.le h z1∧Fr a 86 [(2,pB b1 0),(3,pB b2 0),(12, .bool y7)]∧St z1 (box b2 [vI x1k,vI x1o,vI x1f,vI x1t,vI x1m] 28::box b1 [.slice o_x0l x0l.length c_x0l,V00,V01,V02,V03,V04,V05,V06,V07,V08] 26::L) w∧(F79_j1 fuel x0l x1k x1o x1f x1t x1m y7)=some r) ?_ ?_
 ·skip
  refine c_reg ?_
  refine c_n 4 [vI x1k] [2,3,8] hf3 (.cell (hS2.box (i:=0) rfl (j:=0) rfl) .nil) fun a4 hf4=>?_
  rcases bft (decide (x1k<(1:Int))) with hb1 | hb1
  ·have hr1:=cond_t hb1 hr
   have hf5:=hf4.lit 8 hb1
   refine c_t [] [2,3,12] hf5 .nil fun a5 hf6=>?_
   exact ⟨h,true,zr,hf6.to,hS2,hr1⟩
  ·have hr2:=cond_f hb1 hr
   have hf8:=hf4.lit 8 hb1
   refine c_t [vI x1k] [2,3,12] hf8 (.cell (hS2.box (i:=0) rfl (j:=0) rfl) .nil) fun a6 hf9=>?_
   exact ⟨h,(decide (x1k > (6:Int))),zr,hf9.to,hS2,hr2⟩
 ·rintro a7 ww3 ⟨z1,y7,k1,hf11,hS3,hr3⟩
  refine c_if y7 hf11 (fun hb2=>?_) (fun hb2=>?_)
  ·have hr4:=cond_t hb2 hr3
   refine c_sq [] [4] hf11 .nil fun a8 hf12=>?_
   refine c_ret ?_
   refine r_then ?_
   refine c_rt [] (.bool false) hf12 .nil ?_
   obtain rfl:=some_eq hr4
   exact ⟨_,rfl,z1,k1,rfl,(St.drop 2 hS3)⟩
  ·have hr5:=cond_f hb2 hr3
   refine c_skip ?_
   refine n_then ?_
   refine c_seq ?_
   refine c_sq [vI x1k] [2,3,15] hf11 (.cell (hS3.box (i:=0) rfl (j:=0) rfl) .nil) fun a9 hf13=>?_
   refine c_if (x1k == (6:Int)) hf13 (fun hb3=>?_) (fun hb3=>?_)
   ·have hr6:=cond_t hb3 hr5
    refine c_mid (fun a w=>∃z2:Zone,∃y1:Bool,Zone.le z1 z2∧Fr a 86 [(4, .bool y1)]∧St z2 (box b2 [vI x1k,vI x1o,vI x1f,vI x1t,vI x1m] 28::box b1 [.slice o_x0l x0l.length c_x0l,V00,V01,V02,V03,V04,V05,V06,V07,V08] 26::L) w∧(F79_j2 y1)=some r) ?_ ?_
    ·skip
     refine c_reg ?_
     refine c_n 4 [vI x1o] [3,19] hf13 (.cell (hS3.box (i:=0) rfl (j:=1) rfl) .nil) fun a10 hf14=>?_
     rcases bft (x1o == (0:Int)) with hb4 | hb4
     ·have hr7:=cond_t hb4 hr6
      have hf15:=hf14.lit 19 hb4
      refine c_n 5 [vI x1t] [3,24] hf15 (.cell (hS3.box (i:=0) rfl (j:=3) rfl) .nil) fun a11 hf16=>?_
      rcases bft (x1t == (0:Int)) with hb5 | hb5
      ·have hr8:=cond_t hb5 hr7
       have hf17:=hf16.lit 24 hb5
       refine c_n 5 [vI x1m] [3,29] hf17 (.cell (hS3.box (i:=0) rfl (j:=4) rfl) .nil) fun a12 hf18=>?_
       rcases bft (x1m == (0:Int)) with hb6 | hb6
       ·have hr9:=cond_t hb6 hr8
        have hf19:=hf18.lit 29 hb6
        refine c_n 2 [vI x1f] [29,31] hf19 (.cell (hS3.box (i:=0) rfl (j:=2) rfl) .nil) fun a13 hf20=>?_
        obtain ⟨r2,hd1,hr10⟩:=bind_some hr9
        refine c_call hf20 (f118_ok fuel x1f r2 hd1 z1 _ _ hS3 ) ?_
        rintro v1 ww4 a14 ⟨z3,k2,rfl,hS4⟩ hf21
        refine ⟨fun _=>trivial,?_⟩
        refine c_t [] [4] hf21 .nil fun a15 hf22=>?_
        exact ⟨z3,r2,k2,hf22.to,hS4,hr10⟩
       ·have hr11:=cond_f hb6 hr8
        have hf24:=hf18.lit 29 hb6
        refine c_t [] [4] hf24 .nil fun a16 hf25=>?_
        exact ⟨z1,false,zr,hf25.to,hS3,hr11⟩
      ·have hr12:=cond_f hb5 hr7
       have hf27:=hf16.lit 24 hb5
       refine c_t [] [4] hf27 .nil fun a17 hf28=>?_
       exact ⟨z1,false,zr,hf28.to,hS3,hr12⟩
     ·have hr13:=cond_f hb4 hr6
      have hf30:=hf14.lit 19 hb4
      refine c_t [] [4] hf30 .nil fun a18 hf31=>?_
      exact ⟨z1,false,zr,hf31.to,hS3,hr13⟩
    ·rintro a19 ww5 ⟨z2,y1,k3,hf33,hS5,hr14⟩
     refine c_ret ?_
     refine r_then ?_
     refine c_rt [] (.bool y1) hf33 .nil ?_
     obtain rfl:=some_eq hr14
     exact ⟨_,rfl,z2,(zt k1 k3),rfl,(St.drop 2 hS5)⟩
   ·have hr15:=cond_f hb3 hr5
    refine c_skip ?_
    refine n_then ?_
    refine c_seq ?_
    refine c_mid (fun a w=>∃z4:Zone,∃y6:Bool,Zone.le z1 z4∧Fr a 86 [(2,pB b1 0),(3,pB b2 0),(49, .bool y6)]∧St z4 (box b2 [vI x1k,vI x1o,vI x1f,vI x1t,vI x1m] 28::box b1 [.slice o_x0l x0l.length c_x0l,V00,V01,V02,V03,V04,V05,V06,V07,V08] 26::L) w∧(F79_j3 fuel x0l x1k x1o x1f x1t y6)=some r) ?_ ?_
    ·skip
     refine c_reg ?_
     refine c_n 2 [vI x1m] [2,3,35] hf13 (.cell (hS3.box (i:=0) rfl (j:=4) rfl) .nil) fun a20 hf34=>?_
     obtain ⟨r3,hd2,hr16⟩:=bind_some hr15
     refine c_call hf34 (f72_ok fuel x1m 1 100000000 r3 hd2 z1 _ _ hS3 ) ?_
     rintro v2 ww6 a21 ⟨z5,k4,rfl,hS6⟩ hf35
     refine ⟨fun _=>trivial,?_⟩
     refine c_n 2 [] [2,3,38] hf35 .nil fun a22 hf36=>?_
     rcases bft (!r3) with hb7 | hb7
     ·have hr17:=cond_t hb7 hr16
      have hf37:=hf36.lit 38 hb7
      refine c_t [] [2,3,49] hf37 .nil fun a23 hf38=>?_
      exact ⟨z5,true,k4,hf38.to,hS6,hr17⟩
     ·have hr18:=cond_f hb7 hr16
      have hf40:=hf36.lit 38 hb7
      refine c_n 2 [vI x1f] [2,3,38,40] hf40 (.cell (hS6.box (i:=0) rfl (j:=2) rfl) .nil) fun a24 hf41=>?_
      obtain ⟨r4,hd3,hr19⟩:=bind_some hr18
      refine c_call hf41 (f118_ok fuel x1f r4 hd3 z5 _ _ hS6 ) ?_
      rintro v3 ww7 a25 ⟨z6,k5,rfl,hS7⟩ hf42
      refine ⟨fun _=>trivial,?_⟩
      refine c_n 3 [] [2,3,44] hf42 .nil fun a26 hf43=>?_
      rcases bft (!r4) with hb8 | hb8
      ·have hr20:=cond_t hb8 hr19
       have hf44:=hf43.lit 44 hb8
       refine c_t [] [2,3,49] hf44 .nil fun a27 hf45=>?_
       exact ⟨z6,true,(zt k4 k5),hf45.to,hS7,hr20⟩
      ·have hr21:=cond_f hb8 hr19
       have hf47:=hf43.lit 44 hb8
       refine c_n 2 [vI x1t] [2,3,44,46] hf47 (.cell (hS7.box (i:=0) rfl (j:=3) rfl) .nil) fun a28 hf48=>?_
       obtain ⟨r5,hd4,hr22⟩:=bind_some hr21
       refine c_call hf48 (f118_ok fuel x1t r5 hd4 z6 _ _ hS7 ) ?_
       rintro v4 ww8 a29 ⟨z7,k6,rfl,hS8⟩ hf49
       refine ⟨fun _=>trivial,?_⟩
       refine c_t [] [2,3,49] hf49 .nil fun a30 hf50=>?_
       exact ⟨z7,(!r5),(zt (zt k4 k5) k6),hf50.to,hS8,hr22⟩
    ·rintro a31 ww9 ⟨z4,y6,k7,hf52,hS9,hr23⟩
     refine c_if y6 hf52 (fun hb9=>?_) (fun hb9=>?_)
     ·have hr24:=cond_t hb9 hr23
      refine c_sq [] [4] hf52 .nil fun a32 hf53=>?_
      refine c_ret ?_
      refine r_then ?_
      refine c_rt [] (.bool false) hf53 .nil ?_
      obtain rfl:=some_eq hr24
      exact ⟨_,rfl,z4,(zt k1 k7),rfl,(St.drop 2 hS9)⟩
     ·have hr25:=cond_f hb9 hr23
      refine c_skip ?_
      refine n_then ?_
      refine c_seq ?_
      refine c_sq [vI x1k] [2,3,51] hf52 (.cell (hS9.box (i:=0) rfl (j:=0) rfl) .nil) fun a33 hf54=>?_
      refine c_block 0 ?_
      refine c_mid (fun a w=>∃z8:Zone,∃y5:Bool,Zone.le z4 z8∧Fr a 86 [(2,pB b1 0),(3,pB b2 0),(51,vI x1k),(52, .bool y5)]∧St z8 (box b2 [vI x1k,vI x1o,vI x1f,vI x1t,vI x1m] 28::box b1 [.slice o_x0l x0l.length c_x0l,V00,V01,V02,V03,V04,V05,V06,V07,V08] 26::L) w∧(F79_j4 fuel x0l x1k x1o x1f x1t y5)=some r) ?_ ?_
      ·skip
       refine c_sq [] [2,3,51,52] hf54 .nil fun a34 hf55=>?_
       refine c_if (x1k == (1:Int)) hf55 (fun hb10=>?_) (fun hb10=>?_)
       ·have hr26:=cond_t hb10 hr25
        refine c_skip ?_
        refine n_then ?_
        exact ⟨z4,(x1k == (1:Int)),zr,hf55.to,hS9,hr26⟩
       ·have hr27:=cond_f hb10 hr25
        refine c_q [] [2,3,51,52] hf55 .nil fun a35 hf57=>?_
        refine n_then ?_
        exact ⟨z4,(x1k == (2:Int)),zr,hf57.to,hS9,hr27⟩
      ·rintro a36 ww10 ⟨z8,y5,k8,hf59,hS10,hr28⟩
       refine c_if y5 hf59 (fun hb11=>?_) (fun hb11=>?_)
       ·have hr29:=cond_t hb11 hr28
        refine c_mid (fun a w=>∃z9:Zone,∃y2:Bool,Zone.le z8 z9∧Fr a 86 [(4, .bool y2)]∧St z9 (box b2 [vI x1k,vI x1o,vI x1f,vI x1t,vI x1m] 28::box b1 [.slice o_x0l x0l.length c_x0l,V00,V01,V02,V03,V04,V05,V06,V07,V08] 26::L) w∧(F79_j5 y2)=some r) ?_ ?_
        ·skip
         refine c_reg ?_
         refine c_n 4 [vI x1f] [2,3,58] hf59 (.cell (hS10.box (i:=0) rfl (j:=2) rfl) .nil) fun a37 hf60=>?_
         rcases bft (x1f == (0:Int)) with hb12 | hb12
         ·have hr30:=cond_t hb12 hr29
          have hf61:=hf60.lit 58 hb12
          refine c_n 4 [.slice o_x0l x0l.length c_x0l,vI x1o] [58,60,62] hf61 (.cell (hS10.box (i:=1) rfl (j:=0) rfl) (.cell (hS10.box (i:=0) rfl (j:=1) rfl) .nil)) fun a38 hf62=>?_
          obtain ⟨r1,hd5,hr31⟩:=bind_some hr30
          refine c_call hf62 (f56_ok fuel x0l x1o r1 hd5 z8 _ _ hS10 o_x0l c_x0l (SliceR.mono (zt (zt k1 k7) k8) hx_x0l)) ?_
          rintro v5 ww11 a39 ⟨z10,k9,rfl,hS11⟩ hf63
          refine ⟨fun _=>trivial,?_⟩
          refine c_t [] [4] hf63 .nil fun a40 hf64=>?_
          exact ⟨z10,(decide (r1≥(0:Int))),k9,hf64.to,hS11,hr31⟩
         ·have hr32:=cond_f hb12 hr29
          have hf66:=hf60.lit 58 hb12
          refine c_t [] [4] hf66 .nil fun a41 hf67=>?_
          exact ⟨z8,false,zr,hf67.to,hS10,hr32⟩
        ·rintro a42 ww12 ⟨z9,y2,k10,hf69,hS12,hr33⟩
         refine c_ret ?_
         refine r_block ?_
         refine r_then ?_
         refine c_rt [] (.bool y2) hf69 .nil ?_
         obtain rfl:=some_eq hr33
         exact ⟨_,rfl,z9,(zt (zt (zt k1 k7) k8) k10),rfl,(St.drop 2 hS12)⟩
       ·have hr34:=cond_f hb11 hr28
        refine c_sq [] [3,66] hf59 .nil fun a43 hf70=>?_
        refine c_if (x1k == (4:Int)) hf70 (fun hb13=>?_) (fun hb13=>?_)
        ·have hr35:=cond_t hb13 hr34
         refine c_mid (fun a w=>∃z11:Zone,∃y3:Bool,Zone.le z8 z11∧Fr a 86 [(4, .bool y3)]∧St z11 (box b2 [vI x1k,vI x1o,vI x1f,vI x1t,vI x1m] 28::box b1 [.slice o_x0l x0l.length c_x0l,V00,V01,V02,V03,V04,V05,V06,V07,V08] 26::L) w∧(F79_j6 y3)=some r) ?_ ?_
         ·skip
          refine c_reg ?_
          refine c_n 4 [vI x1o] [3,71] hf70 (.cell (hS10.box (i:=0) rfl (j:=1) rfl) .nil) fun a44 hf71=>?_
          rcases bft (x1o == (0:Int)) with hb14 | hb14
          ·have hr36:=cond_t hb14 hr35
           have hf72:=hf71.lit 71 hb14
           refine c_t [vI x1f,vI x1t] [4] hf72 (.cell (hS10.box (i:=0) rfl (j:=2) rfl) (.cell (hS10.box (i:=0) rfl (j:=3) rfl) .nil)) fun a45 hf73=>?_
           exact ⟨z8,(x1f != x1t),zr,hf73.to,hS10,hr36⟩
          ·have hr37:=cond_f hb14 hr35
           have hf75:=hf71.lit 71 hb14
           refine c_t [] [4] hf75 .nil fun a46 hf76=>?_
           exact ⟨z8,false,zr,hf76.to,hS10,hr37⟩
         ·rintro a47 ww13 ⟨z11,y3,k11,hf78,hS13,hr38⟩
          refine c_ret ?_
          refine r_block ?_
          refine r_then ?_
          refine c_rt [] (.bool y3) hf78 .nil ?_
          obtain rfl:=some_eq hr38
          exact ⟨_,rfl,z11,(zt (zt (zt k1 k7) k8) k11),rfl,(St.drop 2 hS13)⟩
        ·have hr39:=cond_f hb13 hr34
         refine c_skip ?_
         refine n_block ?_
         refine n_then ?_
         refine c_mid (fun a w=>∃z12:Zone,∃y4:Bool,Zone.le z8 z12∧Fr a 86 [(4, .bool y4)]∧St z12 (box b2 [vI x1k,vI x1o,vI x1f,vI x1t,vI x1m] 28::box b1 [.slice o_x0l x0l.length c_x0l,V00,V01,V02,V03,V04,V05,V06,V07,V08] 26::L) w∧(F79_j7 y4)=some r) ?_ ?_
         ·skip
          refine c_reg ?_
          refine c_n 4 [vI x1o] [3,81] hf70 (.cell (hS10.box (i:=0) rfl (j:=1) rfl) .nil) fun a48 hf79=>?_
          rcases bft (x1o == (0:Int)) with hb15 | hb15
          ·have hr40:=cond_t hb15 hr39
           have hf80:=hf79.lit 81 hb15
           refine c_t [vI x1t] [4] hf80 (.cell (hS10.box (i:=0) rfl (j:=3) rfl) .nil) fun a49 hf81=>?_
           exact ⟨z8,(x1t == (0:Int)),zr,hf81.to,hS10,hr40⟩
          ·have hr41:=cond_f hb15 hr39
           have hf83:=hf79.lit 81 hb15
           refine c_t [] [4] hf83 .nil fun a50 hf84=>?_
           exact ⟨z8,false,zr,hf84.to,hS10,hr41⟩
         ·rintro a51 ww14 ⟨z12,y4,k12,hf86,hS14,hr42⟩
          refine c_ret ?_
          refine c_rt [] (.bool y4) hf86 .nil ?_
          obtain rfl:=some_eq hr42
          exact ⟨_,rfl,z12,(zt (zt (zt k1 k7) k8) k12),rfl,(St.drop 2 hS14)⟩
def F24_j5 (y1:Bool):Option (Int) :=
  (cond y1 (some (2)) (some (0)))
def F24_j4 (fuel:Nat) (x0h:List (List (List Part))) (x1k:Int) (x1t:Int) (x1m:Int) (y2:Bool):Option (Int) :=
  (cond (x1k == (2:Int)) ((getI x0h x1t).bind fun p1=>(cond ((p1.length:Int) == (4:Int)) (F24_j5 true) (cond y2 ((getI x0h x1t).bind fun p2=>((F77 fuel p2).bind fun r1=>(F24_j5 (decide ((w64 (r1 + x1m)) > (100000000:Int)))))) (F24_j5 false)))) (cond y2 ((getI x0h x1t).bind fun p3=>((F77 fuel p3).bind fun r2=>(F24_j5 (decide ((w64 (r2 + x1m)) > (100000000:Int)))))) (F24_j5 false)))
def F24_j3 (fuel:Nat) (x0h:List (List (List Part))) (x1k:Int) (x1t:Int) (x1m:Int) (y3:Bool):Option (Int) :=
  (cond y3 (some (3)) (cond (x1k == (1:Int)) (F24_j4 fuel x0h x1k x1t x1m true) (cond (x1k == (2:Int)) (F24_j4 fuel x0h x1k x1t x1m true) (F24_j4 fuel x0h x1k x1t x1m (x1k == (4:Int))))))
def F24_j2 (fuel:Nat) (x0h:List (List (List Part))) (x1k:Int) (x1f:Int) (x1t:Int) (x1m:Int) (y4:Bool):Option (Int) :=
  (cond y4 (some (63)) (cond (x1k == (6:Int)) ((getI x0h x1f).bind fun p4=>(F24_j3 fuel x0h x1k x1t x1m (decide ((p4.length:Int)<(2:Int))))) (F24_j3 fuel x0h x1k x1t x1m false)))
def F24_j1 (fuel:Nat) (x0h:List (List (List Part))) (x1k:Int) (x1f:Int) (x1t:Int) (x1m:Int) (y5:Bool):Option (Int) :=
  (cond y5 ((getI x0h x1f).bind fun p5=>((F77 fuel p5).bind fun r3=>(F24_j2 fuel x0h x1k x1f x1t x1m (decide (x1m > r3))))) (F24_j2 fuel x0h x1k x1f x1t x1m false))
def F24 (fuel:Nat) (x0l:List Lot) (x0h:List (List (List Part))) (x1k:Int) (x1o:Int) (x1f:Int) (x1t:Int) (x1m:Int):Option (Int) :=
  ((F22 fuel x0l x0h).bind fun r4=>(cond (r4 != (0:Int)) (some (62)) ((F79 fuel x0l x0h x1k x1o x1f x1t x1m).bind fun r5=>(cond (!r5) (some (61)) (cond (x1k == (3:Int)) (F24_j1 fuel x0h x1k x1f x1t x1m true) (cond (x1k == (4:Int)) (F24_j1 fuel x0h x1k x1f x1t x1m true) (F24_j1 fuel x0h x1k x1f x1t x1m (x1k == (5:Int)))))))))
set_option maxRecDepth 100000 in
theorem f24_ok (fuel:Nat) (x0l:List Lot) (x0h:List (List (List Part))) (x1k:Int) (x1o:Int) (x1f:Int) (x1t:Int) (x1m:Int) (r:Int) (hr:F24 fuel x0l x0h x1k x1o x1f x1t x1m=some r) (h:Zone) (L:List Atom) (w:World) (hS:St h L w) (o_x0l:Option Addr) (c_x0l:Nat) (hx_x0l:SliceR LotT h o_x0l c_x0l x0l) (V00 V01 V02 V03 V04 V05 V06 V07 V08:Value) (hx_x0h:(Ty.arr 9 (Ty.slice (Ty.slice PartT))).rep h [V00,V01,V02,V03,V04,V05,V06,V07,V08] x0h) :
    Calls Try.prog 24 #[.agg #[.slice o_x0l x0l.length c_x0l,V00,V01,V02,V03,V04,V05,V06,V07,V08], .agg #[vI x1k,vI x1o,vI x1f,vI x1t,vI x1m]] w fun e w'=>∃v,e= .returned v∧(∃h',Zone.le h h'∧v=vI r∧St h' L w'):=by
 refine calls_intro (N:=91) Try.func24 (by kernel_rfl) fun a hf=>?_
 refine c_sr ?_
 refine c_box [.slice o_x0l x0l.length c_x0l,V00,V01,V02,V03,V04,V05,V06,V07,V08] 26 hS hf fun b1 ww1 a1 hS1 hf1=>⟨fun _=>trivial,?_⟩
 refine c_box [vI x1k,vI x1o,vI x1f,vI x1t,vI x1m] 28 hS1 hf1 fun b2 ww2 a2 hS2 hf2=>⟨fun _=>trivial,?_⟩
 refine c_t [] [2,3] hf2 .nil fun a3 hf3=>?_
 refine c_seq ?_
 refine c_sr ?_
 refine c_n 1 [.slice o_x0l x0l.length c_x0l,V00,V01,V02,V03,V04,V05,V06,V07,V08] [2,3,7] hf3 (.cell (hS2.box (i:=1) rfl (j:=0) rfl) (.cell (hS2.box (i:=1) rfl (j:=1) rfl) (.cell (hS2.box (i:=1) rfl (j:=2) rfl) (.cell (hS2.box (i:=1) rfl (j:=3) rfl) (.cell (hS2.box (i:=1) rfl (j:=4) rfl) (.cell (hS2.box (i:=1) rfl (j:=5) rfl) (.cell (hS2.box (i:=1) rfl (j:=6) rfl) (.cell (hS2.box (i:=1) rfl (j:=7) rfl) (.cell (hS2.box (i:=1) rfl (j:=8) rfl) (.cell (hS2.box (i:=1) rfl (j:=9) rfl) .nil)))))))))) fun a4 hf4=>?_
 obtain ⟨r4,hd1,hr1⟩:=bind_some hr
 refine c_call hf4 (f22_ok fuel x0l x0h r4 hd1 h _ _ hS2 o_x0l c_x0l hx_x0l V00 V01 V02 V03 V04 V05 V06 V07 V08 (Ty.mono _ zr hx_x0h)) ?_
 rintro v1 ww3 a5 ⟨z1,k1,rfl,hS3⟩ hf5
 refine ⟨fun _=>trivial,?_⟩
 refine c_t [] [2,3,9] hf5 .nil fun a6 hf6=>?_
 refine c_if (r4 != (0:Int)) hf6 (fun hb1=>?_) (fun hb1=>?_)
 ·have hr2:=cond_t hb1 hr1
  refine c_sq [] [4] hf6 .nil fun a7 hf7=>?_
  refine c_ret ?_
  refine r_then ?_
  refine c_rt [] (vI 62) hf7 .nil ?_
  obtain rfl:=some_eq hr2
  exact ⟨_,rfl,z1,k1,rfl,(St.drop 2 hS3)⟩
 ·have hr3:=cond_f hb1 hr1
  refine c_skip ?_
  refine n_then ?_
  refine c_seq ?_
  refine c_sr ?_
  refine c_n 2 [.slice o_x0l x0l.length c_x0l,V00,V01,V02,V03,V04,V05,V06,V07,V08,vI x1k,vI x1o,vI x1f,vI x1t,vI x1m] [2,3,10,11] hf6 (.cell (hS3.box (i:=1) rfl (j:=0) rfl) (.cell (hS3.box (i:=1) rfl (j:=1) rfl) (.cell (hS3.box (i:=1) rfl (j:=2) rfl) (.cell (hS3.box (i:=1) rfl (j:=3) rfl) (.cell (hS3.box (i:=1) rfl (j:=4) rfl) (.cell (hS3.box (i:=1) rfl (j:=5) rfl) (.cell (hS3.box (i:=1) rfl (j:=6) rfl) (.cell (hS3.box (i:=1) rfl (j:=7) rfl) (.cell (hS3.box (i:=1) rfl (j:=8) rfl) (.cell (hS3.box (i:=1) rfl (j:=9) rfl) (.cell (hS3.box (i:=0) rfl (j:=0) rfl) (.cell (hS3.box (i:=0) rfl (j:=1) rfl) (.cell (hS3.box (i:=0) rfl (j:=2) rfl) (.cell (hS3.box (i:=0) rfl (j:=3) rfl) (.cell (hS3.box (i:=0) rfl (j:=4) rfl) .nil))))))))))))))) fun a8 hf8=>?_
  obtain ⟨r5,hd2,hr4⟩:=bind_some hr3
  refine c_call hf8 (f79_ok fuel x0l x0h x1k x1o x1f x1t x1m r5 hd2 z1 _ _ hS3 o_x0l c_x0l (SliceR.mono k1 hx_x0l) V00 V01 V02 V03 V04 V05 V06 V07 V08 (Ty.mono _ k1 hx_x0h)) ?_
  rintro v2 ww4 a9 ⟨z2,k2,rfl,hS4⟩ hf9
  refine ⟨fun _=>trivial,?_⟩
  refine c_t [] [2,3,13] hf9 .nil fun a10 hf10=>?_
  refine c_if (!r5) hf10 (fun hb2=>?_) (fun hb2=>?_)
  ·have hr5:=cond_t hb2 hr4
   refine c_sq [] [4] hf10 .nil fun a11 hf11=>?_
   refine c_ret ?_
   refine r_then ?_
   refine c_rt [] (vI 61) hf11 .nil ?_
   obtain rfl:=some_eq hr5
   exact ⟨_,rfl,z2,(zt k1 k2),rfl,(St.drop 2 hS4)⟩
  ·have hr6:=cond_f hb2 hr4
   refine c_skip ?_
   refine n_then ?_
   refine c_mid (fun a w=>∃z3:Zone,∃y5:Bool,Zone.le z2 z3∧Fr a 91 [(2,pB b1 0),(3,pB b2 0),(5, .bool y5)]∧St z3 (box b2 [vI x1k,vI x1o,vI x1f,vI x1t,vI x1m] 28::box b1 [.slice o_x0l x0l.length c_x0l,V00,V01,V02,V03,V04,V05,V06,V07,V08] 26::L) w∧(F24_j1 fuel x0h x1k x1f x1t x1m y5)=some r) ?_ ?_
   ·skip
    refine c_reg ?_
    refine c_n 4 [vI x1k] [2,3,17] hf10 (.cell (hS4.box (i:=0) rfl (j:=0) rfl) .nil) fun a12 hf12=>?_
    rcases bft (x1k == (3:Int)) with hb3 | hb3
    ·have hr7:=cond_t hb3 hr6
     have hf13:=hf12.lit 17 hb3
     refine c_t [] [2,3,5] hf13 .nil fun a13 hf14=>?_
     exact ⟨z2,true,zr,hf14.to,hS4,hr7⟩
    ·have hr8:=cond_f hb3 hr6
     have hf16:=hf12.lit 17 hb3
     refine c_n 5 [vI x1k] [2,3,22] hf16 (.cell (hS4.box (i:=0) rfl (j:=0) rfl) .nil) fun a14 hf17=>?_
     rcases bft (x1k == (4:Int)) with hb4 | hb4
     ·have hr9:=cond_t hb4 hr8
      have hf18:=hf17.lit 22 hb4
      refine c_t [] [2,3,5] hf18 .nil fun a15 hf19=>?_
      exact ⟨z2,true,zr,hf19.to,hS4,hr9⟩
     ·have hr10:=cond_f hb4 hr8
      have hf21:=hf17.lit 22 hb4
      refine c_t [vI x1k] [2,3,5] hf21 (.cell (hS4.box (i:=0) rfl (j:=0) rfl) .nil) fun a16 hf22=>?_
      exact ⟨z2,(x1k == (5:Int)),zr,hf22.to,hS4,hr10⟩
   ·rintro a17 ww5 ⟨z3,y5,k3,hf24,hS5,hr11⟩
    refine c_seq ?_
    refine c_mid (fun a w=>∃z4:Zone,∃y4:Bool,Zone.le z3 z4∧Fr a 91 [(2,pB b1 0),(3,pB b2 0),(38, .bool y4)]∧St z4 (box b2 [vI x1k,vI x1o,vI x1f,vI x1t,vI x1m] 28::box b1 [.slice o_x0l x0l.length c_x0l,V00,V01,V02,V03,V04,V05,V06,V07,V08] 26::L) w∧(F24_j2 fuel x0h x1k x1f x1t x1m y4)=some r) ?_ ?_
    ·skip
     have hS6:=hS5.drew
     have s1:=Sub.of zr hS6
     refine c_regD [(0,true),(1,true),(2,true),(3,true),(4,true),(5,true),(6,true),(7,true),(8,true),(9,false),(10,true),(11,true)] [] _ s1 ?_
     refine c_S 2 [] [2,3,28] s1 hf24 (fun _ s=> .nil) .nil fun a18 hf25=>?_
     rcases bft y5 with hb5 | hb5
     ·have hr12:=cond_t hb5 hr11
      have hf26:=hf25.lit 28 hb5
      obtain ⟨p5,hp368,hr13⟩:=bind_some hr12
      obtain ⟨hb6,_,hv1,e1,q1,hehv372,hx1⟩:=arrGet (Ty.mono _ (zt (zt k1 k2) k3) hx_x0h) rfl hp368
      obtain rfl:=List.head_eq_of_cons_eq hehv372
      refine c_S 7 [vI x1m,vI x1f, .slice e1 p5.length q1] [2,3,28,30,35] s1 hf26 (fun _ s=>(.cell (s.box (i:=0) rfl (j:=4) rfl) (.cell (s.box (i:=0) rfl (j:=2) rfl) (.prop hb6 (.cell ((arrAddr b1 1 x1f.toNat) ▸ (s.box (i:=1) rfl (getElem?_app_right [.slice o_x0l x0l.length c_x0l] _ _ hv1 []))) .nil))))) .nil fun a19 hf27=>?_
      obtain ⟨r3,hd3,hr14⟩:=bind_some hr13
      refine c_call hf27 (f77_ok fuel p5 r3 hd3 z3 _ _ hS6 e1 q1 hx1) ?_
      rintro v3 ww6 a20 ⟨z5,k4,rfl,hS7⟩ hf28
      refine ⟨fun _=>Sub.of k4 hS7,?_⟩
      have s2:=Sub.of k4 hS7
      refine c_S 2 [] [2,3,38] s2 hf28 (fun _ s=> .nil) .nil fun a21 hf29=>?_
      refine c_dt ?_
      exact ⟨z5,(decide (x1m > r3)),k4,hf29.to,hS7,hr14⟩
     ·have hr15:=cond_f hb5 hr11
      have hf31:=hf25.lit 28 hb5
      refine c_S 10 [] [2,3,38] s1 hf31 (fun _ s=> .nil) .nil fun a22 hf32=>?_
      refine c_dt ?_
      exact ⟨z3,false,zr,hf32.to,hS6,hr15⟩
    ·rintro a23 ww7 ⟨z4,y4,k5,hf34,hS8,hr16⟩
     refine c_if y4 hf34 (fun hb7=>?_) (fun hb7=>?_)
     ·have hr17:=cond_t hb7 hr16
      refine c_sq [] [4] hf34 .nil fun a24 hf35=>?_
      refine c_ret ?_
      refine r_then ?_
      refine c_rt [] (vI 63) hf35 .nil ?_
      obtain rfl:=some_eq hr17
      exact ⟨_,rfl,z4,(zt (zt (zt k1 k2) k3) k5),rfl,(St.drop 2 hS8)⟩
     ·have hr18:=cond_f hb7 hr16
      refine c_skip ?_
      refine n_then ?_
      refine c_seq ?_
      refine c_mid (fun a w=>∃z6:Zone,∃y3:Bool,Zone.le z4 z6∧Fr a 91 [(2,pB b1 0),(3,pB b2 0),(50, .bool y3)]∧St z6 (box b2 [vI x1k,vI x1o,vI x1f,vI x1t,vI x1m] 28::box b1 [.slice o_x0l x0l.length c_x0l,V00,V01,V02,V03,V04,V05,V06,V07,V08] 26::L) w∧(F24_j3 fuel x0h x1k x1t x1m y3)=some r) ?_ ?_
      ·skip
       refine c_reg ?_
       refine c_n 4 [vI x1k] [2,3,42] hf34 (.cell (hS8.box (i:=0) rfl (j:=0) rfl) .nil) fun a25 hf36=>?_
       rcases bft (x1k == (6:Int)) with hb8 | hb8
       ·have hr19:=cond_t hb8 hr18
        have hf37:=hf36.lit 42 hb8
        obtain ⟨p4,hp514,hr20⟩:=bind_some hr19
        obtain ⟨hb9,_,hv2,e2,q2,hehv518,hx2⟩:=arrGet (Ty.mono _ (zt (zt (zt k1 k2) k3) k5) hx_x0h) rfl hp514
        obtain rfl:=List.head_eq_of_cons_eq hehv518
        refine c_t [vI x1f, .slice e2 p4.length q2] [2,3,50] hf37 (.cell (hS8.box (i:=0) rfl (j:=2) rfl) (.prop hb9 (.cell ((arrAddr b1 1 x1f.toNat) ▸ (hS8.box (i:=1) rfl (getElem?_app_right [.slice o_x0l x0l.length c_x0l] _ _ hv2 []))) .nil))) fun a26 hf38=>?_
        exact ⟨z4,(decide ((p4.length:Int)<(2:Int))),zr,hf38.to,hS8,hr20⟩
       ·have hr21:=cond_f hb8 hr18
        have hf40:=hf36.lit 42 hb8
        refine c_t [] [2,3,50] hf40 .nil fun a27 hf41=>?_
        exact ⟨z4,false,zr,hf41.to,hS8,hr21⟩
      ·rintro a28 ww8 ⟨z6,y3,k6,hf43,hS9,hr22⟩
       refine c_if y3 hf43 (fun hb10=>?_) (fun hb10=>?_)
       ·have hr23:=cond_t hb10 hr22
        refine c_sq [] [4] hf43 .nil fun a29 hf44=>?_
        refine c_ret ?_
        refine r_then ?_
        refine c_rt [] (vI 3) hf44 .nil ?_
        obtain rfl:=some_eq hr23
        exact ⟨_,rfl,z6,(zt (zt (zt (zt k1 k2) k3) k5) k6),rfl,(St.drop 2 hS9)⟩
       ·have hr24:=cond_f hb10 hr22
        refine c_skip ?_
        refine n_then ?_
        refine c_mid (fun a w=>∃z7:Zone,∃y2:Bool,Zone.le z6 z7∧Fr a 91 [(2,pB b1 0),(3,pB b2 0),(6, .bool y2)]∧St z7 (box b2 [vI x1k,vI x1o,vI x1f,vI x1t,vI x1m] 28::box b1 [.slice o_x0l x0l.length c_x0l,V00,V01,V02,V03,V04,V05,V06,V07,V08] 26::L) w∧(F24_j4 fuel x0h x1k x1t x1m y2)=some r) ?_ ?_
        ·skip
         refine c_reg ?_
         refine c_n 4 [vI x1k] [2,3,54] hf43 (.cell (hS9.box (i:=0) rfl (j:=0) rfl) .nil) fun a30 hf45=>?_
         rcases bft (x1k == (1:Int)) with hb11 | hb11
         ·have hr25:=cond_t hb11 hr24
          have hf46:=hf45.lit 54 hb11
          refine c_t [] [2,3,6] hf46 .nil fun a31 hf47=>?_
          exact ⟨z6,true,zr,hf47.to,hS9,hr25⟩
         ·have hr26:=cond_f hb11 hr24
          have hf49:=hf45.lit 54 hb11
          refine c_n 5 [vI x1k] [2,3,59] hf49 (.cell (hS9.box (i:=0) rfl (j:=0) rfl) .nil) fun a32 hf50=>?_
          rcases bft (x1k == (2:Int)) with hb12 | hb12
          ·have hr27:=cond_t hb12 hr26
           have hf51:=hf50.lit 59 hb12
           refine c_t [] [2,3,6] hf51 .nil fun a33 hf52=>?_
           exact ⟨z6,true,zr,hf52.to,hS9,hr27⟩
          ·have hr28:=cond_f hb12 hr26
           have hf54:=hf50.lit 59 hb12
           refine c_t [vI x1k] [2,3,6] hf54 (.cell (hS9.box (i:=0) rfl (j:=0) rfl) .nil) fun a34 hf55=>?_
           exact ⟨z6,(x1k == (4:Int)),zr,hf55.to,hS9,hr28⟩
        ·rintro a35 ww9 ⟨z7,y2,k7,hf57,hS10,hr29⟩
         refine c_seq ?_
         refine c_mid (fun a w=>∃z8:Zone,∃y1:Bool,Zone.le z7 z8∧Fr a 91 [(90, .bool y1)]∧St z8 (box b2 [vI x1k,vI x1o,vI x1f,vI x1t,vI x1m] 28::box b1 [.slice o_x0l x0l.length c_x0l,V00,V01,V02,V03,V04,V05,V06,V07,V08] 26::L) w∧(F24_j5 y1)=some r) ?_ ?_
         ·skip
          have hS11:=hS10.drew
          have s3:=Sub.of zr hS11
          refine c_regD [(0,true),(1,true),(2,true),(3,true),(4,true),(5,true),(6,true),(7,true),(8,true),(9,true),(10,true),(11,true),(12,true),(13,true),(14,true),(15,true),(16,true),(17,true),(18,true),(19,true),(21,true),(22,true),(20,false),(23,true),(24,true),(25,true),(26,true)] [] _ s3 ?_
          refine c_S 4 [vI x1k] [2,3,6,67] s3 hf57 (fun _ s=>(.cell (s.box (i:=0) rfl (j:=0) rfl) .nil)) .nil fun a36 hf58=>?_
          rcases bft (x1k == (2:Int)) with hb13 | hb13
          ·have hr30:=cond_t hb13 hr29
           have hf59:=hf58.lit 67 hb13
           obtain ⟨p1,hp1055,hr31⟩:=bind_some hr30
           obtain ⟨hb14,_,hv3,e3,q3,hehv1059,hx3⟩:=arrGet (Ty.mono _ (zt (zt (zt (zt (zt k1 k2) k3) k5) k6) k7) hx_x0h) rfl hp1055
           obtain rfl:=List.head_eq_of_cons_eq hehv1059
           refine c_S 9 [vI x1t, .slice e3 p1.length q3] [2,3,6,76] s3 hf59 (fun _ s=>(.cell (s.box (i:=0) rfl (j:=3) rfl) (.prop hb14 (.cell ((arrAddr b1 1 x1t.toNat) ▸ (s.box (i:=1) rfl (getElem?_app_right [.slice o_x0l x0l.length c_x0l] _ _ hv3 []))) .nil)))) .nil fun a37 hf60=>?_
           rcases bft ((p1.length:Int) == (4:Int)) with hb15 | hb15
           ·have hr32:=cond_t hb15 hr31
            have hf61:=hf60.lit 76 hb15
            refine c_S 14 [] [90] s3 hf61 (fun _ s=> .nil) .nil fun a38 hf62=>?_
            refine c_dt ?_
            exact ⟨z7,true,zr,hf62.to,hS11,hr32⟩
           ·have hr33:=cond_f hb15 hr31
            have hf64:=hf60.lit 76 hb15
            refine c_S 2 [] [2,3,76,78] s3 hf64 (fun _ s=> .nil) .nil fun a39 hf65=>?_
            rcases bft y2 with hb16 | hb16
            ·have hr34:=cond_t hb16 hr33
             have hf66:=hf65.lit 78 hb16
             obtain ⟨p2,hp1080,hr35⟩:=bind_some hr34
             obtain ⟨hb17,_,hv4,e4,q4,hehv1084,hx4⟩:=arrGet (Ty.mono _ (zt (zt (zt (zt (zt k1 k2) k3) k5) k6) k7) hx_x0h) rfl hp1080
             obtain rfl:=List.head_eq_of_cons_eq hehv1084
             refine c_S 7 [vI x1t, .slice e4 p2.length q4,vI x1m] [76,78,83,86] s3 hf66 (fun _ s=>(.cell (s.box (i:=0) rfl (j:=3) rfl) (.prop hb17 (.cell ((arrAddr b1 1 x1t.toNat) ▸ (s.box (i:=1) rfl (getElem?_app_right [.slice o_x0l x0l.length c_x0l] _ _ hv4 []))) (.cell (s.box (i:=0) rfl (j:=4) rfl) .nil))))) .nil fun a40 hf67=>?_
             obtain ⟨r1,hd4,hr36⟩:=bind_some hr35
             refine c_call hf67 (f77_ok fuel p2 r1 hd4 z7 _ _ hS11 e4 q4 hx4) ?_
             rintro v4 ww10 a41 ⟨z9,k8,rfl,hS12⟩ hf68
             refine ⟨fun _=>Sub.of k8 hS12,?_⟩
             have s4:=Sub.of k8 hS12
             refine c_S 4 [] [90] s4 hf68 (fun _ s=> .nil) .nil fun a42 hf69=>?_
             refine c_dt ?_
             exact ⟨z9,(decide ((w64 (r1 + x1m)) > (100000000:Int))),k8,hf69.to,hS12,hr36⟩
            ·have hr37:=cond_f hb16 hr33
             have hf71:=hf65.lit 78 hb16
             refine c_S 12 [] [90] s3 hf71 (fun _ s=> .nil) .nil fun a43 hf72=>?_
             refine c_dt ?_
             exact ⟨z7,false,zr,hf72.to,hS11,hr37⟩
          ·have hr38:=cond_f hb13 hr29
           have hf74:=hf58.lit 67 hb13
           refine c_S 11 [] [2,3,76,78] s3 hf74 (fun _ s=> .nil) .nil fun a44 hf75=>?_
           rcases bft y2 with hb18 | hb18
           ·have hr39:=cond_t hb18 hr38
            have hf76:=hf75.lit 78 hb18
            obtain ⟨p3,hp1123,hr40⟩:=bind_some hr39
            obtain ⟨hb19,_,hv5,e5,q5,hehv1127,hx5⟩:=arrGet (Ty.mono _ (zt (zt (zt (zt (zt k1 k2) k3) k5) k6) k7) hx_x0h) rfl hp1123
            obtain rfl:=List.head_eq_of_cons_eq hehv1127
            refine c_S 7 [vI x1t, .slice e5 p3.length q5,vI x1m] [76,78,83,86] s3 hf76 (fun _ s=>(.cell (s.box (i:=0) rfl (j:=3) rfl) (.prop hb19 (.cell ((arrAddr b1 1 x1t.toNat) ▸ (s.box (i:=1) rfl (getElem?_app_right [.slice o_x0l x0l.length c_x0l] _ _ hv5 []))) (.cell (s.box (i:=0) rfl (j:=4) rfl) .nil))))) .nil fun a45 hf77=>?_
            obtain ⟨r2,hd5,hr41⟩:=bind_some hr40
            refine c_call hf77 (f77_ok fuel p3 r2 hd5 z7 _ _ hS11 e5 q5 hx5) ?_
            rintro v5 ww11 a46 ⟨z10,k9,rfl,hS13⟩ hf78
            refine ⟨fun _=>Sub.of k9 hS13,?_⟩
            have s5:=Sub.of k9 hS13
            refine c_S 4 [] [90] s5 hf78 (fun _ s=> .nil) .nil fun a47 hf79=>?_
            refine c_dt ?_
            exact ⟨z10,(decide ((w64 (r2 + x1m)) > (100000000:Int))),k9,hf79.to,hS13,hr41⟩
           ·have hr42:=cond_f hb18 hr38
            have hf81:=hf75.lit 78 hb18
            refine c_S 12 [] [90] s3 hf81 (fun _ s=> .nil) .nil fun a48 hf82=>?_
            refine c_dt ?_
            exact ⟨z7,false,zr,hf82.to,hS11,hr42⟩
         ·rintro a49 ww12 ⟨z8,y1,k10,hf84,hS14,hr43⟩
          refine c_if y1 hf84 (fun hb20=>?_) (fun hb20=>?_)
          ·have hr44:=cond_t hb20 hr43
           refine c_sq [] [4] hf84 .nil fun a50 hf85=>?_
           refine c_ret ?_
           refine r_then ?_
           refine c_rt [] (vI 2) hf85 .nil ?_
           obtain rfl:=some_eq hr44
           exact ⟨_,rfl,z8,(zt (zt (zt (zt (zt (zt k1 k2) k3) k5) k6) k7) k10),rfl,(St.drop 2 hS14)⟩
          ·have hr45:=cond_f hb20 hr43
           refine c_skip ?_
           refine n_then ?_
           refine c_sq [] [4] hf84 .nil fun a51 hf86=>?_
           refine c_ret ?_
           refine c_rt [] (vI 0) hf86 .nil ?_
           obtain rfl:=some_eq hr45
           exact ⟨_,rfl,z8,(zt (zt (zt (zt (zt (zt k1 k2) k3) k5) k6) k7) k10),rfl,(St.drop 2 hS14)⟩
def F85_l2 (k1:(List (List (List Part)))→Int→Option (List Lot×List (List (List Part)))) (x0h:List (List (List Part))) (y1:Int):Nat→(List (List (List Part)))→Int→Option (List Lot×List (List (List Part)))
  | 0,_,_=>none
  | n1 + 1,y2,y3 =>
    let k2:(List (List (List Part)))→Int→Option (List Lot×List (List (List Part))):=F85_l2 k1 x0h y1 n1
    ((getI x0h y1).bind fun p1=>(cond (decide (y3<(p1.length:Int))) ((getI y2 y1).bind fun p2=>((getI x0h y1).bind fun p3=>((getI p3 y3).bind fun p4=>((appC ([]) p4).bind fun d1=>((appC p2 ([d1])).bind fun d2=>(k2 (y2.set (Int.toNat y1) d2) (w64 (y3 + (1:Int))))))))) (k1 y2 (w64 (y1 + (1:Int))))))
def F85_l1 (fuel:Nat) (x0h:List (List (List Part))) (d3:List Lot):Nat→(List (List (List Part)))→Int→Option (List Lot×List (List (List Part)))
  | 0,_,_=>none
  | n2 + 1,y4,y1 =>
    let k1:(List (List (List Part)))→Int→Option (List Lot×List (List (List Part))):=F85_l1 fuel x0h d3 n2
    (cond (decide (y1<(9:Int))) (F85_l2 k1 x0h y1 fuel y4 0) (some (d3,y4)))
def F85 (fuel:Nat) (x0l:List Lot) (x0h:List (List (List Part))):Option (List Lot×List (List (List Part))) :=
  ((appC ([]) x0l).bind fun d3=>(F85_l1 fuel x0h d3 fuel ([[],[],[],[],[],[],[],[],[]]) 0))
set_option maxRecDepth 100000 in
theorem f85_ok (fuel:Nat) (x0l:List Lot) (x0h:List (List (List Part))) (r:List Lot×List (List (List Part))) (hr:F85 fuel x0l x0h=some r) (h:Zone) (L:List Atom) (w:World) (hS:St h L w) (o_x0l:Option Addr) (c_x0l:Nat) (hx_x0l:SliceR LotT h o_x0l c_x0l x0l) (V00 V01 V02 V03 V04 V05 V06 V07 V08:Value) (hx_x0h:(Ty.arr 9 (Ty.slice (Ty.slice PartT))).rep h [V00,V01,V02,V03,V04,V05,V06,V07,V08] x0h) :
    Calls Try.prog 85 #[.agg #[.slice o_x0l x0l.length c_x0l,V00,V01,V02,V03,V04,V05,V06,V07,V08]] w fun e w'=>∃v,e= .returned v∧(∃h',∃o0:Option Addr,∃c0:Nat,∃v1_0:Value,∃v1_1:Value,∃v1_2:Value,∃v1_3:Value,∃v1_4:Value,∃v1_5:Value,∃v1_6:Value,∃v1_7:Value,∃v1_8:Value,Zone.le h h'∧v= .agg #[.slice o0 r.1.length c0,v1_0,v1_1,v1_2,v1_3,v1_4,v1_5,v1_6,v1_7,v1_8]∧St h' (ownA (Ty.slice PartT) 40 [v1_0,v1_1,v1_2,v1_3,v1_4,v1_5,v1_6,v1_7,v1_8] r.2::L) w'∧SliceR LotT h' o0 c0 r.1):=by
 refine calls_intro (N:=45) Try.func85 (by kernel_rfl) fun a hf=>?_
 refine c_sr ?_
 refine c_box [.slice o_x0l x0l.length c_x0l,V00,V01,V02,V03,V04,V05,V06,V07,V08] 26 hS hf fun b1 ww1 a1 hS1 hf1=>⟨fun _=>trivial,?_⟩
 refine c_box [.slice none 0 0, .slice none 0 0, .slice none 0 0, .slice none 0 0, .slice none 0 0, .slice none 0 0, .slice none 0 0, .slice none 0 0, .slice none 0 0, .slice none 0 0] 26 hS1 hf1 fun b2 ww2 a2 hS2 hf2=>⟨fun _=>trivial,?_⟩
 refine c_dt ?_
 refine c_sr ?_
 refine p_box (i:=0) (d:=(some 6)) (cs:=[]) (T:=33) (v:=fun b3=> .slice (some ⟨b3,0,none⟩) 0 0) hS2 hf2 (fun b=>by kernel_rfl) fun b3 ww3 a3 hS3 hf3=>⟨fun _=>trivial,?_⟩
 have hS4:=hS3.ownBox (T:=LotT) (E:=33) (n:=0) (xs:=[]) (i:=0) rfl rfl rfl (by decide)
 refine c_n 2 [.slice o_x0l x0l.length c_x0l] [1,2,6,8] hf3 (.cell (hS4.box (i:=2) rfl (j:=0) rfl) .nil) fun a4 hf4=>?_
 obtain ⟨d3,hd1,hr1⟩:=bind_some hr
 refine p_append (T:=LotT) (i:=3) (j:=0) (d:=some 9) (o2:=o_x0l) (c2:=c_x0l) (ys:=x0l) el22 hS4 hf4 rfl (by kernel_rfl) (SliceR.src hx_x0l hS4) hd1 fun e1 q1 ww4 a5 hS5 hf5=>⟨fun _=>trivial,?_⟩
 refine c_n 1 [] [1,2,10] hf5 .nil fun a6 hf6=>?_
 refine c_box [.slice none 0 0, .slice none 0 0, .slice none 0 0, .slice none 0 0, .slice none 0 0, .slice none 0 0, .slice none 0 0, .slice none 0 0, .slice none 0 0, .slice none 0 0] 26 hS5 hf6 fun b4 ww5 a7 hS6 hf7=>⟨fun _=>trivial,?_⟩
 refine c_st 0 [.slice e1 d3.length q1, .slice none 0 0, .slice none 0 0, .slice none 0 0, .slice none 0 0, .slice none 0 0, .slice none 0 0, .slice none 0 0, .slice none 0 0, .slice none 0 0] hS6 hf7 rfl fun ww6 a8 hS7 hf8=>⟨fun _=>trivial,?_⟩
 refine c_dt ?_
 refine c_seq ?_
 refine c_sq [] [1,2,3,4] hf8 .nil fun a9 hf9=>?_
 refine c_block 0 ?_
 have hS8:=hS7.ownNew (Ty.slice PartT) 40 9
 have hS8:=hS8
 refine c_loop (fun n a w=>∃z1:Zone,∃y4:List (List (List Part)),∃y1:Int,∃v1:Value,∃v2:Value,∃v3:Value,∃v4:Value,∃v5:Value,∃v6:Value,∃v7:Value,∃v8:Value,∃v9:Value,Zone.le h z1∧Fr a 45 [(1,pB b1 0),(2,pB b2 0),(3,pB b4 0),(4,vI y1)]∧St z1 (ownA (Ty.slice PartT) 40 [v1,v2,v3,v4,v5,v6,v7,v8,v9] y4::box b4 [.slice e1 d3.length q1,v1,v2,v3,v4,v5,v6,v7,v8,v9] 26::ownS LotT 33 e1 q1 d3::box b2 [.slice none 0 0, .slice none 0 0, .slice none 0 0, .slice none 0 0, .slice none 0 0, .slice none 0 0, .slice none 0 0, .slice none 0 0, .slice none 0 0, .slice none 0 0] 26::box b1 [.slice o_x0l x0l.length c_x0l,V00,V01,V02,V03,V04,V05,V06,V07,V08] 26::L) w∧(F85_l1 fuel x0h d3 n y4 y1)=some r) fuel ⟨h,[[],[],[],[],[],[],[],[],[]],0,(.slice none 0 0),(.slice none 0 0),(.slice none 0 0),(.slice none 0 0),(.slice none 0 0),(.slice none 0 0),(.slice none 0 0),(.slice none 0 0),(.slice none 0 0),zr,hf9.to,hS8,hr1⟩ ?_
 rintro n3 a10 ww7 ⟨z1,y4,y1,v1,v2,v3,v4,v5,v6,v7,v8,v9,k3,hf11,hS9,hr2⟩
 cases n3 with
 | zero=>cases hr2
 | succ n2 =>
 refine c_seq ?_
 refine c_sq [] [1,2,3,4,12] hf11 .nil fun a11 hf12=>?_
 refine c_if (decide (y1<(9:Int))) hf12 (fun hb1=>?_) (fun hb1=>?_)
 ·have hr3:=cond_t hb1 hr2
  refine c_skip ?_
  refine n_then ?_
  refine c_seq ?_
  refine c_block 1 ?_
  refine c_sq [] [1,2,3,4,5] hf12 .nil fun a12 hf13=>?_
  refine c_block 2 ?_
  refine c_loop (fun n a w=>∃z2:Zone,∃y2:List (List (List Part)),∃y3:Int,∃v10:Value,∃v11:Value,∃v12:Value,∃v13:Value,∃v14:Value,∃v15:Value,∃v16:Value,∃v17:Value,∃v18:Value,Zone.le z1 z2∧Fr a 45 [(1,pB b1 0),(2,pB b2 0),(3,pB b4 0),(4,vI y1),(5,vI y3)]∧St z2 (ownA (Ty.slice PartT) 40 [v10,v11,v12,v13,v14,v15,v16,v17,v18] y2::box b4 [.slice e1 d3.length q1,v10,v11,v12,v13,v14,v15,v16,v17,v18] 26::ownS LotT 33 e1 q1 d3::box b2 [.slice none 0 0, .slice none 0 0, .slice none 0 0, .slice none 0 0, .slice none 0 0, .slice none 0 0, .slice none 0 0, .slice none 0 0, .slice none 0 0, .slice none 0 0] 26::box b1 [.slice o_x0l x0l.length c_x0l,V00,V01,V02,V03,V04,V05,V06,V07,V08] 26::L) w∧(F85_l2 (F85_l1 fuel x0h d3 n2) x0h y1 n y2 y3)=some r) fuel ⟨z1,y4,0,v1,v2,v3,v4,v5,v6,v7,v8,v9,zr,hf13.to,hS9,hr3⟩ ?_
  rintro n4 a13 ww8 ⟨z2,y2,y3,v10,v11,v12,v13,v14,v15,v16,v17,v18,k4,hf15,hS10,hr4⟩
  cases n4 with
  | zero=>cases hr4
  | succ n1 =>
  refine c_seq ?_
  obtain ⟨p1,hp20956,hr5⟩:=bind_some hr4
  obtain ⟨hb2,_,hv1,e2,q2,hehv20960,hx1⟩:=arrGet (Ty.mono _ (zt k3 k4) hx_x0h) rfl hp20956
  obtain rfl:=List.head_eq_of_cons_eq hehv20960
  refine c_sq [.slice e2 p1.length q2] [1,2,3,4,5,21] hf15 (.prop hb2 (.cell ((arrAddr b1 1 y1.toNat) ▸ (hS10.box (i:=4) rfl (getElem?_app_right [.slice o_x0l x0l.length c_x0l] _ _ hv1 []))) .nil)) fun a14 hf16=>?_
  refine c_if (decide (y3<(p1.length:Int))) hf16 (fun hb3=>?_) (fun hb3=>?_)
  ·have hr6:=cond_t hb3 hr5
   refine c_skip ?_
   refine n_then ?_
   refine c_seq ?_
   refine c_block 3 ?_
   obtain ⟨p2,hp21074,hr7⟩:=bind_some hr6
   obtain ⟨e3,q3,hv2,hb4,hS11⟩:=hS10.ownOpen (j:=0) rfl hp21074
   have hS12:=hS11.drew
   have s1:=Sub.of zr hS12
   refine c_regD [(0,true),(1,true),(2,true),(3,true),(4,true),(6,true),(7,true),(8,true),(9,true),(10,true),(11,true),(12,true),(13,true),(18,true),(5,false),(14,false),(15,true),(16,false),(17,false),(19,true),(20,false)] [17,20] _ s1 ?_
   obtain ⟨p3,hp21085,hr8⟩:=bind_some hr7
   obtain ⟨hb5,_,hv3,e4,q4,hehv21089,hx2⟩:=arrGet (Ty.mono _ (zt k3 k4) hx_x0h) rfl hp21085
   obtain rfl:=List.head_eq_of_cons_eq hehv21089
   obtain ⟨p4,hp21095,hr9⟩:=bind_some hr8
   obtain ⟨ad1,ho1,hb6,cc1,hc1,hk1⟩:=SliceR.getI hx2 hp21095
   obtain ⟨e5,q5,rfl,hx3⟩:=hc1
   refine c_S 14 [.slice e3 p2.length q3, .slice e4 p3.length q4, .pointer (some ad1), .slice e5 p4.length q5] [1,2,3,4,5,24,28,37,42] s1 hf16 (fun _ s=>(.prop hb4 (.cell ((arrAddr b4 1 (Int.toNat y1)) ▸ (s.box (i:=2) rfl (getElem?_app_right [.slice e1 d3.length q1] _ _ hv2 []))) (.prop hb5 (.cell ((arrAddr b1 1 y1.toNat) ▸ (s.box (i:=5) rfl (getElem?_app_right [.slice o_x0l x0l.length c_x0l] _ _ hv3 []))) (.prop ho1 (.prop hb6 (.cell (s.cell (hk1 0 _ rfl)) .nil)))))))) .nil fun a15 hf17=>?_
   refine p_box (i:=5) (d:=(some 29)) (cs:=[]) (T:=56) (v:=fun b5=> .slice (some ⟨b5,0,none⟩) 0 0) hS12 hf17 (fun b=>by kernel_rfl) fun b5 ww9 a16 hS13 hf18=>⟨fun _=>Sub.of zr (St.drop 1 hS13),?_⟩
   have hS14:=hS13.ownBox (T:=PartT) (E:=56) (n:=0) (xs:=[]) (i:=0) rfl rfl rfl (by decide)
   have s2:=Sub.of zr (St.drop 1 hS14)
   obtain ⟨d1,hd2,hr10⟩:=bind_some hr9
   refine p_append (T:=PartT) (i:=14) (j:=0) (d:=some 38) (o2:=e5) (c2:=q5) (ys:=p4) el38 hS14 hf18 rfl (by kernel_rfl) (SliceR.src hx3 hS14) hd2 fun e6 q6 ww10 a17 hS15 hf19=>⟨fun _=>Sub.of zr (St.drop 1 hS15),?_⟩
   have s3:=Sub.of zr (St.drop 1 hS15)
   refine c_S 1 [] [1,2,3,4,5,24,28,39,42] s3 hf19 (fun _ s=> .nil) .nil fun a18 hf20=>?_
   obtain ⟨z3,k5,hS16,hx4⟩:=hS15.share (j:=0) rfl
   refine p_box (i:=16) (d:=(some 40)) (cs:=[.slice e6 d1.length q6]) (T:=40) (v:=fun b6=> .slice (some ⟨b6,0,none⟩) 1 1) hS16 hf20 (fun b=>by kernel_rfl) fun b6 ww11 a19 hS17 hf21=>⟨fun _=>Sub.of k5 (St.drop 2 hS17),?_⟩
   have hS18:=hS17.ownBox (T:=(Ty.slice PartT)) (E:=40) (n:=1) (xs:=[d1]) (i:=0) rfl (Rows.cons (c:=[.slice e6 d1.length q6]) (sliceRep (hx4)) rfl) rfl (by decide)
   have s4:=Sub.of k5 (St.drop 2 hS18)
   obtain ⟨d2,hd3,hr11⟩:=bind_some hr10
   refine p_append (T:=(Ty.slice PartT)) (i:=17) (j:=2) (d:=some 41) (o2:=(some ⟨b6,0,none⟩)) (c2:=1) (ys:=([d1])) el23 hS18 hf21 rfl (by kernel_rfl) (hS18.ownSrc (j:=0) rfl) hd3 fun e7 q7 ww12 a20 hS19 hf22=>⟨fun e=>absurd e (by decide),?_⟩
   refine p_qP 1 [] [(1,pB b1 0),(2,pB b2 0),(3,pB b4 0),(4,vI y1),(5,vI y3),(41, .slice e7 d2.length q7),(43, .pointer (some ((⟨b4,1,none⟩:Addr).add (Int.toNat y1 * 1))))] [.prop (0≤y1∧y1<(9:Nat))] hf22 (by kernel_rfl) (fun _=>(.prop hb4 .nil)) fun a21 hf23=>?_
   refine p_storeA (i:=20) (j:=4) (b:=b4) (ix:=y1) (pre:=[.slice e1 d3.length q1]) (vs:=[v10,v11,v12,v13,v14,v15,v16,v17,v18]) (post:=[]) (v:= .slice e7 d2.length q7) hS19 hf23 rfl (by have z4:=hb4.1; have z5:=hb4.2; simp at z5 ⊢; omega) (by kernel_rfl) rfl fun ww13 a22 hS20 hf24=>⟨fun e=>absurd e (by decide),?_⟩
   obtain ⟨v19,v20,v21,v22,v23,v24,v25,v26,v27,hu21163⟩:=nine (vs:=[v10,v11,v12,v13,v14,v15,v16,v17,v18].set (Int.toNat y1) (.slice e7 d2.length q7)) (by simp)
   rw [hu21163] at hS20
   have hv4:[v19,v20,v21,v22,v23,v24,v25,v26,v27][Int.toNat y1]? =some (.slice e7 d2.length q7):=by rw [← hu21163]; exact List.getElem?_set_self (by have z4:=hb4.1; have z5:=hb4.2; simp at z5 ⊢; omega)
   have hS21:=hS20
   refine c_done ?_
   have hS22:=hS21.ownClose (j:=3) (k:=2) rfl rfl (by decide) (List.getElem?_eq_some_iff.1 (getI_spec hp21074).2).1
   rw [hu21163] at hS22
   refine n_block ?_
   refine n_then ?_
   refine c_q [] [1,2,3,4,5] hf24 .nil fun a23 hf25=>?_
   refine n_then ?_
   exact ⟨n1,Nat.lt_succ_self n1,z3,(y2.set (Int.toNat y1) d2),(w64 (y3 + (1:Int))),v19,v20,v21,v22,v23,v24,v25,v26,v27,(zt k4 k5),hf25.to,(St.drop 3 hS22),hr11⟩
  ·have hr12:=cond_f hb3 hr5
   refine c_exit 2 ?_
   refine x_then ?_
   refine x_then ?_
   refine x_block ?_
   refine n_block ?_
   refine n_then ?_
   refine c_q [] [1,2,3,4] hf16 .nil fun a24 hf27=>?_
   refine n_then ?_
   exact ⟨n2,Nat.lt_succ_self n2,z2,y2,(w64 (y1 + (1:Int))),v10,v11,v12,v13,v14,v15,v16,v17,v18,(zt k3 k4),hf27.to,hS10,hr12⟩
 ·have hr13:=cond_f hb1 hr2
  refine c_exit 0 ?_
  refine x_then ?_
  refine x_then ?_
  refine x_block ?_
  refine n_then ?_
  refine c_sr ?_
  refine c_n 1 [.slice e1 d3.length q1,v1,v2,v3,v4,v5,v6,v7,v8,v9] [2,44] hf12 (.cell (hS9.box (i:=1) rfl (j:=0) rfl) (.cell (hS9.box (i:=1) rfl (j:=1) rfl) (.cell (hS9.box (i:=1) rfl (j:=2) rfl) (.cell (hS9.box (i:=1) rfl (j:=3) rfl) (.cell (hS9.box (i:=1) rfl (j:=4) rfl) (.cell (hS9.box (i:=1) rfl (j:=5) rfl) (.cell (hS9.box (i:=1) rfl (j:=6) rfl) (.cell (hS9.box (i:=1) rfl (j:=7) rfl) (.cell (hS9.box (i:=1) rfl (j:=8) rfl) (.cell (hS9.box (i:=1) rfl (j:=9) rfl) .nil)))))))))) fun a25 hf29=>?_
  have hq1:=hS9.ownOnes (j:=0) rfl
  refine p_store_eq (i:=1) (j:=3) (b:=b2) (off:=0) (vs:=[.slice e1 d3.length q1,v1,v2,v3,v4,v5,v6,v7,v8,v9]) (cs':=[.slice e1 d3.length q1,v1,v2,v3,v4,v5,v6,v7,v8,v9]) hS9 hf29 rfl (by kernel_rfl) hq1 rfl fun ww14 a26 hS23 hf30=>⟨fun _=>trivial,?_⟩
  refine c_dt ?_
  refine c_ret ?_
  obtain ⟨z6,k6,hS24,hx5⟩:=hS23.share (j:=2) rfl
  refine c_rt [.slice e1 d3.length q1,v1,v2,v3,v4,v5,v6,v7,v8,v9] (.agg #[.slice e1 d3.length q1,v1,v2,v3,v4,v5,v6,v7,v8,v9]) hf30 (.cell (hS24.box (i:=3) rfl (j:=0) rfl) (.cell (hS24.box (i:=3) rfl (j:=1) rfl) (.cell (hS24.box (i:=3) rfl (j:=2) rfl) (.cell (hS24.box (i:=3) rfl (j:=3) rfl) (.cell (hS24.box (i:=3) rfl (j:=4) rfl) (.cell (hS24.box (i:=3) rfl (j:=5) rfl) (.cell (hS24.box (i:=3) rfl (j:=6) rfl) (.cell (hS24.box (i:=3) rfl (j:=7) rfl) (.cell (hS24.box (i:=3) rfl (j:=8) rfl) (.cell (hS24.box (i:=3) rfl (j:=9) rfl) .nil)))))))))) ?_
  obtain rfl:=some_eq hr13
  exact ⟨_,rfl,z6,e1,q1,v1,v2,v3,v4,v5,v6,v7,v8,v9,(zt k3 k6),rfl,(St.pick 5 [0] hS24 (by kernel_rfl)),hx5⟩
def F89_j3 (k1:(List Part)→Int→Int→Option (List Part)) (x0:List Part) (x1:List Part) (y1:List Part) (y2:Int) (y3:Int) (y4:Bool):Option (List Part) :=
  (cond y4 ((getI x1 y3).bind fun p1=>((appC y1 ([⟨p1.lot,p1.mass⟩])).bind fun d1=>(k1 d1 y2 (w64 (y3 + (1:Int)))))) ((getI x0 y2).bind fun p2=>((getI x0 y2).bind fun p3=>((getI x1 y3).bind fun p4=>((appC y1 ([⟨p2.lot,(w64 (p3.mass + p4.mass))⟩])).bind fun d2=>(k1 d2 (w64 (y2 + (1:Int))) (w64 (y3 + (1:Int)))))))))
def F89_j2 (k1:(List Part)→Int→Int→Option (List Part)) (x0:List Part) (x1:List Part) (y1:List Part) (y2:Int) (y3:Int) (y5:Bool):Option (List Part) :=
  (cond y5 ((getI x0 y2).bind fun p5=>((appC y1 ([⟨p5.lot,p5.mass⟩])).bind fun d3=>(k1 d3 (w64 (y2 + (1:Int))) y3))) (cond (y2 == (x0.length:Int)) (F89_j3 k1 x0 x1 y1 y2 y3 true) ((getI x1 y3).bind fun p6=>((getI x0 y2).bind fun p7=>(F89_j3 k1 x0 x1 y1 y2 y3 (decide (p6.lot<p7.lot)))))))
def F89_j1 (k1:(List Part)→Int→Int→Option (List Part)) (x0:List Part) (x1:List Part) (y1:List Part) (y2:Int) (y3:Int) (y6:Bool):Option (List Part) :=
  (cond y6 (cond (y3 == (x1.length:Int)) (F89_j2 k1 x0 x1 y1 y2 y3 true) (cond (decide (y2<(x0.length:Int))) ((getI x0 y2).bind fun p8=>((getI x1 y3).bind fun p9=>(F89_j2 k1 x0 x1 y1 y2 y3 (decide (p8.lot<p9.lot))))) (F89_j2 k1 x0 x1 y1 y2 y3 false))) (some (y1)))
def F89_l1 (x0:List Part) (x1:List Part):Nat→(List Part)→Int→Int→Option (List Part)
  | 0,_,_,_=>none
  | n1 + 1,y1,y2,y3 =>
    let k1:(List Part)→Int→Int→Option (List Part):=F89_l1 x0 x1 n1
    (cond (decide (y2<(x0.length:Int))) (F89_j1 k1 x0 x1 y1 y2 y3 true) (F89_j1 k1 x0 x1 y1 y2 y3 (decide (y3<(x1.length:Int)))))
def F89 (fuel:Nat) (x0:List Part) (x1:List Part):Option (List Part) :=
  (F89_l1 x0 x1 fuel ([]) 0 0)
set_option maxRecDepth 100000 in
theorem f89_ok (fuel:Nat) (x0:List Part) (x1:List Part) (r:List Part) (hr:F89 fuel x0 x1=some r) (h:Zone) (L:List Atom) (w:World) (hS:St h L w) (o_x0:Option Addr) (c_x0:Nat) (hx_x0:SliceR PartT h o_x0 c_x0 x0) (o_x1:Option Addr) (c_x1:Nat) (hx_x1:SliceR PartT h o_x1 c_x1 x1) :
    Calls Try.prog 89 #[.agg #[.slice o_x0 x0.length c_x0], .agg #[.slice o_x1 x1.length c_x1]] w fun e w'=>∃v,e= .returned v∧(∃h',∃o0:Option Addr,∃c0:Nat,Zone.le h h'∧v= .agg #[.slice o0 r.length c0]∧St h' L w'∧SliceR PartT h' o0 c0 r):=by
 refine calls_intro (N:=121) Try.func89 (by kernel_rfl) fun a hf=>?_
 refine c_sr ?_
 refine c_box [.slice o_x0 x0.length c_x0] 40 hS hf fun b1 ww1 a1 hS1 hf1=>⟨fun _=>trivial,?_⟩
 refine c_box [.slice o_x1 x1.length c_x1] 40 hS1 hf1 fun b2 ww2 a2 hS2 hf2=>⟨fun _=>trivial,?_⟩
 refine c_box [.slice none 0 0] 40 hS2 hf2 fun b3 ww3 a3 hS3 hf3=>⟨fun _=>trivial,?_⟩
 refine c_dt ?_
 refine c_sr ?_
 refine c_box [.slice none 0 0] 40 hS3 hf3 fun b4 ww4 a4 hS4 hf4=>⟨fun _=>trivial,?_⟩
 refine c_dt ?_
 refine c_sq [] [2,3,4,5,6] hf4 .nil fun a5 hf5=>?_
 refine c_sq [] [2,3,4,5,6,7] hf5 .nil fun a6 hf6=>?_
 refine c_seq ?_
 refine c_block 0 ?_
 have hS5:=hS4.ownNil PartT 56
 refine c_loop (fun n a w=>∃z1:Zone,∃y1:List Part,∃y2:Int,∃y3:Int,∃e1:Option Addr,∃q1:Nat,Zone.le h z1∧Fr a 121 [(2,pB b1 0),(3,pB b2 0),(4,pB b3 0),(5,pB b4 0),(6,vI y2),(7,vI y3)]∧St z1 (ownS PartT 56 e1 q1 y1::box b4 [.slice e1 y1.length q1] 40::box b3 [.slice none 0 0] 40::box b2 [.slice o_x1 x1.length c_x1] 40::box b1 [.slice o_x0 x0.length c_x0] 40::L) w∧(F89_l1 x0 x1 n y1 y2 y3)=some r) fuel ⟨h,[],0,0,none,0,zr,hf6.to,hS5,hr⟩ ?_
 rintro n2 a7 ww5 ⟨z1,y1,y2,y3,e1,q1,k2,hf8,hS6,hr1⟩
 cases n2 with
 | zero=>cases hr1
 | succ n1 =>
 refine c_seq ?_
 refine c_mid (fun a w=>∃z2:Zone,∃y6:Bool,Zone.le z1 z2∧Fr a 121 [(2,pB b1 0),(3,pB b2 0),(4,pB b3 0),(5,pB b4 0),(6,vI y2),(7,vI y3),(19, .bool y6)]∧St z2 (ownS PartT 56 e1 q1 y1::box b4 [.slice e1 y1.length q1] 40::box b3 [.slice none 0 0] 40::box b2 [.slice o_x1 x1.length c_x1] 40::box b1 [.slice o_x0 x0.length c_x0] 40::L) w∧(F89_j1 (F89_l1 x0 x1 n1) x0 x1 y1 y2 y3 y6)=some r) ?_ ?_
 ·skip
  refine c_reg ?_
  refine c_n 6 [.slice o_x0 x0.length c_x0] [2,3,4,5,6,7,13] hf8 (.cell (hS6.box (i:=4) rfl (j:=0) rfl) .nil) fun a8 hf9=>?_
  rcases bft (decide (y2<(x0.length:Int))) with hb1 | hb1
  ·have hr2:=cond_t hb1 hr1
   have hf10:=hf9.lit 13 hb1
   refine c_t [] [2,3,4,5,6,7,19] hf10 .nil fun a9 hf11=>?_
   exact ⟨z1,true,zr,hf11.to,hS6,hr2⟩
  ·have hr3:=cond_f hb1 hr1
   have hf13:=hf9.lit 13 hb1
   refine c_t [.slice o_x1 x1.length c_x1] [2,3,4,5,6,7,19] hf13 (.cell (hS6.box (i:=3) rfl (j:=0) rfl) .nil) fun a10 hf14=>?_
   exact ⟨z1,(decide (y3<(x1.length:Int))),zr,hf14.to,hS6,hr3⟩
 ·rintro a11 ww6 ⟨z2,y6,k3,hf16,hS7,hr4⟩
  refine c_if y6 hf16 (fun hb2=>?_) (fun hb2=>?_)
  ·have hr5:=cond_t hb2 hr4
   refine c_skip ?_
   refine n_then ?_
   refine c_block 1 ?_
   refine c_seq ?_
   refine c_mid (fun a w=>∃z3:Zone,∃y5:Bool,Zone.le z2 z3∧Fr a 121 [(2,pB b1 0),(3,pB b2 0),(4,pB b3 0),(5,pB b4 0),(6,vI y2),(7,vI y3),(46, .bool y5)]∧St z3 (ownS PartT 56 e1 q1 y1::box b4 [.slice e1 y1.length q1] 40::box b3 [.slice none 0 0] 40::box b2 [.slice o_x1 x1.length c_x1] 40::box b1 [.slice o_x0 x0.length c_x0] 40::L) w∧(F89_j2 (F89_l1 x0 x1 n1) x0 x1 y1 y2 y3 y5)=some r) ?_ ?_
   ·skip
    have hS8:=hS7.drew
    refine c_regD [(0,true),(1,true),(2,true),(3,true),(4,true),(5,true),(6,true),(7,true),(8,true),(9,true),(10,true),(11,true),(12,true),(13,true),(14,true),(15,true),(16,true),(17,true),(18,true),(19,true),(20,true),(21,true),(22,true),(23,true),(24,true),(25,true),(26,true)] [] (fun x=>x=ww6.drew) rfl ?_
    refine c_E 6 [.slice o_x1 x1.length c_x1] [2,3,4,5,6,7,25] hf16 (.cell (hS8.box (i:=3) rfl (j:=0) rfl) .nil) .nil fun a12 hf17=>?_
    rcases bft (y3 == (x1.length:Int)) with hb3 | hb3
    ·have hr6:=cond_t hb3 hr5
     have hf18:=hf17.lit 25 hb3
     refine c_tE [] [2,3,4,5,6,7,46] hf18 .nil .nil fun a13 hf19=>?_
     exact ⟨z2,true,zr,hf19.to,hS8,hr6⟩
    ·have hr7:=cond_f hb3 hr5
     have hf21:=hf17.lit 25 hb3
     refine c_E 6 [.slice o_x0 x0.length c_x0] [2,3,4,5,6,7,25,31] hf21 (.cell (hS8.box (i:=4) rfl (j:=0) rfl) .nil) .nil fun a14 hf22=>?_
     rcases bft (decide (y2<(x0.length:Int))) with hb4 | hb4
     ·have hr8:=cond_t hb4 hr7
      have hf23:=hf22.lit 31 hb4
      obtain ⟨p8,hp8711,hr9⟩:=bind_some hr8
      obtain ⟨ad1,ho1,hb5,cc1,hc1,hk1⟩:=SliceR.getI (SliceR.mono (zt k2 k3) hx_x0) hp8711
      subst hc1
      obtain ⟨p9,hp8720,hr10⟩:=bind_some hr9
      obtain ⟨ad2,ho2,hb6,cc2,hc2,hk2⟩:=SliceR.getI (SliceR.mono (zt k2 k3) hx_x1) hp8720
      subst hc2
      refine c_tE [.slice o_x0 x0.length c_x0, .pointer (some ad1),vI p8.lot, .slice o_x1 x1.length c_x1, .pointer (some ad2),vI p9.lot] [2,3,4,5,6,7,46] hf23 (.cell (hS8.box (i:=4) rfl (j:=0) rfl) (.prop ho1 (.prop hb5 (.cell (hS8.cell (hk1 0 _ rfl)) (.cell (hS8.box (i:=3) rfl (j:=0) rfl) (.prop ho2 (.prop hb6 (.cell (hS8.cell (hk2 0 _ rfl)) .nil)))))))) .nil fun a15 hf24=>?_
      exact ⟨z2,(decide (p8.lot<p9.lot)),zr,hf24.to,hS8,hr10⟩
     ·have hr11:=cond_f hb4 hr7
      have hf26:=hf22.lit 31 hb4
      refine c_tE [] [2,3,4,5,6,7,46] hf26 .nil .nil fun a16 hf27=>?_
      exact ⟨z2,false,zr,hf27.to,hS8,hr11⟩
   ·rintro a17 ww7 ⟨z3,y5,k4,hf29,hS9,hr12⟩
    refine c_if y5 hf29 (fun hb7=>?_) (fun hb7=>?_)
    ·have hr13:=cond_t hb7 hr12
     refine c_seq ?_
     have hS10:=hS9.drew
     have s1:=Sub.of zr hS10
     refine c_regD [(0,true),(1,true),(2,true),(3,true),(4,true),(5,true),(6,true),(7,false),(8,false),(9,true),(10,false)] [8,10] _ s1 ?_
     obtain ⟨p5,hp8742,hr14⟩:=bind_some hr13
     obtain ⟨ad3,ho3,hb8,cc3,hc3,hk3⟩:=SliceR.getI (SliceR.mono (zt (zt k2 k3) k4) hx_x0) hp8742
     subst hc3
     refine c_S 7 [.slice e1 y1.length q1, .slice o_x0 x0.length c_x0, .pointer (some ad3),vI p5.lot,vI p5.mass] [2,3,4,5,6,7,48,53] s1 hf29 (fun _ s=>(.cell (s.box (i:=1) rfl (j:=0) rfl) (.cell (s.box (i:=4) rfl (j:=0) rfl) (.prop ho3 (.prop hb8 (.cell (s.cell (hk3 0 _ rfl)) (.cell (s.cell (hk3 1 _ rfl)) .nil))))))) .nil fun a18 hf30=>?_
     refine p_box (i:=7) (d:=(some 54)) (cs:=[vI p5.lot,vI p5.mass]) (T:=56) (v:=fun b5=> .slice (some ⟨b5,0,none⟩) 1 1) hS10 hf30 (fun b=>by kernel_rfl) fun b5 ww8 a19 hS11 hf31=>⟨fun _=>Sub.of zr (St.drop 1 hS11),?_⟩
     have hS12:=hS11.ownBox (T:=PartT) (E:=56) (n:=1) (xs:=[⟨p5.lot,p5.mass⟩]) (i:=0) rfl (Rows.cons (c:=[vI p5.lot,vI p5.mass]) rfl rfl) rfl (by decide)
     have s2:=Sub.of zr (St.drop 1 hS12)
     obtain ⟨d3,hd1,hr15⟩:=bind_some hr14
     refine p_append (T:=PartT) (i:=8) (j:=1) (d:=some 55) (o2:=(some ⟨b5,0,none⟩)) (c2:=1) (ys:=([⟨p5.lot,p5.mass⟩])) el38 hS12 hf31 rfl (by kernel_rfl) (hS12.ownSrc (j:=0) rfl) hd1 fun e2 q2 ww9 a20 hS13 hf32=>⟨fun e=>absurd e (by decide),?_⟩
     refine p_qP 1 [] [(2,pB b1 0),(3,pB b2 0),(4,pB b3 0),(5,pB b4 0),(6,vI y2),(7,vI y3),(55, .slice e2 d3.length q2),(56,pB b4 0)] [] hf32 (by kernel_rfl) (fun _=> .nil) fun a21 hf33=>?_
     refine c_st 2 [.slice e2 d3.length q2] hS13 hf33 rfl fun ww10 a22 hS14 hf34=>⟨fun e=>absurd e (by decide),?_⟩
     refine c_dt ?_
     refine c_sq [] [2,3,4,5,6,7] hf34 .nil fun a23 hf35=>?_
     refine c_exit 1 ?_
     refine x_then ?_
     refine x_block ?_
     refine n_then ?_
     exact ⟨n1,Nat.lt_succ_self n1,z3,d3,(w64 (y2 + (1:Int))),y3,e2,q2,(zt (zt k2 k3) k4),hf35.to,(St.drop 1 hS14),hr15⟩
    ·have hr16:=cond_f hb7 hr12
     refine c_skip ?_
     refine n_then ?_
     refine c_seq ?_
     refine c_mid (fun a w=>∃z4:Zone,∃y4:Bool,Zone.le z3 z4∧Fr a 121 [(2,pB b1 0),(3,pB b2 0),(4,pB b3 0),(5,pB b4 0),(6,vI y2),(7,vI y3),(78, .bool y4)]∧St z4 (ownS PartT 56 e1 q1 y1::box b4 [.slice e1 y1.length q1] 40::box b3 [.slice none 0 0] 40::box b2 [.slice o_x1 x1.length c_x1] 40::box b1 [.slice o_x0 x0.length c_x0] 40::L) w∧(F89_j3 (F89_l1 x0 x1 n1) x0 x1 y1 y2 y3 y4)=some r) ?_ ?_
     ·skip
      have hS15:=hS9.drew
      refine c_regD [(0,true),(1,true),(2,true),(3,true),(4,true),(5,true),(6,true),(7,true),(8,true),(9,true),(10,true),(11,true),(12,true),(13,true),(14,true),(15,true),(16,true),(17,true),(18,true),(19,true)] [] (fun x=>x=ww7.drew) rfl ?_
      refine c_E 6 [.slice o_x0 x0.length c_x0] [2,3,4,5,6,7,64] hf29 (.cell (hS15.box (i:=4) rfl (j:=0) rfl) .nil) .nil fun a24 hf37=>?_
      rcases bft (y2 == (x0.length:Int)) with hb9 | hb9
      ·have hr17:=cond_t hb9 hr16
       have hf38:=hf37.lit 64 hb9
       refine c_tE [] [2,3,4,5,6,7,78] hf38 .nil .nil fun a25 hf39=>?_
       exact ⟨z3,true,zr,hf39.to,hS15,hr17⟩
      ·have hr18:=cond_f hb9 hr16
       have hf41:=hf37.lit 64 hb9
       obtain ⟨p6,hp9060,hr19⟩:=bind_some hr18
       obtain ⟨ad4,ho4,hb10,cc4,hc4,hk4⟩:=SliceR.getI (SliceR.mono (zt (zt k2 k3) k4) hx_x1) hp9060
       subst hc4
       obtain ⟨p7,hp9069,hr20⟩:=bind_some hr19
       obtain ⟨ad5,ho5,hb11,cc5,hc5,hk5⟩:=SliceR.getI (SliceR.mono (zt (zt k2 k3) k4) hx_x0) hp9069
       subst hc5
       refine c_tE [.slice o_x1 x1.length c_x1, .pointer (some ad4),vI p6.lot, .slice o_x0 x0.length c_x0, .pointer (some ad5),vI p7.lot] [2,3,4,5,6,7,78] hf41 (.cell (hS15.box (i:=3) rfl (j:=0) rfl) (.prop ho4 (.prop hb10 (.cell (hS15.cell (hk4 0 _ rfl)) (.cell (hS15.box (i:=4) rfl (j:=0) rfl) (.prop ho5 (.prop hb11 (.cell (hS15.cell (hk5 0 _ rfl)) .nil)))))))) .nil fun a26 hf42=>?_
       exact ⟨z3,(decide (p6.lot<p7.lot)),zr,hf42.to,hS15,hr20⟩
     ·rintro a27 ww11 ⟨z4,y4,k5,hf44,hS16,hr21⟩
      refine c_if y4 hf44 (fun hb12=>?_) (fun hb12=>?_)
      ·have hr22:=cond_t hb12 hr21
       refine c_seq ?_
       have hS17:=hS16.drew
       have s3:=Sub.of zr hS17
       refine c_regD [(0,true),(1,true),(2,true),(3,true),(4,true),(5,true),(6,true),(7,false),(8,false),(9,true),(10,false)] [8,10] _ s3 ?_
       obtain ⟨p1,hp9086,hr23⟩:=bind_some hr22
       obtain ⟨ad6,ho6,hb13,cc6,hc6,hk6⟩:=SliceR.getI (SliceR.mono (zt (zt (zt k2 k3) k4) k5) hx_x1) hp9086
       subst hc6
       refine c_S 7 [.slice e1 y1.length q1, .slice o_x1 x1.length c_x1, .pointer (some ad6),vI p1.lot,vI p1.mass] [2,3,4,5,6,7,80,85] s3 hf44 (fun _ s=>(.cell (s.box (i:=1) rfl (j:=0) rfl) (.cell (s.box (i:=3) rfl (j:=0) rfl) (.prop ho6 (.prop hb13 (.cell (s.cell (hk6 0 _ rfl)) (.cell (s.cell (hk6 1 _ rfl)) .nil))))))) .nil fun a28 hf45=>?_
       refine p_box (i:=7) (d:=(some 86)) (cs:=[vI p1.lot,vI p1.mass]) (T:=56) (v:=fun b6=> .slice (some ⟨b6,0,none⟩) 1 1) hS17 hf45 (fun b=>by kernel_rfl) fun b6 ww12 a29 hS18 hf46=>⟨fun _=>Sub.of zr (St.drop 1 hS18),?_⟩
       have hS19:=hS18.ownBox (T:=PartT) (E:=56) (n:=1) (xs:=[⟨p1.lot,p1.mass⟩]) (i:=0) rfl (Rows.cons (c:=[vI p1.lot,vI p1.mass]) rfl rfl) rfl (by decide)
       have s4:=Sub.of zr (St.drop 1 hS19)
       obtain ⟨d1,hd2,hr24⟩:=bind_some hr23
       refine p_append (T:=PartT) (i:=8) (j:=1) (d:=some 87) (o2:=(some ⟨b6,0,none⟩)) (c2:=1) (ys:=([⟨p1.lot,p1.mass⟩])) el38 hS19 hf46 rfl (by kernel_rfl) (hS19.ownSrc (j:=0) rfl) hd2 fun e3 q3 ww13 a30 hS20 hf47=>⟨fun e=>absurd e (by decide),?_⟩
       refine p_qP 1 [] [(2,pB b1 0),(3,pB b2 0),(4,pB b3 0),(5,pB b4 0),(6,vI y2),(7,vI y3),(87, .slice e3 d1.length q3),(88,pB b4 0)] [] hf47 (by kernel_rfl) (fun _=> .nil) fun a31 hf48=>?_
       refine c_st 2 [.slice e3 d1.length q3] hS20 hf48 rfl fun ww14 a32 hS21 hf49=>⟨fun e=>absurd e (by decide),?_⟩
       refine c_dt ?_
       refine c_sq [] [2,3,4,5,6,7] hf49 .nil fun a33 hf50=>?_
       refine c_exit 1 ?_
       refine x_then ?_
       refine x_block ?_
       refine n_then ?_
       exact ⟨n1,Nat.lt_succ_self n1,z4,d1,y2,(w64 (y3 + (1:Int))),e3,q3,(zt (zt (zt k2 k3) k4) k5),hf50.to,(St.drop 1 hS21),hr24⟩
      ·have hr25:=cond_f hb12 hr21
       refine c_skip ?_
       refine n_then ?_
       refine c_seq ?_
       have hS22:=hS16.drew
       have s5:=Sub.of zr hS22
       refine c_regD [(0,true),(1,true),(2,true),(3,true),(4,true),(5,true),(6,true),(7,true),(8,true),(9,true),(10,true),(11,true),(12,true),(13,true),(14,true),(15,true),(16,true),(17,true),(18,true),(19,true),(20,true),(21,true),(22,false),(23,false),(24,true),(25,false)] [23,25] _ s5 ?_
       obtain ⟨p2,hp9129,hr26⟩:=bind_some hr25
       obtain ⟨ad7,ho7,hb14,cc7,hc7,hk7⟩:=SliceR.getI (SliceR.mono (zt (zt (zt k2 k3) k4) k5) hx_x0) hp9129
       subst hc7
       obtain ⟨p3,hp9138,hr27⟩:=bind_some hr26
       obtain ⟨ad8,ho8,hb15,cc8,hc8,hk8⟩:=SliceR.getI (SliceR.mono (zt (zt (zt k2 k3) k4) k5) hx_x0) hp9138
       subst hc8
       obtain ⟨p4,hp9147,hr28⟩:=bind_some hr27
       obtain ⟨ad9,ho9,hb16,cc9,hc9,hk9⟩:=SliceR.getI (SliceR.mono (zt (zt (zt k2 k3) k4) k5) hx_x1) hp9147
       subst hc9
       refine c_S 22 [.slice e1 y1.length q1, .slice o_x0 x0.length c_x0, .pointer (some ad7),vI p2.lot, .slice o_x0 x0.length c_x0, .pointer (some ad8),vI p3.mass, .slice o_x1 x1.length c_x1, .pointer (some ad9),vI p4.mass] [2,3,4,5,6,7,92,112] s5 hf44 (fun _ s=>(.cell (s.box (i:=1) rfl (j:=0) rfl) (.cell (s.box (i:=4) rfl (j:=0) rfl) (.prop ho7 (.prop hb14 (.cell (s.cell (hk7 0 _ rfl)) (.cell (s.box (i:=4) rfl (j:=0) rfl) (.prop ho8 (.prop hb15 (.cell (s.cell (hk8 1 _ rfl)) (.cell (s.box (i:=3) rfl (j:=0) rfl) (.prop ho9 (.prop hb16 (.cell (s.cell (hk9 1 _ rfl)) .nil)))))))))))))) .nil fun a34 hf52=>?_
       refine p_box (i:=22) (d:=(some 113)) (cs:=[vI p2.lot,vI (w64 (p3.mass + p4.mass))]) (T:=56) (v:=fun b7=> .slice (some ⟨b7,0,none⟩) 1 1) hS22 hf52 (fun b=>by kernel_rfl) fun b7 ww15 a35 hS23 hf53=>⟨fun _=>Sub.of zr (St.drop 1 hS23),?_⟩
       have hS24:=hS23.ownBox (T:=PartT) (E:=56) (n:=1) (xs:=[⟨p2.lot,(w64 (p3.mass + p4.mass))⟩]) (i:=0) rfl (Rows.cons (c:=[vI p2.lot,vI (w64 (p3.mass + p4.mass))]) rfl rfl) rfl (by decide)
       have s6:=Sub.of zr (St.drop 1 hS24)
       obtain ⟨d2,hd3,hr29⟩:=bind_some hr28
       refine p_append (T:=PartT) (i:=23) (j:=1) (d:=some 114) (o2:=(some ⟨b7,0,none⟩)) (c2:=1) (ys:=([⟨p2.lot,(w64 (p3.mass + p4.mass))⟩])) el38 hS24 hf53 rfl (by kernel_rfl) (hS24.ownSrc (j:=0) rfl) hd3 fun e4 q4 ww16 a36 hS25 hf54=>⟨fun e=>absurd e (by decide),?_⟩
       refine p_qP 1 [] [(2,pB b1 0),(3,pB b2 0),(4,pB b3 0),(5,pB b4 0),(6,vI y2),(7,vI y3),(114, .slice e4 d2.length q4),(115,pB b4 0)] [] hf54 (by kernel_rfl) (fun _=> .nil) fun a37 hf55=>?_
       refine c_st 2 [.slice e4 d2.length q4] hS25 hf55 rfl fun ww17 a38 hS26 hf56=>⟨fun e=>absurd e (by decide),?_⟩
       refine c_dt ?_
       refine c_sq [] [2,3,4,5,6,7] hf56 .nil fun a39 hf57=>?_
       refine c_q [] [2,3,4,5,6,7] hf57 .nil fun a40 hf58=>?_
       refine n_block ?_
       refine n_then ?_
       exact ⟨n1,Nat.lt_succ_self n1,z4,d2,(w64 (y2 + (1:Int))),(w64 (y3 + (1:Int))),e4,q4,(zt (zt (zt k2 k3) k4) k5),hf58.to,(St.drop 1 hS26),hr29⟩
  ·have hr30:=cond_f hb2 hr4
   refine c_exit 0 ?_
   refine x_then ?_
   refine x_then ?_
   refine x_block ?_
   refine n_then ?_
   refine c_sr ?_
   refine c_n 1 [.slice e1 y1.length q1] [4,120] hf16 (.cell (hS7.box (i:=1) rfl (j:=0) rfl) .nil) fun a41 hf60=>?_
   refine c_st 2 [.slice e1 y1.length q1] hS7 hf60 rfl fun ww18 a42 hS27 hf61=>⟨fun _=>trivial,?_⟩
   refine c_dt ?_
   refine c_ret ?_
   obtain ⟨z5,k6,hS28,hx1⟩:=hS27.share (j:=0) rfl
   refine c_rt [.slice e1 y1.length q1] (.agg #[.slice e1 y1.length q1]) hf61 (.cell (hS28.box (i:=2) rfl (j:=0) rfl) .nil) ?_
   obtain rfl:=some_eq hr30
   exact ⟨_,rfl,z5,e1,q1,(zt (zt k2 k3) k6),rfl,(St.drop 5 hS28),hx1⟩
def F86 (fuel:Nat) (x0:List (List Part)) (x1:List Part):Option (List (List Part)) :=
  (cond ((x0.length:Int) == (0:Int)) (some ([x1])) ((subI x0 0 (w64 ((x0.length:Int) - (1:Int)))).bind fun d1=>((appC ([]) d1).bind fun d2=>((getI x0 (w64 ((x0.length:Int) - (1:Int)))).bind fun p1=>((F89 fuel p1 x1).bind fun r1=>((appC d2 ([r1])).bind fun d3=>(some (d3))))))))
set_option maxRecDepth 100000 in
theorem f86_ok (fuel:Nat) (x0:List (List Part)) (x1:List Part) (r:List (List Part)) (hr:F86 fuel x0 x1=some r) (h:Zone) (L:List Atom) (w:World) (hS:St h L w) (o_x0:Option Addr) (c_x0:Nat) (hx_x0:SliceR (Ty.slice PartT) h o_x0 c_x0 x0) (o_x1:Option Addr) (c_x1:Nat) (hx_x1:SliceR PartT h o_x1 c_x1 x1) :
    Calls Try.prog 86 #[.slice o_x0 x0.length c_x0, .agg #[.slice o_x1 x1.length c_x1]] w fun e w'=>∃v,e= .returned v∧(∃h',∃o0:Option Addr,∃c0:Nat,Zone.le h h'∧v= .slice o0 r.length c0∧St h' (ownS (Ty.slice PartT) 40 o0 c0 r::L) w'):=by
 refine calls_intro (N:=29) Try.func86 (by kernel_rfl) fun a hf=>?_
 refine c_sr ?_
 refine c_box [.slice o_x1 x1.length c_x1] 40 hS hf fun b1 ww1 a1 hS1 hf1=>⟨fun _=>trivial,?_⟩
 refine c_t [] [0,3] hf1 .nil fun a2 hf2=>?_
 refine c_seq ?_
 refine c_sq [] [0,3,8] hf2 .nil fun a3 hf3=>?_
 refine c_if ((x0.length:Int) == (0:Int)) hf3 (fun hb1=>?_) (fun hb1=>?_)
 ·have hr1:=cond_t hb1 hr
  refine c_sr ?_
  refine c_n 1 [.slice o_x1 x1.length c_x1] [9] hf3 (.cell (hS1.box (i:=0) rfl (j:=0) rfl) .nil) fun a4 hf4=>?_
  refine p_box (i:=1) (d:=(some 10)) (cs:=[.slice o_x1 x1.length c_x1]) (T:=40) (v:=fun b2=> .slice (some ⟨b2,0,none⟩) 1 1) hS1 hf4 (fun b=>by kernel_rfl) fun b2 ww2 a5 hS2 hf5=>⟨fun _=>trivial,?_⟩
  have hS3:=hS2.ownBox (T:=(Ty.slice PartT)) (E:=40) (n:=1) (xs:=[x1]) (i:=0) rfl (Rows.cons (c:=[.slice o_x1 x1.length c_x1]) (sliceRep (hx_x1)) rfl) rfl (by decide)
  refine c_t [] [4] hf5 .nil fun a6 hf6=>?_
  refine c_ret ?_
  refine r_then ?_
  refine c_rt [] (.slice (some ⟨b2,0,none⟩) 1 1) hf6 .nil ?_
  obtain rfl:=some_eq hr1
  exact ⟨_,rfl,h,(some ⟨b2,0,none⟩),1,zr,rfl,(St.pick 2 [0] hS3 (by kernel_rfl))⟩
 ·have hr2:=cond_f hb1 hr
  refine c_skip ?_
  refine n_then ?_
  refine c_sr ?_
  refine p_box (i:=0) (d:=(some 11)) (cs:=[]) (T:=40) (v:=fun b3=> .slice (some ⟨b3,0,none⟩) 0 0) hS1 hf3 (fun b=>by kernel_rfl) fun b3 ww3 a7 hS4 hf7=>⟨fun _=>trivial,?_⟩
  have hS5:=hS4.ownBox (T:=(Ty.slice PartT)) (E:=40) (n:=0) (xs:=[]) (i:=0) rfl rfl rfl (by decide)
  obtain ⟨d1,hd1,hr3⟩:=bind_some hr2
  obtain ⟨e1,q1,hv1,hb2,hx1⟩:=SliceR.subV hx_x0 hd1
  refine c_n 5 [.slice e1 d1.length q1] [0,3,11,16] hf7 (.prop hv1 (.prop hb2 .nil)) fun a8 hf8=>?_
  obtain ⟨d2,hd2,hr4⟩:=bind_some hr3
  refine p_append (T:=(Ty.slice PartT)) (i:=6) (j:=0) (d:=some 17) (o2:=e1) (c2:=q1) (ys:=d1) el23 hS5 hf8 rfl (by kernel_rfl) (SliceR.src hx1 hS5) hd2 fun e2 q2 ww4 a9 hS6 hf9=>⟨fun _=>trivial,?_⟩
  refine c_t [] [0,3,5] hf9 .nil fun a10 hf10=>?_
  refine c_seq ?_
  have hS7:=hS6.drew
  refine c_regD [(0,true),(1,true),(2,true),(3,true),(4,true),(5,true),(6,true),(7,true),(8,false),(9,false),(10,false),(11,true)] [8,9,10] (fun x=>x=ww4.drew) rfl ?_
  obtain ⟨p1,hp74,hr5⟩:=bind_some hr4
  obtain ⟨ad1,ho1,hb3,cc1,hc1,hk1⟩:=SliceR.getI hx_x0 hp74
  obtain ⟨e3,q3,rfl,hx2⟩:=hc1
  refine c_E 8 [.pointer (some ad1), .slice e3 p1.length q3, .slice o_x1 x1.length c_x1] [18,24,25] hf10 (.prop ho1 (.prop hb3 (.cell (hS7.cell (hk1 0 _ rfl)) (.cell (hS7.box (i:=1) rfl (j:=0) rfl) .nil)))) .nil fun a11 hf11=>?_
  obtain ⟨r1,hd3,hr6⟩:=bind_some hr5
  refine c_call hf11 (f89_ok fuel p1 x1 r1 hd3 h _ _ hS7 e3 q3 hx2 o_x1 c_x1 hx_x1) ?_
  rintro v1 ww5 a12 ⟨z1,e4,q4,k1,rfl,hS8,hx3⟩ hf12
  refine ⟨fun e=>absurd e (by decide),?_⟩
  refine p_box (i:=9) (d:=(some 27)) (cs:=[.slice e4 r1.length q4]) (T:=40) (v:=fun b4=> .slice (some ⟨b4,0,none⟩) 1 1) hS8 hf12 (fun b=>by kernel_rfl) fun b4 ww6 a13 hS9 hf13=>⟨fun e=>absurd e (by decide),?_⟩
  have hS10:=hS9.ownBox (T:=(Ty.slice PartT)) (E:=40) (n:=1) (xs:=[r1]) (i:=0) rfl (Rows.cons (c:=[.slice e4 r1.length q4]) (sliceRep (hx3)) rfl) rfl (by decide)
  obtain ⟨d3,hd4,hr7⟩:=bind_some hr6
  refine p_append (T:=(Ty.slice PartT)) (i:=10) (j:=1) (d:=some 28) (o2:=(some ⟨b4,0,none⟩)) (c2:=1) (ys:=([r1])) el23 hS10 hf13 rfl (by kernel_rfl) (hS10.ownSrc (j:=0) rfl) hd4 fun e5 q5 ww7 a14 hS11 hf14=>⟨fun e=>absurd e (by decide),?_⟩
  refine p_qP 1 [] [(4, .slice e5 d3.length q5)] [] hf14 (by kernel_rfl) (fun _=> .nil) fun a15 hf15=>?_
  refine c_dt ?_
  refine c_ret ?_
  refine c_rt [] (.slice e5 d3.length q5) hf15 .nil ?_
  obtain rfl:=some_eq hr7
  exact ⟨_,rfl,z1,e5,q5,k1,rfl,(St.pick 3 [1] hS11 (by kernel_rfl))⟩
def F126_j1 (k1:Int→Int→Option (List Int)) (y1:Int) (y2:Int):Option (List Int) :=
  (k1 y2 (w64 (y1 + (1:Int))))
def F126_j2 (k1:Int→Int→Option (List Int)) (y3:Int) (y1:Int) (y4:Bool):Option (List Int) :=
  (cond y4 (F126_j1 k1 y1 y1) (F126_j1 k1 y1 y3))
def F126_l4 (k2:(List Bool)→(List Int)→Int→Option (List Int)) (x0:Int) (x1:List Int) (y5:Int) (y6:List Bool) (y7:List Int) (y8:Int):Nat→Int→Int→Option (List Int)
  | 0,_,_=>none
  | n1 + 1,y3,y1 =>
    let k1:Int→Int→Option (List Int):=F126_l4 k2 x0 x1 y5 y6 y7 y8 n1
    (cond (decide (y1<(x1.length:Int))) ((getI y6 y1).bind fun p1=>(cond (!p1) (cond (decide (y3<(0:Int))) (F126_j2 k1 y3 y1 true) ((getI x1 y1).bind fun p2=>((nz y5).bind fun _=>((getI x1 y3).bind fun p3=>((nz y5).bind fun _=>(F126_j2 k1 y3 y1 (decide ((Int.tmod (w64 (x0 * p2)) y5) > (Int.tmod (w64 (x0 * p3)) y5))))))))) (F126_j2 k1 y3 y1 false))) ((getI y6 y3).bind fun p4=>((setI y6 y3 true).bind fun d1=>((getI y7 y3).bind fun p5=>((getI y7 y3).bind fun p6=>((setI y7 y3 (w64 (p5 + (1:Int)))).bind fun d2=>(k2 d1 d2 (w64 (y8 - (1:Int))))))))))
def F126_l3 (fuel:Nat) (x0:Int) (x1:List Int) (y5:Int):Nat→(List Bool)→(List Int)→Int→Option (List Int)
  | 0,_,_,_=>none
  | n2 + 1,y6,y7,y8 =>
    let k2:(List Bool)→(List Int)→Int→Option (List Int):=F126_l3 fuel x0 x1 y5 n2
    (cond (decide (y8 > (0:Int))) (F126_l4 k2 x0 x1 y5 y6 y7 y8 fuel (-1) 0) (some (y7)))
def F126_l2 (fuel:Nat) (x0:Int) (x1:List Int) (y5:Int):Nat→(List Int)→Int→Int→Option (List Int)
  | 0,_,_,_=>none
  | n3 + 1,y9,y10,y11 =>
    let k3:(List Int)→Int→Int→Option (List Int):=F126_l2 fuel x0 x1 y5 n3
    (cond (decide (y11<(x1.length:Int))) ((getI x1 y11).bind fun p7=>((nz y5).bind fun _=>((appC y9 ([(w64 (Int.tdiv (w64 (x0 * p7)) y5))])).bind fun d3=>(k3 d3 (w64 (y10 - (w64 (Int.tdiv (w64 (x0 * p7)) y5)))) (w64 (y11 + (1:Int))))))) ((mkC (x1.length:Int) false).bind fun d4=>(F126_l3 fuel x0 x1 y5 fuel d4 y9 y10)))
def F126_l1 (fuel:Nat) (x0:Int) (x1:List Int):Nat→Int→Int→Option (List Int)
  | 0,_,_=>none
  | n4 + 1,y5,y12 =>
    let k4:Int→Int→Option (List Int):=F126_l1 fuel x0 x1 n4
    (cond (decide (y12<(x1.length:Int))) ((getI x1 y12).bind fun p8=>(k4 (w64 (y5 + p8)) (w64 (y12 + (1:Int))))) (F126_l2 fuel x0 x1 y5 fuel ([]) x0 0))
def F126 (fuel:Nat) (x0:Int) (x1:List Int):Option (List Int) :=
  (F126_l1 fuel x0 x1 fuel 0 0)
set_option maxRecDepth 100000 in
theorem f126_ok (fuel:Nat) (x0:Int) (x1:List Int) (r:List Int) (hr:F126 fuel x0 x1=some r) (h:Zone) (L:List Atom) (w:World) (hS:St h L w) (o_x1:Option Addr) (c_x1:Nat) (hx_x1:SliceR Ty.int h o_x1 c_x1 x1) :
    Calls Try.prog 126 #[vI x0, .slice o_x1 x1.length c_x1] w fun e w'=>∃v,e= .returned v∧(∃h',∃o0:Option Addr,∃c0:Nat,Zone.le h h'∧v= .slice o0 r.length c0∧St h' L w'∧SliceR Ty.int h' o0 c0 r):=by
 refine calls_intro (N:=100) Try.func126 (by kernel_rfl) fun a hf=>?_
 refine c_sq [] [0,1] hf .nil fun a1 hf1=>?_
 refine c_sq [] [0,1,5] hf1 .nil fun a2 hf2=>?_
 refine c_seq ?_
 refine c_sq [] [0,1,5,6] hf2 .nil fun a3 hf3=>?_
 refine c_block 0 ?_
 refine c_loop (fun n a w=>∃z1:Zone,∃y5:Int,∃y12:Int,Zone.le h z1∧Fr a 100 [(0,vI x0),(1, .slice o_x1 x1.length c_x1),(5,vI y5),(6,vI y12)]∧St z1 (L) w∧(F126_l1 fuel x0 x1 n y5 y12)=some r) fuel ⟨h,0,0,zr,hf3.to,hS,hr⟩ ?_
 rintro n5 a4 ww1 ⟨z1,y5,y12,k5,hf5,hS1,hr1⟩
 cases n5 with
 | zero=>cases hr1
 | succ n4 =>
 refine c_seq ?_
 refine c_sq [] [0,1,5,6,17] hf5 .nil fun a5 hf6=>?_
 refine c_if (decide (y12<(x1.length:Int))) hf6 (fun hb1=>?_) (fun hb1=>?_)
 ·have hr2:=cond_t hb1 hr1
  refine c_skip ?_
  refine n_then ?_
  refine c_seq ?_
  refine c_block 1 ?_
  obtain ⟨p8,hp304,hr3⟩:=bind_some hr2
  obtain ⟨ad1,ho1,hb2,cc1,hc1,hk1⟩:=SliceR.getI (SliceR.mono k5 hx_x1) hp304
  subst hc1
  refine c_q [.pointer (some ad1),vI p8] [0,1,5,6] hf6 (.prop ho1 (.prop hb2 (.cell (hS1.cell (hk1 0 _ rfl)) .nil))) fun a6 hf7=>?_
  refine n_block ?_
  refine n_then ?_
  refine c_q [] [0,1,5,6] hf7 .nil fun a7 hf8=>?_
  refine n_then ?_
  exact ⟨n4,Nat.lt_succ_self n4,z1,(w64 (y5 + p8)),(w64 (y12 + (1:Int))),k5,hf8.to,hS1,hr3⟩
 ·have hr4:=cond_f hb1 hr1
  refine c_exit 0 ?_
  refine x_then ?_
  refine x_then ?_
  refine x_block ?_
  refine n_then ?_
  refine c_sq [] [0,1,5,7] hf6 .nil fun a8 hf10=>?_
  refine c_sq [] [0,1,5,7,8] hf10 .nil fun a9 hf11=>?_
  refine c_seq ?_
  refine c_sq [] [0,1,5,7,8,9] hf11 .nil fun a10 hf12=>?_
  refine c_block 2 ?_
  have hS2:=hS1.ownNil Ty.int 3
  refine c_loop (fun n a w=>∃z2:Zone,∃y9:List Int,∃y10:Int,∃y11:Int,∃e1:Option Addr,∃q1:Nat,Zone.le z1 z2∧Fr a 100 [(0,vI x0),(1, .slice o_x1 x1.length c_x1),(5,vI y5),(7, .slice e1 y9.length q1),(8,vI y10),(9,vI y11)]∧St z2 (ownS Ty.int 3 e1 q1 y9::L) w∧(F126_l2 fuel x0 x1 y5 n y9 y10 y11)=some r) fuel ⟨z1,[],x0,0,none,0,zr,hf12.to,hS2,hr4⟩ ?_
  rintro n6 a11 ww2 ⟨z2,y9,y10,y11,e1,q1,k6,hf14,hS3,hr5⟩
  cases n6 with
  | zero=>cases hr5
  | succ n3 =>
  refine c_seq ?_
  refine c_sq [] [0,1,5,7,8,9,30] hf14 .nil fun a12 hf15=>?_
  refine c_if (decide (y11<(x1.length:Int))) hf15 (fun hb3=>?_) (fun hb3=>?_)
  ·have hr6:=cond_t hb3 hr5
   refine c_skip ?_
   refine n_then ?_
   refine c_seq ?_
   refine c_block 3 ?_
   obtain ⟨p7,hp1269,hr7⟩:=bind_some hr6
   obtain ⟨ad2,ho2,hb4,cc2,hc2,hk2⟩:=SliceR.getI (SliceR.mono (zt k5 k6) hx_x1) hp1269
   subst hc2
   obtain ⟨u1,hd1,hr8⟩:=bind_some hr7
   refine c_sq [.pointer (some ad2),vI p7] [0,1,5,7,8,9,10] hf15 (.prop ho2 (.prop hb4 (.cell (hS3.cell (hk2 0 _ rfl)) (.prop (nz_spec hd1) .nil)))) fun a13 hf16=>?_
   refine c_sr ?_
   refine c_n 2 [] [0,1,5,8,9,10,41,42] hf16 .nil fun a14 hf17=>?_
   refine p_box (i:=2) (d:=(some 43)) (cs:=[vI (w64 (Int.tdiv (w64 (x0 * p7)) y5))]) (T:=3) (v:=fun b1=> .slice (some ⟨b1,0,none⟩) 1 1) hS3 hf17 (fun b=>by kernel_rfl) fun b1 ww3 a15 hS4 hf18=>⟨fun _=>trivial,?_⟩
   have hS5:=hS4.ownBox (T:=Ty.int) (E:=3) (n:=1) (xs:=[(w64 (Int.tdiv (w64 (x0 * p7)) y5))]) (i:=0) rfl (Rows.cons (c:=[vI (w64 (Int.tdiv (w64 (x0 * p7)) y5))]) rfl rfl) rfl (by decide)
   obtain ⟨d3,hd2,hr9⟩:=bind_some hr8
   refine p_append (T:=Ty.int) (i:=3) (j:=1) (d:=some 44) (o2:=(some ⟨b1,0,none⟩)) (c2:=1) (ys:=([(w64 (Int.tdiv (w64 (x0 * p7)) y5))])) el53 hS5 hf18 rfl (by kernel_rfl) (hS5.ownSrc (j:=0) rfl) hd2 fun e2 q2 ww4 a16 hS6 hf19=>⟨fun _=>trivial,?_⟩
   refine c_t [] [0,1,5,7,8,9,10] hf19 .nil fun a17 hf20=>?_
   refine c_q [] [0,1,5,7,8,9] hf20 .nil fun a18 hf21=>?_
   refine n_block ?_
   refine n_then ?_
   refine c_q [] [0,1,5,7,8,9] hf21 .nil fun a19 hf22=>?_
   refine n_then ?_
   exact ⟨n3,Nat.lt_succ_self n3,z2,d3,(w64 (y10 - (w64 (Int.tdiv (w64 (x0 * p7)) y5)))),(w64 (y11 + (1:Int))),e2,q2,k6,hf22.to,(St.drop 1 hS6),hr9⟩
  ·have hr10:=cond_f hb3 hr5
   refine c_exit 2 ?_
   refine x_then ?_
   refine x_then ?_
   refine x_block ?_
   refine n_then ?_
   refine c_sr ?_
   refine c_n 2 [] [0,1,5,7,8,49] hf15 .nil fun a20 hf24=>?_
   obtain ⟨d4,hd3,hr11⟩:=bind_some hr10
   refine p_make (T:=Ty.bool) (i:=2) (d:=some 50) (x0:=false) el178 hS3 hf24 (by kernel_rfl) rfl hd3 fun e3 ww5 a21 hS7 hf25=>⟨fun _=>trivial,?_⟩
   refine c_t [] [0,1,5,7,8,11] hf25 .nil fun a22 hf26=>?_
   refine c_seq ?_
   refine c_block 4 ?_
   refine c_loop (fun n a w=>∃z3:Zone,∃y6:List Bool,∃y7:List Int,∃y8:Int,Zone.le z2 z3∧Fr a 100 [(0,vI x0),(1, .slice o_x1 x1.length c_x1),(5,vI y5),(7, .slice e1 y7.length q1),(8,vI y8),(11, .slice (some e3) y6.length d4.length)]∧St z3 (ownS Ty.bool 4 (some e3) d4.length y6::ownS Ty.int 3 e1 q1 y7::L) w∧y6.length=d4.length∧y7.length=y9.length∧(F126_l3 fuel x0 x1 y5 n y6 y7 y8)=some r) fuel ⟨z2,d4,y9,y10,zr,hf26.to,hS7,rfl,rfl,hr11⟩ ?_
   rintro n7 a23 ww6 ⟨z3,y6,y7,y8,k7,hf28,hS8,hl1,hl2,hr12⟩
   cases n7 with
   | zero=>cases hr12
   | succ n2 =>
   refine c_seq ?_
   refine c_sq [] [0,1,5,7,8,11,52] hf28 .nil fun a24 hf29=>?_
   refine c_if (decide (y8 > (0:Int))) hf29 (fun hb5=>?_) (fun hb5=>?_)
   ·have hr13:=cond_t hb5 hr12
    refine c_skip ?_
    refine n_then ?_
    refine c_block 5 ?_
    refine c_sq [] [0,1,5,7,8,11,12] hf29 .nil fun a25 hf30=>?_
    refine c_seq ?_
    refine c_sq [] [0,1,5,7,8,11,12,13] hf30 .nil fun a26 hf31=>?_
    refine c_block 6 ?_
    refine c_loop (fun n a w=>∃z4:Zone,∃y3:Int,∃y1:Int,Zone.le z3 z4∧Fr a 100 [(0,vI x0),(1, .slice o_x1 x1.length c_x1),(5,vI y5),(7, .slice e1 y7.length q1),(8,vI y8),(11, .slice (some e3) y6.length d4.length),(12,vI y3),(13,vI y1)]∧St z4 (ownS Ty.bool 4 (some e3) d4.length y6::ownS Ty.int 3 e1 q1 y7::L) w∧(F126_l4 (F126_l3 fuel x0 x1 y5 n2) x0 x1 y5 y6 y7 y8 n y3 y1)=some r) fuel ⟨z3, -1,0,zr,hf31.to,hS8,hr13⟩ ?_
    rintro n8 a27 ww7 ⟨z4,y3,y1,k8,hf33,hS9,hr14⟩
    cases n8 with
    | zero=>cases hr14
    | succ n1 =>
    refine c_seq ?_
    refine c_sq [] [0,1,5,7,8,11,12,13,56] hf33 .nil fun a28 hf34=>?_
    refine c_if (decide (y1<(x1.length:Int))) hf34 (fun hb6=>?_) (fun hb6=>?_)
    ·have hr15:=cond_t hb6 hr14
     refine c_skip ?_
     refine n_then ?_
     refine c_mid (fun a w=>∃z5:Zone,∃y2:Int,Zone.le z4 z5∧Fr a 100 [(0,vI x0),(1, .slice o_x1 x1.length c_x1),(5,vI y5),(7, .slice e1 y7.length q1),(8,vI y8),(11, .slice (some e3) y6.length d4.length),(12,vI y2),(13,vI y1)]∧St z5 (ownS Ty.bool 4 (some e3) d4.length y6::ownS Ty.int 3 e1 q1 y7::L) w∧(F126_j1 (F126_l4 (F126_l3 fuel x0 x1 y5 n2) x0 x1 y5 y6 y7 y8 n1) y1 y2)=some r) ?_ ?_
     ·skip
      refine c_block 7 ?_
      refine c_mid (fun a w=>∃z6:Zone,∃y4:Bool,Zone.le z4 z6∧Fr a 100 [(0,vI x0),(1, .slice o_x1 x1.length c_x1),(5,vI y5),(7, .slice e1 y7.length q1),(8,vI y8),(11, .slice (some e3) y6.length d4.length),(12,vI y3),(13,vI y1),(86, .bool y4)]∧St z6 (ownS Ty.bool 4 (some e3) d4.length y6::ownS Ty.int 3 e1 q1 y7::L) w∧(F126_j2 (F126_l4 (F126_l3 fuel x0 x1 y5 n2) x0 x1 y5 y6 y7 y8 n1) y3 y1 y4)=some r) ?_ ?_
      ·skip
       have hS10:=hS9.drew
       refine c_regD [(0,true),(1,true),(2,true),(3,true),(4,true),(5,true),(6,true),(7,true),(8,true),(9,true),(10,true),(11,true),(12,true),(13,true),(14,true),(15,true),(16,true),(17,true),(18,true),(19,true),(20,true),(21,true),(22,true),(23,true),(24,true),(25,true),(26,true),(27,true)] [] (fun x=>x=ww7.drew) rfl ?_
       obtain ⟨p1,hp26420,hr16⟩:=bind_some hr15
       obtain ⟨ad3,ho3,hb7,cc3,hc3,hk3⟩:=hS10.ownGet (j:=0) rfl hp26420
       subst hc3
       refine c_E 6 [.pointer (some ad3), .bool p1] [0,1,5,7,8,11,12,13,64] hf34 (.prop ho3 (.prop hb7 (.cell (hk3 0 _ rfl) .nil))) .nil fun a29 hf35=>?_
       rcases bft (!p1) with hb8 | hb8
       ·have hr17:=cond_t hb8 hr16
        have hf36:=hf35.lit 64 hb8
        refine c_E 3 [] [0,1,5,7,8,11,12,13,64,67] hf36 .nil .nil fun a30 hf37=>?_
        rcases bft (decide (y3<(0:Int))) with hb9 | hb9
        ·have hr18:=cond_t hb9 hr17
         have hf38:=hf37.lit 67 hb9
         refine c_tE [] [0,1,5,7,8,11,12,13,86] hf38 .nil .nil fun a31 hf39=>?_
         exact ⟨z4,true,zr,hf39.to,hS10,hr18⟩
        ·have hr19:=cond_f hb9 hr17
         have hf41:=hf37.lit 67 hb9
         obtain ⟨p2,hp26444,hr20⟩:=bind_some hr19
         obtain ⟨ad4,ho4,hb10,cc4,hc4,hk4⟩:=SliceR.getI (SliceR.mono (zt (zt (zt k5 k6) k7) k8) hx_x1) hp26444
         subst hc4
         obtain ⟨u2,hd4,hr21⟩:=bind_some hr20
         obtain ⟨p3,hp26456,hr22⟩:=bind_some hr21
         obtain ⟨ad5,ho5,hb11,cc5,hc5,hk5⟩:=SliceR.getI (SliceR.mono (zt (zt (zt k5 k6) k7) k8) hx_x1) hp26456
         subst hc5
         obtain ⟨u3,hd5,hr23⟩:=bind_some hr22
         refine c_tE [.pointer (some ad4),vI p2, .pointer (some ad5),vI p3] [0,1,5,7,8,11,12,13,86] hf41 (.prop ho4 (.prop hb10 (.cell (hS10.cell (hk4 0 _ rfl)) (.prop (nz_spec hd4) (.prop ho5 (.prop hb11 (.cell (hS10.cell (hk5 0 _ rfl)) (.prop (nz_spec hd5) .nil)))))))) .nil fun a32 hf42=>?_
         exact ⟨z4,(decide ((Int.tmod (w64 (x0 * p2)) y5) > (Int.tmod (w64 (x0 * p3)) y5))),zr,hf42.to,hS10,hr23⟩
       ·have hr24:=cond_f hb8 hr16
        have hf44:=hf35.lit 64 hb8
        refine c_tE [] [0,1,5,7,8,11,12,13,86] hf44 .nil .nil fun a33 hf45=>?_
        exact ⟨z4,false,zr,hf45.to,hS10,hr24⟩
      ·rintro a34 ww8 ⟨z6,y4,k9,hf47,hS11,hr25⟩
       refine c_if y4 hf47 (fun hb12=>?_) (fun hb12=>?_)
       ·have hr26:=cond_t hb12 hr25
        refine c_q [] [0,1,5,7,8,11,12,13] hf47 .nil fun a35 hf48=>?_
        refine n_block ?_
        refine n_then ?_
        exact ⟨z6,y1,k9,hf48.to,hS11,hr26⟩
       ·have hr27:=cond_f hb12 hr25
        refine c_skip ?_
        refine n_block ?_
        refine n_then ?_
        exact ⟨z6,y3,k9,hf47.to,hS11,hr27⟩
     ·rintro a36 ww9 ⟨z5,y2,k10,hf51,hS12,hr28⟩
      refine c_q [] [0,1,5,7,8,11,12,13] hf51 .nil fun a37 hf52=>?_
      refine n_then ?_
      exact ⟨n1,Nat.lt_succ_self n1,z5,y2,(w64 (y1 + (1:Int))),(zt k8 k10),hf52.to,hS12,hr28⟩
    ·have hr29:=cond_f hb6 hr14
     refine c_exit 6 ?_
     refine x_then ?_
     refine x_then ?_
     refine x_block ?_
     refine n_then ?_
     refine c_sr ?_
     obtain ⟨p4,hp26486,hr30⟩:=bind_some hr29
     obtain ⟨ad6,ho6,hb13,cc6,hc6,hk6⟩:=hS9.ownGet (j:=0) rfl hp26486
     subst hc6
     refine c_n 3 [.pointer (some ad6)] [0,1,5,7,8,11,12,90] hf34 (.prop ho6 (.prop hb13 .nil)) fun a38 hf54=>?_
     obtain ⟨d1,hd6,hr31⟩:=bind_some hr30
     have hl3:=setI_len hd6
     refine p_setOwnB (i:=3) (j:=0) (ad:=ad6) (ix:=y3) (x':=true) hS9 hf54 rfl ho6 (by kernel_rfl) hd6 fun ww10 a39 hS13 hf55=>?_
     have hf56:=Fr.conv (fl':=[(0,vI x0),(1, .slice o_x1 x1.length c_x1),(5,vI y5),(7, .slice e1 y7.length q1),(8,vI y8),(11, .slice (some e3) d1.length d4.length),(12,vI y3),(90, .pointer (some (ad6.add (Int.toNat y3 * 1))))]) hf55 (by rw [hl3] <;> kernel_rfl)
     refine ⟨fun _=>trivial,?_⟩
     refine c_dt ?_
     refine c_sr ?_
     obtain ⟨p5,hp26506,hr32⟩:=bind_some hr31
     obtain ⟨ad7,ho7,hb14,cc7,hc7,hk7⟩:=hS13.ownGet (j:=1) rfl hp26506
     subst hc7
     obtain ⟨p6,hp26515,hr33⟩:=bind_some hr32
     obtain ⟨ad8,ho8,hb15,cc8,hc8,hk8⟩:=hS13.ownGet (j:=1) rfl hp26515
     subst hc8
     refine c_n 6 [.pointer (some ad7),vI p5, .pointer (some ad8)] [0,1,5,7,8,11,95,96] hf56 (.prop ho7 (.prop hb14 (.cell (hk7 0 _ rfl) (.prop ho8 (.prop hb15 .nil))))) fun a40 hf57=>?_
     obtain ⟨d2,hd7,hr34⟩:=bind_some hr33
     have hl4:=setI_len hd7
     refine p_setOwnI (i:=6) (j:=1) (ad:=ad8) (ix:=y3) (x':=(w64 (p5 + (1:Int)))) hS13 hf57 rfl ho8 (by kernel_rfl) hd7 fun ww11 a41 hS14 hf58=>?_
     have hf59:=Fr.conv (fl':=[(0,vI x0),(1, .slice o_x1 x1.length c_x1),(5,vI y5),(7, .slice e1 d2.length q1),(8,vI y8),(11, .slice (some e3) d1.length d4.length),(95,vI (w64 (p5 + (1:Int)))),(96, .pointer (some (ad8.add (Int.toNat y3 * 1))))]) hf58 (by rw [hl4] <;> kernel_rfl)
     refine ⟨fun _=>trivial,?_⟩
     refine c_dt ?_
     refine c_q [] [0,1,5,7,8,11] hf59 .nil fun a42 hf60=>?_
     refine n_block ?_
     refine n_then ?_
     exact ⟨n2,Nat.lt_succ_self n2,z4,d1,d2,(w64 (y8 - (1:Int))),(zt k7 k8),hf60.to,hS14,(hl3.symm.trans hl1),(hl4.symm.trans hl2),hr34⟩
   ·have hr35:=cond_f hb5 hr12
    refine c_exit 4 ?_
    refine x_then ?_
    refine x_then ?_
    refine x_block ?_
    refine n_then ?_
    refine c_sq [] [4] hf29 .nil fun a43 hf62=>?_
    refine c_ret ?_
    obtain ⟨z7,k11,hS15,hx1⟩:=hS8.share (j:=1) rfl
    refine c_rt [] (.slice e1 y7.length q1) hf62 .nil ?_
    obtain rfl:=some_eq hr35
    exact ⟨_,rfl,z7,e1,q1,(zt (zt (zt k5 k6) k7) k11),rfl,(St.drop 2 hS15),hx1⟩
def F128_l1 (x0:List Part):Nat→(List Int)→Int→Option (List Int)
  | 0,_,_=>none
  | n1 + 1,y1,y2 =>
    let k1:(List Int)→Int→Option (List Int):=F128_l1 x0 n1
    (cond (decide (y2<(x0.length:Int))) ((getI x0 y2).bind fun p1=>((appC y1 ([p1.mass])).bind fun d1=>(k1 d1 (w64 (y2 + (1:Int)))))) (some (y1)))
def F128 (fuel:Nat) (x0:List Part):Option (List Int) :=
  (F128_l1 x0 fuel ([]) 0)
set_option maxRecDepth 100000 in
theorem f128_ok (fuel:Nat) (x0:List Part) (r:List Int) (hr:F128 fuel x0=some r) (h:Zone) (L:List Atom) (w:World) (hS:St h L w) (o_x0:Option Addr) (c_x0:Nat) (hx_x0:SliceR PartT h o_x0 c_x0 x0) :
    Calls Try.prog 128 #[.agg #[.slice o_x0 x0.length c_x0]] w fun e w'=>∃v,e= .returned v∧(∃h',∃o0:Option Addr,∃c0:Nat,Zone.le h h'∧v= .slice o0 r.length c0∧St h' L w'∧SliceR Ty.int h' o0 c0 r):=by
 refine calls_intro (N:=22) Try.func128 (by kernel_rfl) fun a hf=>?_
 refine c_sr ?_
 refine c_box [.slice o_x0 x0.length c_x0] 40 hS hf fun b1 ww1 a1 hS1 hf1=>⟨fun _=>trivial,?_⟩
 refine c_t [] [1] hf1 .nil fun a2 hf2=>?_
 refine c_sq [] [1,3] hf2 .nil fun a3 hf3=>?_
 refine c_seq ?_
 refine c_sq [] [1,3,4] hf3 .nil fun a4 hf4=>?_
 refine c_block 0 ?_
 have hS2:=hS1.ownNil Ty.int 3
 refine c_loop (fun n a w=>∃z1:Zone,∃y1:List Int,∃y2:Int,∃e1:Option Addr,∃q1:Nat,Zone.le h z1∧Fr a 22 [(1,pB b1 0),(3, .slice e1 y1.length q1),(4,vI y2)]∧St z1 (ownS Ty.int 3 e1 q1 y1::box b1 [.slice o_x0 x0.length c_x0] 40::L) w∧(F128_l1 x0 n y1 y2)=some r) fuel ⟨h,[],0,none,0,zr,hf4.to,hS2,hr⟩ ?_
 rintro n2 a5 ww2 ⟨z1,y1,y2,e1,q1,k2,hf6,hS3,hr1⟩
 cases n2 with
 | zero=>cases hr1
 | succ n1 =>
 refine c_seq ?_
 refine c_sq [.slice o_x0 x0.length c_x0] [1,3,4,9] hf6 (.cell (hS3.box (i:=1) rfl (j:=0) rfl) .nil) fun a6 hf7=>?_
 refine c_if (decide (y2<(x0.length:Int))) hf7 (fun hb1=>?_) (fun hb1=>?_)
 ·have hr2:=cond_t hb1 hr1
  refine c_skip ?_
  refine n_then ?_
  refine c_seq ?_
  refine c_block 1 ?_
  refine c_reg ?_
  obtain ⟨p1,hp819,hr3⟩:=bind_some hr2
  obtain ⟨ad1,ho1,hb2,cc1,hc1,hk1⟩:=SliceR.getI (SliceR.mono k2 hx_x0) hp819
  subst hc1
  refine c_n 7 [.slice o_x0 x0.length c_x0, .pointer (some ad1),vI p1.mass] [1,4,12,18] hf7 (.cell (hS3.box (i:=1) rfl (j:=0) rfl) (.prop ho1 (.prop hb2 (.cell (hS3.cell (hk1 1 _ rfl)) .nil)))) fun a7 hf8=>?_
  refine p_box (i:=7) (d:=(some 19)) (cs:=[vI p1.mass]) (T:=3) (v:=fun b2=> .slice (some ⟨b2,0,none⟩) 1 1) hS3 hf8 (fun b=>by kernel_rfl) fun b2 ww3 a8 hS4 hf9=>⟨fun _=>trivial,?_⟩
  have hS5:=hS4.ownBox (T:=Ty.int) (E:=3) (n:=1) (xs:=[p1.mass]) (i:=0) rfl (Rows.cons (c:=[vI p1.mass]) rfl rfl) rfl (by decide)
  obtain ⟨d1,hd1,hr4⟩:=bind_some hr3
  refine p_append (T:=Ty.int) (i:=8) (j:=1) (d:=some 20) (o2:=(some ⟨b2,0,none⟩)) (c2:=1) (ys:=([p1.mass])) el53 hS5 hf9 rfl (by kernel_rfl) (hS5.ownSrc (j:=0) rfl) hd1 fun e2 q2 ww4 a9 hS6 hf10=>⟨fun _=>trivial,?_⟩
  refine c_z [] [1,3,4] hf10 .nil fun a10 hf11=>?_
  refine n_block ?_
  refine n_then ?_
  refine c_q [] [1,3,4] hf11 .nil fun a11 hf12=>?_
  refine n_then ?_
  exact ⟨n1,Nat.lt_succ_self n1,z1,d1,(w64 (y2 + (1:Int))),e2,q2,k2,hf12.to,(St.drop 1 hS6),hr4⟩
 ·have hr5:=cond_f hb1 hr1
  refine c_exit 0 ?_
  refine x_then ?_
  refine x_then ?_
  refine x_block ?_
  refine n_then ?_
  refine c_sq [] [2] hf7 .nil fun a12 hf14=>?_
  refine c_ret ?_
  obtain ⟨z2,k3,hS7,hx1⟩:=hS3.share (j:=0) rfl
  refine c_rt [] (.slice e1 y1.length q1) hf14 .nil ?_
  obtain rfl:=some_eq hr5
  exact ⟨_,rfl,z2,e1,q1,(zt k2 k3),rfl,(St.drop 2 hS7),hx1⟩
def F93_j1 (k1:(List Part)→(List Part)→Int→Option (List Part×List Part)) (y1:Int) (y2:List Part) (y3:List Part):Option (List Part×List Part) :=
  (k1 y2 y3 (w64 (y1 + (1:Int))))
def F93_j2 (k1:(List Part)→(List Part)→Int→Option (List Part×List Part)) (r1:List Int) (y4:List Part) (y1:Int) (p1:Part) (y5:List Part):Option (List Part×List Part) :=
  ((getI r1 y1).bind fun p2=>(cond (decide (p1.mass > p2)) ((getI r1 y1).bind fun p3=>((appC y4 ([⟨p1.lot,(w64 (p1.mass - p3))⟩])).bind fun d1=>(F93_j1 k1 y1 y5 d1))) (F93_j1 k1 y1 y5 y4)))
def F93_l1 (x0:List Part) (r1:List Int):Nat→(List Part)→(List Part)→Int→Option (List Part×List Part)
  | 0,_,_,_=>none
  | n1 + 1,y6,y4,y1 =>
    let k1:(List Part)→(List Part)→Int→Option (List Part×List Part):=F93_l1 x0 r1 n1
    (cond (decide (y1<(x0.length:Int))) ((getI x0 y1).bind fun p1=>((getI r1 y1).bind fun p4=>(cond (decide (p4 > (0:Int))) ((getI r1 y1).bind fun p5=>((appC y6 ([⟨p1.lot,p5⟩])).bind fun d2=>(F93_j2 k1 r1 y4 y1 p1 d2))) (F93_j2 k1 r1 y4 y1 p1 y6)))) (some (y6,y4)))
def F93 (fuel:Nat) (x0:List Part) (x1:Int):Option (List Part×List Part) :=
  (cond (x1 == (0:Int)) ((appC ([]) x0).bind fun d3=>(some ([],d3))) ((F128 fuel x0).bind fun r2=>((F126 fuel x1 r2).bind fun r1=>(F93_l1 x0 r1 fuel ([]) ([]) 0))))
set_option maxRecDepth 100000 in
theorem f93_ok (fuel:Nat) (x0:List Part) (x1:Int) (r:List Part×List Part) (hr:F93 fuel x0 x1=some r) (h:Zone) (L:List Atom) (w:World) (hS:St h L w) (o_x0:Option Addr) (c_x0:Nat) (hx_x0:SliceR PartT h o_x0 c_x0 x0) :
    Calls Try.prog 93 #[.agg #[.slice o_x0 x0.length c_x0],vI x1] w fun e w'=>∃v,e= .returned v∧(∃h',∃o0:Option Addr,∃c0:Nat,∃o1:Option Addr,∃c1:Nat,Zone.le h h'∧v= .tuple #[.agg #[.slice o0 r.1.length c0], .agg #[.slice o1 r.2.length c1]]∧St h' L w'∧SliceR PartT h' o0 c0 r.1∧SliceR PartT h' o1 c1 r.2):=by
 refine calls_intro (N:=78) Try.func93 (by kernel_rfl) fun a hf=>?_
 refine c_sr ?_
 refine c_box [.slice o_x0 x0.length c_x0] 40 hS hf fun b1 ww1 a1 hS1 hf1=>⟨fun _=>trivial,?_⟩
 refine c_box [.slice none 0 0] 40 hS1 hf1 fun b2 ww2 a2 hS2 hf2=>⟨fun _=>trivial,?_⟩
 refine c_box [.slice none 0 0] 40 hS2 hf2 fun b3 ww3 a3 hS3 hf3=>⟨fun _=>trivial,?_⟩
 refine c_dt ?_
 refine c_sr ?_
 refine c_box [.slice none 0 0] 40 hS3 hf3 fun b4 ww4 a4 hS4 hf4=>⟨fun _=>trivial,?_⟩
 refine c_dt ?_
 refine c_sr ?_
 refine c_box [.slice none 0 0] 40 hS4 hf4 fun b5 ww5 a5 hS5 hf5=>⟨fun _=>trivial,?_⟩
 refine c_dt ?_
 refine c_seq ?_
 refine c_sq [] [1,2,4,5,6,7,12] hf5 .nil fun a6 hf6=>?_
 refine c_if (x1 == (0:Int)) hf6 (fun hb1=>?_) (fun hb1=>?_)
 ·have hr1:=cond_t hb1 hr
  refine c_sr ?_
  refine c_n 4 [.slice none 0 0, .slice o_x0 x0.length c_x0] [4,5,6,7,14,16] hf6 (.cell (hS5.box (i:=0) rfl (j:=0) rfl) (.cell (hS5.box (i:=4) rfl (j:=0) rfl) .nil)) fun a7 hf7=>?_
  have hS6:=hS5.ownNil PartT 56
  obtain ⟨d3,hd1,hr2⟩:=bind_some hr1
  refine p_append (T:=PartT) (i:=4) (j:=0) (d:=some 17) (o2:=o_x0) (c2:=c_x0) (ys:=x0) el38 hS6 hf7 rfl (by kernel_rfl) (SliceR.src hx_x0 hS6) hd1 fun e1 q1 ww6 a8 hS7 hf8=>⟨fun _=>trivial,?_⟩
  refine c_n 1 [] [4,5,6,7,17,18] hf8 .nil fun a9 hf9=>?_
  refine c_st 1 [.slice e1 d3.length q1] hS7 hf9 rfl fun ww7 a10 hS8 hf10=>⟨fun _=>trivial,?_⟩
  refine c_dt ?_
  refine c_seq ?_
  have hS9:=hS8.drew
  have s1:=Sub.of zr (hS9.mask (i:=4) rfl)
  refine c_regD [(0,true),(1,true),(2,false),(3,false)] [3] _ s1 ?_
  refine c_S 2 [.slice none 0 0, .slice e1 d3.length q1] [4,5,19,20] s1 hf10 (fun _ s=>(.cell (s.box (i:=2) rfl (j:=0) rfl) (.cell (s.box (i:=1) rfl (j:=0) rfl) .nil))) .nil fun a11 hf11=>?_
  refine c_st 4 [.slice none 0 0] hS9 hf11 rfl fun ww8 a12 hS10 hf12=>⟨fun _=>Sub.of zr (hS10.mask (i:=4) rfl),?_⟩
  have s2:=Sub.of zr (hS10.mask (i:=4) rfl)
  refine c_st 3 [.slice e1 d3.length q1] hS10 hf12 rfl fun ww9 a13 hS11 hf13=>⟨fun e=>absurd e (by decide),?_⟩
  refine c_dt ?_
  refine c_ret ?_
  refine r_then ?_
  obtain ⟨z1,k2,hS12,hx1⟩:=hS11.share (j:=0) rfl
  refine c_rt [.slice none 0 0, .slice e1 d3.length q1] (.tuple #[.agg #[.slice none 0 0], .agg #[.slice e1 d3.length q1]]) hf13 (.cell (hS12.box (i:=4) rfl (j:=0) rfl) (.cell (hS12.box (i:=3) rfl (j:=0) rfl) .nil)) ?_
  obtain rfl:=some_eq hr2
  exact ⟨_,rfl,z1,none,0,e1,q1,k2,rfl,(St.drop 6 hS12),SliceR.nil' _ _,hx1⟩
 ·have hr3:=cond_f hb1 hr
  refine c_skip ?_
  refine n_then ?_
  refine c_sr ?_
  refine c_n 2 [.slice o_x0 x0.length c_x0] [2,4,5,6,7,21,22] hf6 (.cell (hS5.box (i:=4) rfl (j:=0) rfl) .nil) fun a14 hf14=>?_
  obtain ⟨r2,hd2,hr4⟩:=bind_some hr3
  refine c_call hf14 (f128_ok fuel x0 r2 hd2 h _ _ hS5 o_x0 c_x0 hx_x0) ?_
  rintro v1 ww10 a15 ⟨z2,e2,q2,k3,rfl,hS13,hx2⟩ hf15
  refine ⟨fun _=>trivial,?_⟩
  obtain ⟨r1,hd3,hr5⟩:=bind_some hr4
  refine c_call hf15 (f126_ok fuel x1 r2 r1 hd3 z2 _ _ hS13 e2 q2 hx2) ?_
  rintro v2 ww11 a16 ⟨z3,e3,q3,k4,rfl,hS14,hx3⟩ hf16
  refine ⟨fun _=>trivial,?_⟩
  refine c_t [] [2,4,5,6,7,8] hf16 .nil fun a17 hf17=>?_
  refine c_seq ?_
  refine c_sq [] [2,4,5,6,7,8,9] hf17 .nil fun a18 hf18=>?_
  refine c_block 0 ?_
  have hS15:=hS14.ownNil PartT 56
  have hS16:=hS15.ownNil PartT 56
  refine c_loop (fun n a w=>∃z4:Zone,∃y6:List Part,∃y4:List Part,∃y1:Int,∃e4:Option Addr,∃q4:Nat,∃e5:Option Addr,∃q5:Nat,Zone.le z3 z4∧Fr a 78 [(2,pB b1 0),(4,pB b2 0),(5,pB b3 0),(6,pB b4 0),(7,pB b5 0),(8, .slice e3 r1.length q3),(9,vI y1)]∧St z4 (ownS PartT 56 e4 q4 y6::ownS PartT 56 e5 q5 y4::box b5 [.slice e5 y4.length q5] 40::box b4 [.slice e4 y6.length q4] 40::box b3 [.slice none 0 0] 40::box b2 [.slice none 0 0] 40::box b1 [.slice o_x0 x0.length c_x0] 40::L) w∧(F93_l1 x0 r1 n y6 y4 y1)=some r) fuel ⟨z3,[],[],0,none,0,none,0,zr,hf18.to,hS16,hr5⟩ ?_
  rintro n2 a19 ww12 ⟨z4,y6,y4,y1,e4,q4,e5,q5,k5,hf20,hS17,hr6⟩
  cases n2 with
  | zero=>cases hr6
  | succ n1 =>
  refine c_seq ?_
  refine c_sq [.slice o_x0 x0.length c_x0] [2,4,5,6,7,8,9,29] hf20 (.cell (hS17.box (i:=6) rfl (j:=0) rfl) .nil) fun a20 hf21=>?_
  refine c_if (decide (y1<(x0.length:Int))) hf21 (fun hb2=>?_) (fun hb2=>?_)
  ·have hr7:=cond_t hb2 hr6
   refine c_skip ?_
   refine n_then ?_
   refine c_mid (fun a w=>∃z5:Zone,∃y2:List Part,∃y3:List Part,∃e6:Option Addr,∃q6:Nat,∃e7:Option Addr,∃q7:Nat,Zone.le z4 z5∧Fr a 78 [(2,pB b1 0),(4,pB b2 0),(5,pB b3 0),(6,pB b4 0),(7,pB b5 0),(8, .slice e3 r1.length q3),(9,vI y1)]∧St z5 (ownS PartT 56 e6 q6 y2::ownS PartT 56 e7 q7 y3::box b5 [.slice e7 y3.length q7] 40::box b4 [.slice e6 y2.length q6] 40::box b3 [.slice none 0 0] 40::box b2 [.slice none 0 0] 40::box b1 [.slice o_x0 x0.length c_x0] 40::L) w∧(F93_j1 (F93_l1 x0 r1 n1) y1 y2 y3)=some r) ?_ ?_
   ·skip
    refine c_block 1 ?_
    refine c_sr ?_
    obtain ⟨p1,hp12045,hr8⟩:=bind_some hr7
    obtain ⟨ad1,ho1,hb3,cc1,hc1,hk1⟩:=SliceR.getI (SliceR.mono (zt (zt k3 k4) k5) hx_x0) hp12045
    subst hc1
    refine c_n 5 [.slice o_x0 x0.length c_x0, .pointer (some ad1),vI p1.lot,vI p1.mass] [2,4,5,6,7,8,9,36] hf21 (.cell (hS17.box (i:=6) rfl (j:=0) rfl) (.prop ho1 (.prop hb3 (.cell (hS17.cell (hk1 0 _ rfl)) (.cell (hS17.cell (hk1 1 _ rfl)) .nil))))) fun a21 hf22=>?_
    refine c_box [vI 0,vI 0] 56 hS17 hf22 fun b6 ww13 a22 hS18 hf23=>⟨fun _=>trivial,?_⟩
    refine c_st 0 [vI p1.lot,vI p1.mass] hS18 hf23 rfl fun ww14 a23 hS19 hf24=>⟨fun _=>trivial,?_⟩
    refine c_dt ?_
    refine c_mid (fun a w=>∃z6:Zone,∃y5:List Part,∃e8:Option Addr,∃q8:Nat,Zone.le z4 z6∧Fr a 78 [(2,pB b1 0),(4,pB b2 0),(5,pB b3 0),(6,pB b4 0),(7,pB b5 0),(8, .slice e3 r1.length q3),(9,vI y1),(10,pB b6 0)]∧St z6 (box b6 [vI p1.lot,vI p1.mass] 56::ownS PartT 56 e8 q8 y5::ownS PartT 56 e5 q5 y4::box b5 [.slice e5 y4.length q5] 40::box b4 [.slice e8 y5.length q8] 40::box b3 [.slice none 0 0] 40::box b2 [.slice none 0 0] 40::box b1 [.slice o_x0 x0.length c_x0] 40::L) w∧(F93_j2 (F93_l1 x0 r1 n1) r1 y4 y1 p1 y5)=some r) ?_ ?_
    ·skip
     obtain ⟨p4,hp12237,hr9⟩:=bind_some hr8
     obtain ⟨ad2,ho2,hb4,cc2,hc2,hk2⟩:=SliceR.getI (SliceR.mono k5 hx3) hp12237
     subst hc2
     refine c_sq [.pointer (some ad2),vI p4] [2,4,5,6,7,8,9,10,41] hf24 (.prop ho2 (.prop hb4 (.cell (hS19.cell (hk2 0 _ rfl)) .nil))) fun a24 hf25=>?_
     refine c_if (decide (p4 > (0:Int))) hf25 (fun hb5=>?_) (fun hb5=>?_)
     ·have hr10:=cond_t hb5 hr9
      have hS20:=hS19.drew
      have s3:=Sub.of zr hS20
      refine c_regD [(0,true),(1,true),(2,true),(3,true),(4,true),(5,true),(6,true),(7,true),(8,true),(9,false),(10,false),(11,true),(12,false)] [10,12] _ s3 ?_
      obtain ⟨p5,hp12253,hr11⟩:=bind_some hr10
      obtain ⟨ad3,ho3,hb6,cc3,hc3,hk3⟩:=SliceR.getI (SliceR.mono k5 hx3) hp12253
      subst hc3
      refine c_S 9 [.slice e4 y6.length q4,vI p1.lot, .pointer (some ad3),vI p5] [2,4,5,6,7,8,9,10,43,50] s3 hf25 (fun _ s=>(.cell (s.box (i:=4) rfl (j:=0) rfl) (.cell (s.box (i:=0) rfl (j:=0) rfl) (.prop ho3 (.prop hb6 (.cell (s.cell (hk3 0 _ rfl)) .nil)))))) .nil fun a25 hf26=>?_
      refine p_box (i:=9) (d:=(some 51)) (cs:=[vI p1.lot,vI p5]) (T:=56) (v:=fun b7=> .slice (some ⟨b7,0,none⟩) 1 1) hS20 hf26 (fun b=>by kernel_rfl) fun b7 ww15 a26 hS21 hf27=>⟨fun _=>Sub.of zr (St.drop 1 hS21),?_⟩
      have hS22:=hS21.ownBox (T:=PartT) (E:=56) (n:=1) (xs:=[⟨p1.lot,p5⟩]) (i:=0) rfl (Rows.cons (c:=[vI p1.lot,vI p5]) rfl rfl) rfl (by decide)
      have s4:=Sub.of zr (St.drop 1 hS22)
      obtain ⟨d2,hd4,hr12⟩:=bind_some hr11
      refine p_append (T:=PartT) (i:=10) (j:=2) (d:=some 52) (o2:=(some ⟨b7,0,none⟩)) (c2:=1) (ys:=([⟨p1.lot,p5⟩])) el38 hS22 hf27 rfl (by kernel_rfl) (hS22.ownSrc (j:=0) rfl) hd4 fun e9 q9 ww16 a27 hS23 hf28=>⟨fun e=>absurd e (by decide),?_⟩
      refine p_qP 1 [] [(2,pB b1 0),(4,pB b2 0),(5,pB b3 0),(6,pB b4 0),(7,pB b5 0),(8, .slice e3 r1.length q3),(9,vI y1),(10,pB b6 0),(52, .slice e9 d2.length q9),(53,pB b4 0)] [] hf28 (by kernel_rfl) (fun _=> .nil) fun a28 hf29=>?_
      refine c_st 5 [.slice e9 d2.length q9] hS23 hf29 rfl fun ww17 a29 hS24 hf30=>⟨fun e=>absurd e (by decide),?_⟩
      refine c_dt ?_
      exact ⟨z4,d2,e9,q9,zr,hf30.to,(St.drop 1 hS24),hr12⟩
     ·have hr13:=cond_f hb5 hr9
      refine c_skip ?_
      refine n_then ?_
      exact ⟨z4,y6,e4,q4,zr,hf25.to,hS19,hr13⟩
    ·rintro a30 ww18 ⟨z6,y5,e8,q8,k6,hf33,hS25,hr14⟩
     have hS26:=hS25.drew
     obtain ⟨p2,hp12294,hr15⟩:=bind_some hr14
     obtain ⟨ad4,ho4,hb7,cc4,hc4,hk4⟩:=SliceR.getI (SliceR.mono (zt k5 k6) hx3) hp12294
     subst hc4
     refine c_sqD [(0,true),(1,true),(2,true),(3,true),(4,true),(5,true),(6,true)] [] [vI p1.mass, .pointer (some ad4),vI p2] [2,4,5,6,7,8,9,10,60] hf33 (.cell (hS26.box (i:=0) rfl (j:=1) rfl) (.prop ho4 (.prop hb7 (.cell (hS26.cell (hk4 0 _ rfl)) .nil)))) .nil fun a31 hf34=>?_
     refine c_if (decide (p1.mass > p2)) hf34 (fun hb8=>?_) (fun hb8=>?_)
     ·have hr16:=cond_t hb8 hr15
      have hS27:=hS26.drew
      have s5:=Sub.of zr hS27
      refine c_regD [(0,true),(1,true),(2,true),(3,true),(4,true),(5,true),(6,true),(7,true),(8,true),(9,true),(10,true),(11,true),(12,false),(13,false),(14,true),(15,false)] [13,15] _ s5 ?_
      obtain ⟨p3,hp12310,hr17⟩:=bind_some hr16
      obtain ⟨ad5,ho5,hb9,cc5,hc5,hk5⟩:=SliceR.getI (SliceR.mono (zt k5 k6) hx3) hp12310
      subst hc5
      refine c_S 12 [.slice e5 y4.length q5,vI p1.lot,vI p1.mass, .pointer (some ad5),vI p3] [2,4,5,6,7,8,9,62,72] s5 hf34 (fun _ s=>(.cell (s.box (i:=3) rfl (j:=0) rfl) (.cell (s.box (i:=0) rfl (j:=0) rfl) (.cell (s.box (i:=0) rfl (j:=1) rfl) (.prop ho5 (.prop hb9 (.cell (s.cell (hk5 0 _ rfl)) .nil))))))) .nil fun a32 hf35=>?_
      refine p_box (i:=12) (d:=(some 73)) (cs:=[vI p1.lot,vI (w64 (p1.mass - p3))]) (T:=56) (v:=fun b8=> .slice (some ⟨b8,0,none⟩) 1 1) hS27 hf35 (fun b=>by kernel_rfl) fun b8 ww19 a33 hS28 hf36=>⟨fun _=>Sub.of zr (St.drop 1 hS28),?_⟩
      have hS29:=hS28.ownBox (T:=PartT) (E:=56) (n:=1) (xs:=[⟨p1.lot,(w64 (p1.mass - p3))⟩]) (i:=0) rfl (Rows.cons (c:=[vI p1.lot,vI (w64 (p1.mass - p3))]) rfl rfl) rfl (by decide)
      have s6:=Sub.of zr (St.drop 1 hS29)
      obtain ⟨d1,hd5,hr18⟩:=bind_some hr17
      refine p_append (T:=PartT) (i:=13) (j:=3) (d:=some 74) (o2:=(some ⟨b8,0,none⟩)) (c2:=1) (ys:=([⟨p1.lot,(w64 (p1.mass - p3))⟩])) el38 hS29 hf36 rfl (by kernel_rfl) (hS29.ownSrc (j:=0) rfl) hd5 fun e10 q10 ww20 a34 hS30 hf37=>⟨fun e=>absurd e (by decide),?_⟩
      refine p_qP 1 [] [(2,pB b1 0),(4,pB b2 0),(5,pB b3 0),(6,pB b4 0),(7,pB b5 0),(8, .slice e3 r1.length q3),(9,vI y1),(74, .slice e10 d1.length q10),(75,pB b5 0)] [] hf37 (by kernel_rfl) (fun _=> .nil) fun a35 hf38=>?_
      refine c_st 4 [.slice e10 d1.length q10] hS30 hf38 rfl fun ww21 a36 hS31 hf39=>⟨fun e=>absurd e (by decide),?_⟩
      refine c_done ?_
      refine n_block ?_
      refine n_then ?_
      exact ⟨z6,y5,d1,e8,q8,e10,q10,k6,hf39.to,(St.drop 2 hS31),hr18⟩
     ·have hr19:=cond_f hb8 hr15
      refine c_skip ?_
      refine n_block ?_
      refine n_then ?_
      exact ⟨z6,y5,y4,e8,q8,e5,q5,k6,hf34.to,(St.drop 1 hS26),hr19⟩
   ·rintro a37 ww22 ⟨z5,y2,y3,e6,q6,e7,q7,k7,hf42,hS32,hr20⟩
    refine c_q [] [2,4,5,6,7,8,9] hf42 .nil fun a38 hf43=>?_
    refine n_then ?_
    exact ⟨n1,Nat.lt_succ_self n1,z5,y2,y3,(w64 (y1 + (1:Int))),e6,q6,e7,q7,(zt k5 k7),hf43.to,hS32,hr20⟩
  ·have hr21:=cond_f hb2 hr6
   refine c_exit 0 ?_
   refine x_then ?_
   refine x_then ?_
   refine x_block ?_
   refine n_then ?_
   refine c_seq ?_
   have hS33:=hS17.drew
   have s7:=Sub.of zr (hS33.mask (i:=5) rfl)
   refine c_regD [(0,true),(1,true),(2,false),(3,false)] [3] _ s7 ?_
   refine c_S 2 [.slice e4 y6.length q4, .slice e5 y4.length q5] [4,5,76,77] s7 hf21 (fun _ s=>(.cell (s.box (i:=3) rfl (j:=0) rfl) (.cell (s.box (i:=2) rfl (j:=0) rfl) .nil))) .nil fun a39 hf45=>?_
   refine c_st 5 [.slice e4 y6.length q4] hS33 hf45 rfl fun ww23 a40 hS34 hf46=>⟨fun _=>Sub.of zr (hS34.mask (i:=5) rfl),?_⟩
   have s8:=Sub.of zr (hS34.mask (i:=5) rfl)
   refine c_st 4 [.slice e5 y4.length q5] hS34 hf46 rfl fun ww24 a41 hS35 hf47=>⟨fun e=>absurd e (by decide),?_⟩
   refine c_dt ?_
   refine c_ret ?_
   obtain ⟨z7,k8,hS36,hx4⟩:=hS35.share (j:=0) rfl
   obtain ⟨z8,k9,hS37,hx5⟩:=hS36.share (j:=1) rfl
   refine c_rt [.slice e4 y6.length q4, .slice e5 y4.length q5] (.tuple #[.agg #[.slice e4 y6.length q4], .agg #[.slice e5 y4.length q5]]) hf47 (.cell (hS37.box (i:=5) rfl (j:=0) rfl) (.cell (hS37.box (i:=4) rfl (j:=0) rfl) .nil)) ?_
   obtain rfl:=some_eq hr21
   exact ⟨_,rfl,z8,e4,q4,e5,q5,(zt (zt (zt (zt k3 k4) k5) k8) k9),rfl,(St.drop 7 hS37),(SliceR.mono k9 hx4),hx5⟩
def F87_j1 (k1:(List (List Part))→(List Part)→Int→Option (List (List Part)×List Part)) (y1:Int) (r1:Int) (r2:List Part) (y2:List (List Part)):Option (List (List Part)×List Part) :=
  (k1 y2 r2 (w64 (y1 - (if r1<y1 then r1 else y1))))
def F87_l1 (fuel:Nat):Nat→(List (List Part))→(List Part)→Int→Option (List (List Part)×List Part)
  | 0,_,_,_=>none
  | n1 + 1,y3,y4,y1 =>
    let k1:(List (List Part))→(List Part)→Int→Option (List (List Part)×List Part):=F87_l1 fuel n1
    (cond (decide (y1 > (0:Int))) ((getI y3 (w64 ((y3.length:Int) - (1:Int)))).bind fun p1=>((F92 fuel p1).bind fun r1=>((F93 fuel p1 (if r1<y1 then r1 else y1)).bind fun r3=>((F89 fuel y4 r3.1).bind fun r2=>((subI y3 0 (w64 ((y3.length:Int) - (1:Int)))).bind fun d1=>(cond (decide ((r3.2.length:Int) > (0:Int))) ((appC d1 ([r3.2])).bind fun d2=>(F87_j1 k1 y1 r1 r2 d2)) (F87_j1 k1 y1 r1 r2 d1))))))) (some (y3,y4)))
def F87 (fuel:Nat) (x0:List (List Part)) (x1:Int):Option (List (List Part)×List Part) :=
  ((appC ([]) x0).bind fun d3=>(F87_l1 fuel fuel d3 ([]) x1))
set_option maxRecDepth 100000 in
theorem f87_ok (fuel:Nat) (x0:List (List Part)) (x1:Int) (r:List (List Part)×List Part) (hr:F87 fuel x0 x1=some r) (h:Zone) (L:List Atom) (w:World) (hS:St h L w) (o_x0:Option Addr) (c_x0:Nat) (hx_x0:SliceR (Ty.slice PartT) h o_x0 c_x0 x0) :
    Calls Try.prog 87 #[.slice o_x0 x0.length c_x0,vI x1] w fun e w'=>∃v,e= .returned v∧(∃h',∃o0:Option Addr,∃c0:Nat,∃o1:Option Addr,∃c1:Nat,Zone.le h h'∧v= .tuple #[.slice o0 r.1.length c0, .agg #[.slice o1 r.2.length c1]]∧St h' (ownS (Ty.slice PartT) 40 o0 c0 r.1::L) w'∧SliceR PartT h' o1 c1 r.2):=by
 refine calls_intro (N:=54) Try.func87 (by kernel_rfl) fun a hf=>?_
 refine c_sr ?_
 refine c_n 1 [] [0,1] hf .nil fun a1 hf1=>?_
 refine c_box [.slice none 0 0] 40 hS hf1 fun b1 ww1 a2 hS1 hf2=>⟨fun _=>trivial,?_⟩
 refine c_dt ?_
 refine c_sr ?_
 refine p_box (i:=0) (d:=(some 12)) (cs:=[]) (T:=40) (v:=fun b2=> .slice (some ⟨b2,0,none⟩) 0 0) hS1 hf2 (fun b=>by kernel_rfl) fun b2 ww2 a3 hS2 hf3=>⟨fun _=>trivial,?_⟩
 have hS3:=hS2.ownBox (T:=(Ty.slice PartT)) (E:=40) (n:=0) (xs:=[]) (i:=0) rfl rfl rfl (by decide)
 refine c_n 1 [] [1,5,12,13] hf3 .nil fun a4 hf4=>?_
 obtain ⟨d3,hd1,hr1⟩:=bind_some hr
 refine p_append (T:=(Ty.slice PartT)) (i:=2) (j:=0) (d:=some 14) (o2:=o_x0) (c2:=c_x0) (ys:=x0) el23 hS3 hf4 rfl (by kernel_rfl) (SliceR.src hx_x0 hS3) hd1 fun e1 q1 ww3 a5 hS4 hf5=>⟨fun _=>trivial,?_⟩
 refine c_t [] [1,5,6] hf5 .nil fun a6 hf6=>?_
 refine c_sr ?_
 refine c_box [.slice none 0 0] 40 hS4 hf6 fun b3 ww4 a7 hS5 hf7=>⟨fun _=>trivial,?_⟩
 refine c_dt ?_
 refine c_seq ?_
 refine c_block 0 ?_
 refine c_loop (fun n a w=>∃z1:Zone,∃y3:List (List Part),∃y4:List Part,∃y1:Int,∃e2:Option Addr,∃q2:Nat,∃e3:Option Addr,∃q3:Nat,Zone.le h z1∧Fr a 54 [(1,vI y1),(5,pB b1 0),(6, .slice e2 y3.length q2),(7,pB b3 0)]∧St z1 (box b3 [.slice e3 y4.length q3] 40::ownS (Ty.slice PartT) 40 e2 q2 y3::box b1 [.slice none 0 0] 40::L) w∧SliceR PartT z1 e3 q3 y4∧(F87_l1 fuel n y3 y4 y1)=some r) fuel ⟨h,d3,[],x1,e1,q1,none,0,zr,hf7.to,hS5,SliceR.nil' _ _,hr1⟩ ?_
 rintro n2 a8 ww5 ⟨z1,y3,y4,y1,e2,q2,e3,q3,k2,hf9,hS6,hx1,hr2⟩
 cases n2 with
 | zero=>cases hr2
 | succ n1 =>
 refine c_seq ?_
 refine c_sq [] [1,5,6,7,16] hf9 .nil fun a9 hf10=>?_
 refine c_if (decide (y1 > (0:Int))) hf10 (fun hb1=>?_) (fun hb1=>?_)
 ·have hr3:=cond_t hb1 hr2
  refine c_skip ?_
  refine n_then ?_
  refine c_block 1 ?_
  refine c_sr ?_
  obtain ⟨p1,hp1869,hr4⟩:=bind_some hr3
  obtain ⟨ad1,ho1,hb2,cc1,hc1,hk1⟩:=hS6.ownGet (j:=1) rfl hp1869
  obtain ⟨e4,q4,rfl,hx2⟩:=hc1
  refine c_n 6 [.pointer (some ad1), .slice e4 p1.length q4] [1,5,6,7,22] hf10 (.prop ho1 (.prop hb2 (.cell (hk1 0 _ rfl) .nil))) fun a10 hf11=>?_
  refine c_box [.slice none 0 0] 40 hS6 hf11 fun b4 ww6 a11 hS7 hf12=>⟨fun _=>trivial,?_⟩
  refine c_st 0 [.slice e4 p1.length q4] hS7 hf12 rfl fun ww7 a12 hS8 hf13=>⟨fun _=>trivial,?_⟩
  refine c_dt ?_
  refine c_sr ?_
  refine c_n 2 [.slice e4 p1.length q4] [1,5,6,7,8,23,24] hf13 (.cell (hS8.box (i:=0) rfl (j:=0) rfl) .nil) fun a13 hf14=>?_
  obtain ⟨r1,hd2,hr5⟩:=bind_some hr4
  refine c_call hf14 (f92_ok fuel p1 r1 hd2 z1 _ _ hS8 e4 q4 hx2) ?_
  rintro v1 ww8 a14 ⟨z2,k3,rfl,hS9⟩ hf15
  refine ⟨fun _=>trivial,?_⟩
  refine c_t [] [1,5,6,7,8,9] hf15 .nil fun a15 hf16=>?_
  refine c_sr ?_
  refine c_n 2 [.slice e4 p1.length q4] [1,5,6,7,9,28,29] hf16 (.cell (hS9.box (i:=0) rfl (j:=0) rfl) .nil) fun a16 hf17=>?_
  obtain ⟨r3,hd3,hr6⟩:=bind_some hr5
  refine c_call hf17 (f93_ok fuel p1 (if r1<y1 then r1 else y1) r3 hd3 z2 _ _ hS9 e4 q4 (SliceR.mono k3 hx2)) ?_
  rintro v2 ww9 a17 ⟨z3,e5,q5,e6,q6,k4,rfl,hS10,hx3,hx4⟩ hf18
  refine ⟨fun _=>trivial,?_⟩
  refine c_n 3 [] [1,5,6,7,9,31,32] hf18 .nil fun a18 hf19=>?_
  refine c_box [.slice none 0 0] 40 hS10 hf19 fun b5 ww10 a19 hS11 hf20=>⟨fun _=>trivial,?_⟩
  refine c_box [.slice none 0 0] 40 hS11 hf20 fun b6 ww11 a20 hS12 hf21=>⟨fun _=>trivial,?_⟩
  refine c_st 1 [.slice e5 r3.1.length q5] hS12 hf21 rfl fun ww12 a21 hS13 hf22=>⟨fun _=>trivial,?_⟩
  refine c_st 0 [.slice e6 r3.2.length q6] hS13 hf22 rfl fun ww13 a22 hS14 hf23=>⟨fun _=>trivial,?_⟩
  refine c_dt ?_
  refine c_sr ?_
  refine c_n 2 [.slice e3 y4.length q3, .slice e5 r3.1.length q5] [1,5,6,7,9,11,33,34] hf23 (.cell (hS14.box (i:=3) rfl (j:=0) rfl) (.cell (hS14.box (i:=1) rfl (j:=0) rfl) .nil)) fun a23 hf24=>?_
  obtain ⟨r2,hd4,hr7⟩:=bind_some hr6
  refine c_call hf24 (f89_ok fuel y4 r3.1 r2 hd4 z3 _ _ hS14 e3 q3 (SliceR.mono (zt k3 k4) hx1) e5 q5 hx3) ?_
  rintro v3 ww14 a24 ⟨z4,e7,q7,k5,rfl,hS15,hx5⟩ hf25
  refine ⟨fun _=>trivial,?_⟩
  refine c_st 3 [.slice e7 r2.length q7] hS15 hf25 rfl fun ww15 a25 hS16 hf26=>⟨fun _=>trivial,?_⟩
  refine c_dt ?_
  obtain ⟨d1,hd5,hr8⟩:=bind_some hr7
  obtain ⟨hv1,hb3,hS17⟩:=hS16.ownSub (j:=4) rfl hd5
  refine c_sq [.slice e2 d1.length q2] [1,5,6,7,9,11] hf26 (.prop hv1 (.prop hb3 .nil)) fun a26 hf27=>?_
  refine c_mid (fun a w=>∃z5:Zone,∃y2:List (List Part),∃e8:Option Addr,∃q8:Nat,Zone.le z4 z5∧Fr a 54 [(1,vI y1),(5,pB b1 0),(6, .slice e8 y2.length q8),(7,pB b3 0),(9,vI (if r1<y1 then r1 else y1))]∧St z5 (box b6 [.slice e6 r3.2.length q6] 40::box b5 [.slice e5 r3.1.length q5] 40::box b4 [.slice e4 p1.length q4] 40::box b3 [.slice e7 r2.length q7] 40::ownS (Ty.slice PartT) 40 e8 q8 y2::box b1 [.slice none 0 0] 40::L) w∧(F87_j1 (F87_l1 fuel n1) y1 r1 r2 y2)=some r) ?_ ?_
  ·skip
   refine c_sq [.slice e6 r3.2.length q6] [1,5,6,7,9,11,44] hf27 (.cell (hS17.box (i:=0) rfl (j:=0) rfl) .nil) fun a27 hf28=>?_
   refine c_if (decide ((r3.2.length:Int) > (0:Int))) hf28 (fun hb4=>?_) (fun hb4=>?_)
   ·have hr9:=cond_t hb4 hr8
    refine c_reg ?_
    refine c_n 2 [.slice e6 r3.2.length q6] [1,5,7,9,45,46] hf28 (.cell (hS17.box (i:=0) rfl (j:=0) rfl) .nil) fun a28 hf29=>?_
    refine p_box (i:=2) (d:=(some 47)) (cs:=[.slice e6 r3.2.length q6]) (T:=40) (v:=fun b7=> .slice (some ⟨b7,0,none⟩) 1 1) hS17 hf29 (fun b=>by kernel_rfl) fun b7 ww16 a29 hS18 hf30=>⟨fun _=>trivial,?_⟩
    have hS19:=hS18.ownBox (T:=(Ty.slice PartT)) (E:=40) (n:=1) (xs:=[r3.2]) (i:=0) rfl (Rows.cons (c:=[.slice e6 r3.2.length q6]) (sliceRep ((SliceR.mono k5 hx4))) rfl) rfl (by decide)
    obtain ⟨d2,hd6,hr10⟩:=bind_some hr9
    refine p_append (T:=(Ty.slice PartT)) (i:=3) (j:=5) (d:=some 48) (o2:=(some ⟨b7,0,none⟩)) (c2:=1) (ys:=([r3.2])) el23 hS19 hf30 rfl (by kernel_rfl) (hS19.ownSrc (j:=0) rfl) hd6 fun e9 q9 ww17 a30 hS20 hf31=>⟨fun _=>trivial,?_⟩
    refine c_t [] [1,5,6,7,9] hf31 .nil fun a31 hf32=>?_
    exact ⟨z4,d2,e9,q9,zr,hf32.to,(St.drop 1 hS20),hr10⟩
   ·have hr11:=cond_f hb4 hr8
    refine c_skip ?_
    refine n_then ?_
    exact ⟨z4,d1,e2,q2,zr,hf28.to,hS17,hr11⟩
  ·rintro a32 ww18 ⟨z5,y2,e8,q8,k6,hf35,hS21,hr12⟩
   refine c_q [] [1,5,6,7] hf35 .nil fun a33 hf36=>?_
   refine n_block ?_
   refine n_then ?_
   exact ⟨n1,Nat.lt_succ_self n1,z5,y2,r2,(w64 (y1 - (if r1<y1 then r1 else y1))),e8,q8,e7,q7,(zt (zt (zt (zt k2 k3) k4) k5) k6),hf36.to,(St.drop 3 hS21),(SliceR.mono k6 hx5),hr12⟩
 ·have hr13:=cond_f hb1 hr2
  refine c_exit 0 ?_
  refine x_then ?_
  refine x_then ?_
  refine x_block ?_
  refine n_then ?_
  refine c_seq ?_
  have hS22:=hS6.drew
  refine c_regD [(0,true),(1,true),(2,true),(3,false)] [3] (fun x=>x=ww5.drew) rfl ?_
  refine c_E 3 [.slice e3 y4.length q3] [4,5,53] hf10 (.cell (hS22.box (i:=0) rfl (j:=0) rfl) .nil) .nil fun a34 hf38=>?_
  refine c_st 2 [.slice e3 y4.length q3] hS22 hf38 rfl fun ww19 a35 hS23 hf39=>⟨fun e=>absurd e (by decide),?_⟩
  refine c_dt ?_
  refine c_ret ?_
  refine c_rt [.slice e3 y4.length q3] (.tuple #[.slice e2 y3.length q2, .agg #[.slice e3 y4.length q3]]) hf39 (.cell (hS23.box (i:=2) rfl (j:=0) rfl) .nil) ?_
  obtain rfl:=some_eq hr13
  exact ⟨_,rfl,z1,e2,q2,e3,q3,k2,rfl,(St.pick 3 [1] hS23 (by kernel_rfl)),hx1⟩
def F88_j1 (k1:(List (List Part))→(List Part)→Int→Option (List (List Part)×List Part)) (y1:Int) (y2:List (List Part)) (y3:List Part):Option (List (List Part)×List Part) :=
  (k1 y2 y3 (w64 (y1 + (1:Int))))
def F88_j2 (fuel:Nat) (k1:(List (List Part))→(List Part)→Int→Option (List (List Part)×List Part)) (y4:List (List Part)) (y5:List Part) (y1:Int) (y6:List Part) (y7:List Part):Option (List (List Part)×List Part) :=
  ((F89 fuel y5 y6).bind fun r1=>(cond (decide ((y7.length:Int) > (0:Int))) ((appC y4 ([y7])).bind fun d1=>(F88_j1 k1 y1 d1 r1)) (F88_j1 k1 y1 y4 r1)))
def F88_l2 (fuel:Nat) (x0:List (List Part)) (r2:List Int):Nat→(List (List Part))→(List Part)→Int→Option (List (List Part)×List Part)
  | 0,_,_,_=>none
  | n1 + 1,y4,y5,y1 =>
    let k1:(List (List Part))→(List Part)→Int→Option (List (List Part)×List Part):=F88_l2 fuel x0 r2 n1
    (cond (decide (y1<(x0.length:Int))) ((getI x0 y1).bind fun p1=>((getI r2 y1).bind fun p2=>((F93 fuel p1 p2).bind fun r3=>(F88_j2 fuel k1 y4 y5 y1 r3.1 r3.2)))) (some (y4,y5)))
def F88_l1 (fuel:Nat) (x0:List (List Part)) (x1:Int):Nat→(List Int)→Int→Option (List (List Part)×List Part)
  | 0,_,_=>none
  | n2 + 1,y8,y9 =>
    let k2:(List Int)→Int→Option (List (List Part)×List Part):=F88_l1 fuel x0 x1 n2
    (cond (decide (y9<(x0.length:Int))) ((getI x0 y9).bind fun p3=>((F92 fuel p3).bind fun r4=>((appC y8 ([r4])).bind fun d2=>(k2 d2 (w64 (y9 + (1:Int))))))) ((F126 fuel x1 y8).bind fun r2=>(F88_l2 fuel x0 r2 fuel ([]) ([]) 0)))
def F88 (fuel:Nat) (x0:List (List Part)) (x1:Int):Option (List (List Part)×List Part) :=
  (F88_l1 fuel x0 x1 fuel ([]) 0)
set_option maxRecDepth 100000 in
theorem f88_ok (fuel:Nat) (x0:List (List Part)) (x1:Int) (r:List (List Part)×List Part) (hr:F88 fuel x0 x1=some r) (h:Zone) (L:List Atom) (w:World) (hS:St h L w) (o_x0:Option Addr) (c_x0:Nat) (hx_x0:SliceR (Ty.slice PartT) h o_x0 c_x0 x0) :
    Calls Try.prog 88 #[.slice o_x0 x0.length c_x0,vI x1] w fun e w'=>∃v,e= .returned v∧(∃h',∃o0:Option Addr,∃c0:Nat,∃o1:Option Addr,∃c1:Nat,Zone.le h h'∧v= .tuple #[.slice o0 r.1.length c0, .agg #[.slice o1 r.2.length c1]]∧St h' (ownS (Ty.slice PartT) 40 o0 c0 r.1::L) w'∧SliceR PartT h' o1 c1 r.2):=by
 refine calls_intro (N:=62) Try.func88 (by kernel_rfl) fun a hf=>?_
 refine c_sr ?_
 refine c_n 1 [] [0,1] hf .nil fun a1 hf1=>?_
 refine c_box [.slice none 0 0] 40 hS hf1 fun b1 ww1 a2 hS1 hf2=>⟨fun _=>trivial,?_⟩
 refine c_dt ?_
 refine c_sq [] [0,1,5,6] hf2 .nil fun a3 hf3=>?_
 refine c_seq ?_
 refine c_sq [] [0,1,5,6,7] hf3 .nil fun a4 hf4=>?_
 refine c_block 0 ?_
 have hS2:=hS1.ownNil Ty.int 3
 refine c_loop (fun n a w=>∃z1:Zone,∃y8:List Int,∃y9:Int,∃e1:Option Addr,∃q1:Nat,Zone.le h z1∧Fr a 62 [(0, .slice o_x0 x0.length c_x0),(1,vI x1),(5,pB b1 0),(6, .slice e1 y8.length q1),(7,vI y9)]∧St z1 (ownS Ty.int 3 e1 q1 y8::box b1 [.slice none 0 0] 40::L) w∧(F88_l1 fuel x0 x1 n y8 y9)=some r) fuel ⟨h,[],0,none,0,zr,hf4.to,hS2,hr⟩ ?_
 rintro n3 a5 ww2 ⟨z1,y8,y9,e1,q1,k3,hf6,hS3,hr1⟩
 cases n3 with
 | zero=>cases hr1
 | succ n2 =>
 refine c_seq ?_
 refine c_sq [] [0,1,5,6,7,17] hf6 .nil fun a6 hf7=>?_
 refine c_if (decide (y9<(x0.length:Int))) hf7 (fun hb1=>?_) (fun hb1=>?_)
 ·have hr2:=cond_t hb1 hr1
  refine c_skip ?_
  refine n_then ?_
  refine c_seq ?_
  refine c_block 1 ?_
  refine c_reg ?_
  obtain ⟨p3,hp1161,hr3⟩:=bind_some hr2
  obtain ⟨ad1,ho1,hb2,cc1,hc1,hk1⟩:=SliceR.getI (SliceR.mono k3 hx_x0) hp1161
  obtain ⟨e2,q2,rfl,hx1⟩:=hc1
  refine c_n 5 [.pointer (some ad1), .slice e2 p3.length q2] [0,1,5,7,20,24] hf7 (.prop ho1 (.prop hb2 (.cell (hS3.cell (hk1 0 _ rfl)) .nil))) fun a7 hf8=>?_
  obtain ⟨r4,hd1,hr4⟩:=bind_some hr3
  refine c_call hf8 (f92_ok fuel p3 r4 hd1 z1 _ _ hS3 e2 q2 hx1) ?_
  rintro v1 ww3 a8 ⟨z2,k4,rfl,hS4⟩ hf9
  refine ⟨fun _=>trivial,?_⟩
  refine p_box (i:=6) (d:=(some 26)) (cs:=[vI r4]) (T:=3) (v:=fun b2=> .slice (some ⟨b2,0,none⟩) 1 1) hS4 hf9 (fun b=>by kernel_rfl) fun b2 ww4 a9 hS5 hf10=>⟨fun _=>trivial,?_⟩
  have hS6:=hS5.ownBox (T:=Ty.int) (E:=3) (n:=1) (xs:=[r4]) (i:=0) rfl (Rows.cons (c:=[vI r4]) rfl rfl) rfl (by decide)
  obtain ⟨d2,hd2,hr5⟩:=bind_some hr4
  refine p_append (T:=Ty.int) (i:=7) (j:=1) (d:=some 27) (o2:=(some ⟨b2,0,none⟩)) (c2:=1) (ys:=([r4])) el53 hS6 hf10 rfl (by kernel_rfl) (hS6.ownSrc (j:=0) rfl) hd2 fun e3 q3 ww5 a10 hS7 hf11=>⟨fun _=>trivial,?_⟩
  refine c_z [] [0,1,5,6,7] hf11 .nil fun a11 hf12=>?_
  refine n_block ?_
  refine n_then ?_
  refine c_q [] [0,1,5,6,7] hf12 .nil fun a12 hf13=>?_
  refine n_then ?_
  exact ⟨n2,Nat.lt_succ_self n2,z2,d2,(w64 (y9 + (1:Int))),e3,q3,(zt k3 k4),hf13.to,(St.drop 1 hS7),hr5⟩
 ·have hr6:=cond_f hb1 hr1
  refine c_exit 0 ?_
  refine x_then ?_
  refine x_then ?_
  refine x_block ?_
  refine n_then ?_
  refine c_sr ?_
  refine c_n 2 [] [0,5,28,29] hf7 .nil fun a13 hf15=>?_
  obtain ⟨z3,k5,hS8,hx2⟩:=hS3.share (j:=0) rfl
  obtain ⟨r2,hd3,hr7⟩:=bind_some hr6
  refine c_call hf15 (f126_ok fuel x1 y8 r2 hd3 z3 _ _ hS8 e1 q1 hx2) ?_
  rintro v2 ww6 a14 ⟨z4,e4,q4,k6,rfl,hS9,hx3⟩ hf16
  refine ⟨fun _=>trivial,?_⟩
  refine c_t [] [0,5,8] hf16 .nil fun a15 hf17=>?_
  refine c_sq [] [0,5,8,9] hf17 .nil fun a16 hf18=>?_
  refine c_sr ?_
  refine c_box [.slice none 0 0] 40 hS9 hf18 fun b3 ww7 a17 hS10 hf19=>⟨fun _=>trivial,?_⟩
  refine c_dt ?_
  refine c_seq ?_
  refine c_sq [] [0,5,8,9,10,11] hf19 .nil fun a18 hf20=>?_
  refine c_block 2 ?_
  have hS11:=hS10.ownNil (Ty.slice PartT) 40
  refine c_loop (fun n a w=>∃z5:Zone,∃y4:List (List Part),∃y5:List Part,∃y1:Int,∃e5:Option Addr,∃q5:Nat,∃e6:Option Addr,∃q6:Nat,Zone.le z4 z5∧Fr a 62 [(0, .slice o_x0 x0.length c_x0),(5,pB b1 0),(8, .slice e4 r2.length q4),(9, .slice e5 y4.length q5),(10,pB b3 0),(11,vI y1)]∧St z5 (ownS (Ty.slice PartT) 40 e5 q5 y4::box b3 [.slice e6 y5.length q6] 40::emp::box b1 [.slice none 0 0] 40::L) w∧SliceR PartT z5 e6 q6 y5∧(F88_l2 fuel x0 r2 n y4 y5 y1)=some r) fuel ⟨z4,[],[],0,none,0,none,0,zr,hf20.to,hS11,SliceR.nil' _ _,hr7⟩ ?_
  rintro n4 a19 ww8 ⟨z5,y4,y5,y1,e5,q5,e6,q6,k7,hf22,hS12,hx4,hr8⟩
  cases n4 with
  | zero=>cases hr8
  | succ n1 =>
  refine c_seq ?_
  refine c_sq [] [0,5,8,9,10,11,34] hf22 .nil fun a20 hf23=>?_
  refine c_if (decide (y1<(x0.length:Int))) hf23 (fun hb3=>?_) (fun hb3=>?_)
  ·have hr9:=cond_t hb3 hr8
   refine c_skip ?_
   refine n_then ?_
   refine c_mid (fun a w=>∃z6:Zone,∃y2:List (List Part),∃y3:List Part,∃e7:Option Addr,∃q7:Nat,∃e8:Option Addr,∃q8:Nat,Zone.le z5 z6∧Fr a 62 [(0, .slice o_x0 x0.length c_x0),(5,pB b1 0),(8, .slice e4 r2.length q4),(9, .slice e7 y2.length q7),(10,pB b3 0),(11,vI y1)]∧St z6 (ownS (Ty.slice PartT) 40 e7 q7 y2::box b3 [.slice e8 y3.length q8] 40::emp::box b1 [.slice none 0 0] 40::L) w∧SliceR PartT z6 e8 q8 y3∧(F88_j1 (F88_l2 fuel x0 r2 n1) y1 y2 y3)=some r) ?_ ?_
   ·skip
    refine c_block 3 ?_
    refine c_mid (fun a w=>∃z7:Zone,∃y6:List Part,∃y7:List Part,∃b4:Nat,∃b5:Nat,∃e9:Option Addr,∃q9:Nat,∃e10:Option Addr,∃q10:Nat,Zone.le z5 z7∧Fr a 62 [(0, .slice o_x0 x0.length c_x0),(5,pB b1 0),(8, .slice e4 r2.length q4),(9, .slice e5 y4.length q5),(10,pB b3 0),(11,vI y1),(12,pB b4 0),(13,pB b5 0)]∧St z7 (box b4 [.slice e9 y6.length q9] 40::box b5 [.slice e10 y7.length q10] 40::ownS (Ty.slice PartT) 40 e5 q5 y4::box b3 [.slice e6 y5.length q6] 40::emp::box b1 [.slice none 0 0] 40::L) w∧SliceR PartT z7 e9 q9 y6∧SliceR PartT z7 e10 q10 y7∧(F88_j2 fuel (F88_l2 fuel x0 r2 n1) y4 y5 y1 y6 y7)=some r) ?_ ?_
    ·skip
     have hS13:=hS12.drew
     have s1:=Sub.of zr hS13
     refine w_regB (by kernel_rfl) [8,14,15] (Sub z5 (ownS (Ty.slice PartT) 40 e5 q5 y4::box b3 [.slice e6 y5.length q6] 40::emp::box b1 [.slice none 0 0] 40::L)) (by kernel_rfl) ?_
     refine k_seg' 8 [(0,true),(1,true),(2,true),(3,true),(4,true),(5,true),(6,true),(7,true)] (by kernel_rfl) (by kernel_rfl) (At.start s1) (by kernel_rfl) ?_
     obtain ⟨p1,hp46245,hr10⟩:=bind_some hr9
     obtain ⟨ad2,ho2,hb4,cc2,hc2,hk2⟩:=SliceR.getI (SliceR.mono (zt (zt (zt k3 k5) k6) k7) hx_x0) hp46245
     obtain ⟨e11,q11,rfl,hx5⟩:=hc2
     obtain ⟨p2,hp46257,hr11⟩:=bind_some hr10
     obtain ⟨ad3,ho3,hb5,cc3,hc3,hk3⟩:=SliceR.getI (SliceR.mono k7 hx3) hp46257
     subst hc3
     refine c_S 8 [.pointer (some ad2), .slice e11 p1.length q11, .pointer (some ad3),vI p2] [0,5,8,9,10,11,41,45] s1 hf23 (fun _ s=>(.prop ho2 (.prop hb4 (.cell (s.cell (hk2 0 _ rfl)) (.prop ho3 (.prop hb5 (.cell (s.cell (hk3 0 _ rfl)) .nil))))))) .nil fun a21 hf24=>?_
     refine c_done ?_
     intro hA1
     refine k_any' 7 [8,12,13] (by kernel_rfl) hA1 (by kernel_rfl) (by kernel_rfl) ?_
     refine (all_cons ?_ (all_cons ?_ (all_cons ?_ all_nil)))
     ·skip
      obtain ⟨r3,hd4,hr12⟩:=bind_some hr11
      refine c_call hf24 (f93_ok fuel p1 p2 r3 hd4 z5 _ _ hS13 e11 q11 hx5) ?_
      rintro v3 ww9 a22 ⟨z8,e12,q12,e13,q13,k8,rfl,hS14,hx6,hx7⟩ hf25
      refine ⟨fun e=>absurd e (by decide),?_⟩
      refine c_done ?_
      intro hA2
      refine k_seg' 4 [(9,true),(10,true),(11,true)] (by kernel_rfl) (by kernel_rfl) hA2 (by kernel_rfl) ?_
      refine p_qP 3 [] [(0, .slice o_x0 x0.length c_x0),(5,pB b1 0),(8, .slice e4 r2.length q4),(9, .slice e5 y4.length q5),(10,pB b3 0),(11,vI y1),(47, .agg #[.slice e12 r3.1.length q12]),(48, .agg #[.slice e13 r3.2.length q13])] [] hf25 (by kernel_rfl) (fun _=> .nil) fun a23 hf26=>?_
      refine c_done ?_
      intro hA3
      refine k_any' 3 [12,13] (by kernel_rfl) hA3 (by kernel_rfl) (by kernel_rfl) ?_
      refine (all_cons ?_ (all_cons ?_ all_nil))
      ·skip
       refine c_box [.slice none 0 0] 40 hS14 hf26 fun b6 ww10 a24 hS15 hf27=>⟨fun _=>Sub.of k8 (St.drop 1 hS15),?_⟩
       refine c_done ?_
       intro hA4
       refine k_seg' 0 [(13,false),(14,false),(15,false)] (by kernel_rfl) (by kernel_rfl) hA4 (by kernel_rfl) ?_
       refine c_box [.slice none 0 0] 40 hS15 hf27 fun b7 ww11 a25 hS16 hf28=>⟨fun _=>Sub.of k8 (St.drop 2 hS16),?_⟩
       have s2:=Sub.of k8 (St.drop 2 hS16)
       refine c_st 1 [.slice e12 r3.1.length q12] hS16 hf28 rfl fun ww12 a26 hS17 hf29=>⟨fun e=>absurd e (by decide),?_⟩
       refine c_st 0 [.slice e13 r3.2.length q13] hS17 hf29 rfl fun ww13 a27 hS18 hf30=>⟨fun e=>absurd e (by decide),?_⟩
       refine c_done ?_
       intro hA5
       refine k_done' (by kernel_rfl) (by kernel_rfl) ?_
       refine n_then ?_
       exact ⟨z8,r3.1,r3.2,b6,b7,e12,q12,e13,q13,k8,hf30.to,(St.pick 2 [1,0] hS18 (by kernel_rfl)),hx6,hx7,hr12⟩
      ·skip
       refine c_box [.slice none 0 0] 40 hS14 hf26 fun b8 ww14 a28 hS19 hf32=>⟨fun _=>Sub.of k8 (St.drop 1 hS19),?_⟩
       refine c_done ?_
       intro hA6
       refine k_seg' 0 [(12,false),(14,false),(15,false)] (by kernel_rfl) (by kernel_rfl) hA6 (by kernel_rfl) ?_
       refine c_box [.slice none 0 0] 40 hS19 hf32 fun b9 ww15 a29 hS20 hf33=>⟨fun _=>Sub.of k8 (St.drop 2 hS20),?_⟩
       have s3:=Sub.of k8 (St.drop 2 hS20)
       refine c_st 0 [.slice e12 r3.1.length q12] hS20 hf33 rfl fun ww16 a30 hS21 hf34=>⟨fun e=>absurd e (by decide),?_⟩
       refine c_st 1 [.slice e13 r3.2.length q13] hS21 hf34 rfl fun ww17 a31 hS22 hf35=>⟨fun e=>absurd e (by decide),?_⟩
       refine c_done ?_
       intro hA7
       refine k_done' (by kernel_rfl) (by kernel_rfl) ?_
       refine n_then ?_
       exact ⟨z8,r3.1,r3.2,b9,b8,e12,q12,e13,q13,k8,hf35.to,(St.pick 2 [0,1] hS22 (by kernel_rfl)),hx6,hx7,hr12⟩
     ·skip
      refine c_box [.slice none 0 0] 40 hS13 hf24 fun b10 ww18 a32 hS23 hf37=>⟨fun _=>Sub.of zr (St.drop 1 hS23),?_⟩
      refine c_done ?_
      intro hA8
      have s4:=Sub.of zr (St.drop 1 hS23)
      refine k_seg' 7 [] (by kernel_rfl) (by kernel_rfl) hA8 (by kernel_rfl) ?_
      refine c_done ?_
      intro hA9
      refine k_any' 6 [8,13] (by kernel_rfl) hA9 (by kernel_rfl) (by kernel_rfl) ?_
      refine (all_cons ?_ (all_cons ?_ all_nil))
      ·skip
       obtain ⟨r5,hd5,hr13⟩:=bind_some hr11
       refine c_call hf37 (f93_ok fuel p1 p2 r5 hd5 z5 _ _ hS23 e11 q11 hx5) ?_
       rintro v4 ww19 a33 ⟨z9,e14,q14,e15,q15,k9,rfl,hS24,hx8,hx9⟩ hf38
       refine ⟨fun e=>absurd e (by decide),?_⟩
       refine c_done ?_
       intro hA10
       refine k_seg' 0 [(9,true),(10,true),(11,true),(13,false),(14,false),(15,false)] (by kernel_rfl) (by kernel_rfl) hA10 (by kernel_rfl) ?_
       refine p_qP 3 [] [(0, .slice o_x0 x0.length c_x0),(5,pB b1 0),(8, .slice e4 r2.length q4),(9, .slice e5 y4.length q5),(10,pB b3 0),(11,vI y1),(12,pB b10 0),(47, .agg #[.slice e14 r5.1.length q14]),(48, .agg #[.slice e15 r5.2.length q15])] [] hf38 (by kernel_rfl) (fun _=> .nil) fun a34 hf39=>?_
       refine c_box [.slice none 0 0] 40 hS24 hf39 fun b11 ww20 a35 hS25 hf40=>⟨fun _=>Sub.of k9 (St.drop 2 hS25),?_⟩
       have s5:=Sub.of k9 (St.drop 2 hS25)
       refine c_st 1 [.slice e14 r5.1.length q14] hS25 hf40 rfl fun ww21 a36 hS26 hf41=>⟨fun e=>absurd e (by decide),?_⟩
       refine c_st 0 [.slice e15 r5.2.length q15] hS26 hf41 rfl fun ww22 a37 hS27 hf42=>⟨fun e=>absurd e (by decide),?_⟩
       refine c_done ?_
       intro hA11
       refine k_done' (by kernel_rfl) (by kernel_rfl) ?_
       refine n_then ?_
       exact ⟨z9,r5.1,r5.2,b10,b11,e14,q14,e15,q15,k9,hf42.to,(St.pick 2 [1,0] hS27 (by kernel_rfl)),hx8,hx9,hr13⟩
      ·skip
       refine c_box [.slice none 0 0] 40 hS23 hf37 fun b12 ww23 a38 hS28 hf44=>⟨fun _=>Sub.of zr (St.drop 2 hS28),?_⟩
       refine c_done ?_
       intro hA12
       have s6:=Sub.of zr (St.drop 2 hS28)
       refine k_seg' 0 [(8,false),(9,true),(10,true),(11,true),(14,false),(15,false)] (by kernel_rfl) (by kernel_rfl) hA12 (by kernel_rfl) ?_
       obtain ⟨r6,hd6,hr14⟩:=bind_some hr11
       refine c_call hf44 (f93_ok fuel p1 p2 r6 hd6 z5 _ _ hS28 e11 q11 hx5) ?_
       rintro v5 ww24 a39 ⟨z10,e16,q16,e17,q17,k10,rfl,hS29,hx10,hx11⟩ hf45
       refine ⟨fun e=>absurd e (by decide),?_⟩
       refine p_qP 3 [] [(0, .slice o_x0 x0.length c_x0),(5,pB b1 0),(8, .slice e4 r2.length q4),(9, .slice e5 y4.length q5),(10,pB b3 0),(11,vI y1),(12,pB b10 0),(13,pB b12 0),(47, .agg #[.slice e16 r6.1.length q16]),(48, .agg #[.slice e17 r6.2.length q17])] [] hf45 (by kernel_rfl) (fun _=> .nil) fun a40 hf46=>?_
       refine c_st 1 [.slice e16 r6.1.length q16] hS29 hf46 rfl fun ww25 a41 hS30 hf47=>⟨fun e=>absurd e (by decide),?_⟩
       refine c_st 0 [.slice e17 r6.2.length q17] hS30 hf47 rfl fun ww26 a42 hS31 hf48=>⟨fun e=>absurd e (by decide),?_⟩
       refine c_done ?_
       intro hA13
       refine k_done' (by kernel_rfl) (by kernel_rfl) ?_
       refine n_then ?_
       exact ⟨z10,r6.1,r6.2,b10,b12,e16,q16,e17,q17,k10,hf48.to,(St.pick 2 [1,0] hS31 (by kernel_rfl)),hx10,hx11,hr14⟩
     ·skip
      refine c_box [.slice none 0 0] 40 hS13 hf24 fun b13 ww27 a43 hS32 hf50=>⟨fun _=>Sub.of zr (St.drop 1 hS32),?_⟩
      refine c_done ?_
      intro hA14
      have s7:=Sub.of zr (St.drop 1 hS32)
      refine k_seg' 7 [] (by kernel_rfl) (by kernel_rfl) hA14 (by kernel_rfl) ?_
      refine c_done ?_
      intro hA15
      refine k_any' 6 [8,12] (by kernel_rfl) hA15 (by kernel_rfl) (by kernel_rfl) ?_
      refine (all_cons ?_ (all_cons ?_ all_nil))
      ·skip
       obtain ⟨r7,hd7,hr15⟩:=bind_some hr11
       refine c_call hf50 (f93_ok fuel p1 p2 r7 hd7 z5 _ _ hS32 e11 q11 hx5) ?_
       rintro v6 ww28 a44 ⟨z11,e18,q18,e19,q19,k11,rfl,hS33,hx12,hx13⟩ hf51
       refine ⟨fun e=>absurd e (by decide),?_⟩
       refine c_done ?_
       intro hA16
       refine k_seg' 0 [(9,true),(10,true),(11,true),(12,false),(14,false),(15,false)] (by kernel_rfl) (by kernel_rfl) hA16 (by kernel_rfl) ?_
       refine p_qP 3 [] [(0, .slice o_x0 x0.length c_x0),(5,pB b1 0),(8, .slice e4 r2.length q4),(9, .slice e5 y4.length q5),(10,pB b3 0),(11,vI y1),(13,pB b13 0),(47, .agg #[.slice e18 r7.1.length q18]),(48, .agg #[.slice e19 r7.2.length q19])] [] hf51 (by kernel_rfl) (fun _=> .nil) fun a45 hf52=>?_
       refine c_box [.slice none 0 0] 40 hS33 hf52 fun b14 ww29 a46 hS34 hf53=>⟨fun _=>Sub.of k11 (St.drop 2 hS34),?_⟩
       have s8:=Sub.of k11 (St.drop 2 hS34)
       refine c_st 0 [.slice e18 r7.1.length q18] hS34 hf53 rfl fun ww30 a47 hS35 hf54=>⟨fun e=>absurd e (by decide),?_⟩
       refine c_st 1 [.slice e19 r7.2.length q19] hS35 hf54 rfl fun ww31 a48 hS36 hf55=>⟨fun e=>absurd e (by decide),?_⟩
       refine c_done ?_
       intro hA17
       refine k_done' (by kernel_rfl) (by kernel_rfl) ?_
       refine n_then ?_
       exact ⟨z11,r7.1,r7.2,b14,b13,e18,q18,e19,q19,k11,hf55.to,(St.pick 2 [0,1] hS36 (by kernel_rfl)),hx12,hx13,hr15⟩
      ·skip
       refine c_box [.slice none 0 0] 40 hS32 hf50 fun b15 ww32 a49 hS37 hf57=>⟨fun _=>Sub.of zr (St.drop 2 hS37),?_⟩
       refine c_done ?_
       intro hA18
       have s9:=Sub.of zr (St.drop 2 hS37)
       refine k_seg' 0 [(8,false),(9,true),(10,true),(11,true),(14,false),(15,false)] (by kernel_rfl) (by kernel_rfl) hA18 (by kernel_rfl) ?_
       obtain ⟨r8,hd8,hr16⟩:=bind_some hr11
       refine c_call hf57 (f93_ok fuel p1 p2 r8 hd8 z5 _ _ hS37 e11 q11 hx5) ?_
       rintro v7 ww33 a50 ⟨z12,e20,q20,e21,q21,k12,rfl,hS38,hx14,hx15⟩ hf58
       refine ⟨fun e=>absurd e (by decide),?_⟩
       refine p_qP 3 [] [(0, .slice o_x0 x0.length c_x0),(5,pB b1 0),(8, .slice e4 r2.length q4),(9, .slice e5 y4.length q5),(10,pB b3 0),(11,vI y1),(12,pB b15 0),(13,pB b13 0),(47, .agg #[.slice e20 r8.1.length q20]),(48, .agg #[.slice e21 r8.2.length q21])] [] hf58 (by kernel_rfl) (fun _=> .nil) fun a51 hf59=>?_
       refine c_st 0 [.slice e20 r8.1.length q20] hS38 hf59 rfl fun ww34 a52 hS39 hf60=>⟨fun e=>absurd e (by decide),?_⟩
       refine c_st 1 [.slice e21 r8.2.length q21] hS39 hf60 rfl fun ww35 a53 hS40 hf61=>⟨fun e=>absurd e (by decide),?_⟩
       refine c_done ?_
       intro hA19
       refine k_done' (by kernel_rfl) (by kernel_rfl) ?_
       refine n_then ?_
       exact ⟨z12,r8.1,r8.2,b15,b13,e20,q20,e21,q21,k12,hf61.to,(St.pick 2 [0,1] hS40 (by kernel_rfl)),hx14,hx15,hr16⟩
    ·rintro a54 ww36 ⟨z7,y6,y7,b4,b5,e9,q9,e10,q10,k13,hf63,hS41,hx16,hx17,hr17⟩
     refine c_sr ?_
     refine c_n 2 [.slice e6 y5.length q6, .slice e9 y6.length q9] [0,5,8,9,10,11,13,49,50] hf63 (.cell (hS41.box (i:=3) rfl (j:=0) rfl) (.cell (hS41.box (i:=0) rfl (j:=0) rfl) .nil)) fun a55 hf64=>?_
     obtain ⟨r1,hd9,hr18⟩:=bind_some hr17
     refine c_call hf64 (f89_ok fuel y5 y6 r1 hd9 z7 _ _ hS41 e6 q6 (SliceR.mono k13 hx4) e9 q9 hx16) ?_
     rintro v8 ww37 a56 ⟨z13,e22,q22,k14,rfl,hS42,hx18⟩ hf65
     refine ⟨fun _=>trivial,?_⟩
     refine c_st 3 [.slice e22 r1.length q22] hS42 hf65 rfl fun ww38 a57 hS43 hf66=>⟨fun _=>trivial,?_⟩
     refine c_dt ?_
     refine c_sq [.slice e10 y7.length q10] [0,5,8,9,10,11,13,55] hf66 (.cell (hS43.box (i:=1) rfl (j:=0) rfl) .nil) fun a58 hf67=>?_
     refine c_if (decide ((y7.length:Int) > (0:Int))) hf67 (fun hb6=>?_) (fun hb6=>?_)
     ·have hr19:=cond_t hb6 hr18
      refine c_reg ?_
      refine c_n 2 [.slice e10 y7.length q10] [0,5,8,10,11,56,57] hf67 (.cell (hS43.box (i:=1) rfl (j:=0) rfl) .nil) fun a59 hf68=>?_
      refine p_box (i:=2) (d:=(some 58)) (cs:=[.slice e10 y7.length q10]) (T:=40) (v:=fun b16=> .slice (some ⟨b16,0,none⟩) 1 1) hS43 hf68 (fun b=>by kernel_rfl) fun b16 ww39 a60 hS44 hf69=>⟨fun _=>trivial,?_⟩
      have hS45:=hS44.ownBox (T:=(Ty.slice PartT)) (E:=40) (n:=1) (xs:=[y7]) (i:=0) rfl (Rows.cons (c:=[.slice e10 y7.length q10]) (sliceRep ((SliceR.mono k14 hx17))) rfl) rfl (by decide)
      obtain ⟨d1,hd10,hr20⟩:=bind_some hr19
      refine p_append (T:=(Ty.slice PartT)) (i:=3) (j:=3) (d:=some 59) (o2:=(some ⟨b16,0,none⟩)) (c2:=1) (ys:=([y7])) el23 hS45 hf69 rfl (by kernel_rfl) (hS45.ownSrc (j:=0) rfl) hd10 fun e23 q23 ww40 a61 hS46 hf70=>⟨fun _=>trivial,?_⟩
      refine c_z [] [0,5,8,9,10,11] hf70 .nil fun a62 hf71=>?_
      refine n_block ?_
      refine n_then ?_
      exact ⟨z13,d1,r1,e23,q23,e22,q22,(zt k13 k14),hf71.to,(St.drop 3 hS46),hx18,hr20⟩
     ·have hr21:=cond_f hb6 hr18
      refine c_skip ?_
      refine n_block ?_
      refine n_then ?_
      exact ⟨z13,y4,r1,e5,q5,e22,q22,(zt k13 k14),hf67.to,(St.drop 2 hS43),hx18,hr21⟩
   ·rintro a63 ww41 ⟨z6,y2,y3,e7,q7,e8,q8,k15,hf74,hS47,hx19,hr22⟩
    refine c_q [] [0,5,8,9,10,11] hf74 .nil fun a64 hf75=>?_
    refine n_then ?_
    exact ⟨n1,Nat.lt_succ_self n1,z6,y2,y3,(w64 (y1 + (1:Int))),e7,q7,e8,q8,(zt k7 k15),hf75.to,hS47,hx19,hr22⟩
  ·have hr23:=cond_f hb3 hr8
   refine c_exit 2 ?_
   refine x_then ?_
   refine x_then ?_
   refine x_block ?_
   refine n_then ?_
   refine c_seq ?_
   have hS48:=hS12.drew
   refine c_regD [(0,true),(1,true),(2,true),(3,false)] [3] (fun x=>x=ww8.drew) rfl ?_
   refine c_E 3 [.slice e6 y5.length q6] [4,5,61] hf23 (.cell (hS48.box (i:=1) rfl (j:=0) rfl) .nil) .nil fun a65 hf77=>?_
   refine c_st 3 [.slice e6 y5.length q6] hS48 hf77 rfl fun ww42 a66 hS49 hf78=>⟨fun e=>absurd e (by decide),?_⟩
   refine c_dt ?_
   refine c_ret ?_
   refine c_rt [.slice e6 y5.length q6] (.tuple #[.slice e5 y4.length q5, .agg #[.slice e6 y5.length q6]]) hf78 (.cell (hS49.box (i:=3) rfl (j:=0) rfl) .nil) ?_
   obtain rfl:=some_eq hr23
   exact ⟨_,rfl,z5,e5,q5,e6,q6,(zt (zt (zt k3 k5) k6) k7),rfl,(St.pick 4 [0] hS49 (by kernel_rfl)),hx4⟩
def F28_j2 (y1:List Part) (y2:List Lot) (y3:List (List (List Part))):Option (List Lot×List (List (List Part))×List Part×Int) :=
  (some (y2,y3,y1,0))
def F28_j1 (fuel:Nat) (r1:List Lot×List (List (List Part))) (y4:List (List (List Part))) (y5:List Part):Option (List Lot×List (List (List Part))×List Part×Int) :=
  ((F85 fuel r1.1 y4).bind fun r2=>((appC ([]) y5).bind fun d1=>(F28_j2 d1 r2.1 r2.2)))
def F28 (fuel:Nat) (x0l:List Lot) (x0h:List (List (List Part))) (x1k:Int) (x1o:Int) (x1f:Int) (x1t:Int) (x1m:Int):Option (List Lot×List (List (List Part))×List Part×Int) :=
  ((F24 fuel x0l x0h x1k x1o x1f x1t x1m).bind fun r3=>(cond (r3 != (0:Int)) (some ([],[[],[],[],[],[],[],[],[],[]],[],r3)) ((F85 fuel x0l x0h).bind fun r1=>(cond (x1k == (1:Int)) ((getI r1.2 x1t).bind fun p1=>((F86 fuel p1 ([⟨x1o,x1m⟩])).bind fun r4=>(F28_j1 fuel r1 (r1.2.set (Int.toNat x1t) r4) ([⟨x1o,x1m⟩])))) (cond (x1k == (2:Int)) ((getI r1.2 x1t).bind fun p2=>((appC p2 ([[⟨x1o,x1m⟩]])).bind fun d2=>(F28_j1 fuel r1 (r1.2.set (Int.toNat x1t) d2) ([⟨x1o,x1m⟩])))) (cond (x1k == (3:Int)) ((getI r1.2 x1f).bind fun p3=>((F87 fuel p3 x1m).bind fun r5=>(F28_j1 fuel r1 (r1.2.set (Int.toNat x1f) r5.1) r5.2))) (cond (x1k == (4:Int)) ((getI r1.2 x1f).bind fun p4=>((F87 fuel p4 x1m).bind fun r6=>((getI (r1.2.set (Int.toNat x1f) r6.1) x1t).bind fun p5=>((F86 fuel p5 r6.2).bind fun r7=>(F28_j1 fuel r1 ((r1.2.set (Int.toNat x1f) r6.1).set (Int.toNat x1t) r7) r6.2))))) (cond (x1k == (5:Int)) ((getI r1.2 x1f).bind fun p6=>((F88 fuel p6 x1m).bind fun r8=>(F28_j1 fuel r1 (r1.2.set (Int.toNat x1f) r8.1) r8.2))) (cond (x1k == (6:Int)) ((getI r1.2 x1f).bind fun p7=>((subI p7 0 (w64 ((p7.length:Int) - (2:Int)))).bind fun d3=>((getI p7 (w64 ((p7.length:Int) - (2:Int)))).bind fun p8=>((getI p7 (w64 ((p7.length:Int) - (1:Int)))).bind fun p9=>((appC ([]) d3).bind fun d4=>((F89 fuel p8 p9).bind fun r9=>((appC d4 ([r9])).bind fun d5=>(F28_j1 fuel r1 (r1.2.set (Int.toNat x1f) d5) ([]))))))))) (F28_j1 fuel r1 r1.2 ([])))))))))))
set_option maxRecDepth 100000 in
theorem f28_ok (fuel:Nat) (x0l:List Lot) (x0h:List (List (List Part))) (x1k:Int) (x1o:Int) (x1f:Int) (x1t:Int) (x1m:Int) (r:List Lot×List (List (List Part))×List Part×Int) (hr:F28 fuel x0l x0h x1k x1o x1f x1t x1m=some r) (h:Zone) (L:List Atom) (w:World) (hS:St h L w) (o_x0l:Option Addr) (c_x0l:Nat) (hx_x0l:SliceR LotT h o_x0l c_x0l x0l) (V00 V01 V02 V03 V04 V05 V06 V07 V08:Value) (hx_x0h:(Ty.arr 9 (Ty.slice (Ty.slice PartT))).rep h [V00,V01,V02,V03,V04,V05,V06,V07,V08] x0h) :
    Calls Try.prog 28 #[.agg #[.slice o_x0l x0l.length c_x0l,V00,V01,V02,V03,V04,V05,V06,V07,V08], .agg #[vI x1k,vI x1o,vI x1f,vI x1t,vI x1m]] w fun e w'=>∃v,e= .returned v∧(∃h',∃o0:Option Addr,∃c0:Nat,∃v1_0:Value,∃v1_1:Value,∃v1_2:Value,∃v1_3:Value,∃v1_4:Value,∃v1_5:Value,∃v1_6:Value,∃v1_7:Value,∃v1_8:Value,∃o2:Option Addr,∃c2:Nat,Zone.le h h'∧v= .tuple #[.agg #[.slice o0 r.1.length c0,v1_0,v1_1,v1_2,v1_3,v1_4,v1_5,v1_6,v1_7,v1_8], .agg #[.slice o2 r.2.2.1.length c2],vI r.2.2.2]∧St h' L w'∧SliceR LotT h' o0 c0 r.1∧(Ty.arr 9 (Ty.slice (Ty.slice PartT))).rep h' [v1_0,v1_1,v1_2,v1_3,v1_4,v1_5,v1_6,v1_7,v1_8] r.2.1∧SliceR PartT h' o2 c2 r.2.2.1):=by
 refine calls_intro (N:=162) Try.func28 (by kernel_rfl) fun a hf=>?_
 refine c_sr ?_
 refine c_box [.slice o_x0l x0l.length c_x0l,V00,V01,V02,V03,V04,V05,V06,V07,V08] 26 hS hf fun b1 ww1 a1 hS1 hf1=>⟨fun _=>trivial,?_⟩
 refine c_box [vI x1k,vI x1o,vI x1f,vI x1t,vI x1m] 28 hS1 hf1 fun b2 ww2 a2 hS2 hf2=>⟨fun _=>trivial,?_⟩
 refine c_box [.slice none 0 0, .slice none 0 0, .slice none 0 0, .slice none 0 0, .slice none 0 0, .slice none 0 0, .slice none 0 0, .slice none 0 0, .slice none 0 0, .slice none 0 0] 26 hS2 hf2 fun b3 ww3 a3 hS3 hf3=>⟨fun _=>trivial,?_⟩
 refine c_box [.slice none 0 0] 40 hS3 hf3 fun b4 ww4 a4 hS4 hf4=>⟨fun _=>trivial,?_⟩
 refine c_t [] [2,3,4,5] hf4 .nil fun a5 hf5=>?_
 refine c_sr ?_
 refine c_n 2 [.slice o_x0l x0l.length c_x0l,V00,V01,V02,V03,V04,V05,V06,V07,V08,vI x1k,vI x1o,vI x1f,vI x1t,vI x1m] [2,3,4,5,13,14] hf5 (.cell (hS4.box (i:=3) rfl (j:=0) rfl) (.cell (hS4.box (i:=3) rfl (j:=1) rfl) (.cell (hS4.box (i:=3) rfl (j:=2) rfl) (.cell (hS4.box (i:=3) rfl (j:=3) rfl) (.cell (hS4.box (i:=3) rfl (j:=4) rfl) (.cell (hS4.box (i:=3) rfl (j:=5) rfl) (.cell (hS4.box (i:=3) rfl (j:=6) rfl) (.cell (hS4.box (i:=3) rfl (j:=7) rfl) (.cell (hS4.box (i:=3) rfl (j:=8) rfl) (.cell (hS4.box (i:=3) rfl (j:=9) rfl) (.cell (hS4.box (i:=2) rfl (j:=0) rfl) (.cell (hS4.box (i:=2) rfl (j:=1) rfl) (.cell (hS4.box (i:=2) rfl (j:=2) rfl) (.cell (hS4.box (i:=2) rfl (j:=3) rfl) (.cell (hS4.box (i:=2) rfl (j:=4) rfl) .nil))))))))))))))) fun a6 hf6=>?_
 obtain ⟨r3,hd1,hr1⟩:=bind_some hr
 refine c_call hf6 (f24_ok fuel x0l x0h x1k x1o x1f x1t x1m r3 hd1 h _ _ hS4 o_x0l c_x0l hx_x0l V00 V01 V02 V03 V04 V05 V06 V07 V08 (Ty.mono _ zr hx_x0h)) ?_
 rintro v1 ww5 a7 ⟨z1,k1,rfl,hS5⟩ hf7
 refine ⟨fun _=>trivial,?_⟩
 refine c_t [] [2,3,4,5,7] hf7 .nil fun a8 hf8=>?_
 refine c_seq ?_
 refine c_sq [] [2,3,4,5,7,17] hf8 .nil fun a9 hf9=>?_
 refine c_if (r3 != (0:Int)) hf9 (fun hb1=>?_) (fun hb1=>?_)
 ·have hr2:=cond_t hb1 hr1
  refine c_sr ?_
  refine c_n 3 [] [4,5,18,19,20] hf9 .nil fun a10 hf10=>?_
  refine c_st 1 [.slice none 0 0, .slice none 0 0, .slice none 0 0, .slice none 0 0, .slice none 0 0, .slice none 0 0, .slice none 0 0, .slice none 0 0, .slice none 0 0, .slice none 0 0] hS5 hf10 rfl fun ww6 a11 hS6 hf11=>⟨fun _=>trivial,?_⟩
  refine c_st 0 [.slice none 0 0] hS6 hf11 rfl fun ww7 a12 hS7 hf12=>⟨fun _=>trivial,?_⟩
  refine c_t [] [4,5,6] hf12 .nil fun a13 hf13=>?_
  refine c_ret ?_
  refine r_then ?_
  refine c_rt [.slice none 0 0, .slice none 0 0, .slice none 0 0, .slice none 0 0, .slice none 0 0, .slice none 0 0, .slice none 0 0, .slice none 0 0, .slice none 0 0, .slice none 0 0, .slice none 0 0] (.tuple #[.agg #[.slice none 0 0, .slice none 0 0, .slice none 0 0, .slice none 0 0, .slice none 0 0, .slice none 0 0, .slice none 0 0, .slice none 0 0, .slice none 0 0, .slice none 0 0], .agg #[.slice none 0 0],vI r3]) hf13 (.cell (hS7.box (i:=1) rfl (j:=0) rfl) (.cell (hS7.box (i:=1) rfl (j:=1) rfl) (.cell (hS7.box (i:=1) rfl (j:=2) rfl) (.cell (hS7.box (i:=1) rfl (j:=3) rfl) (.cell (hS7.box (i:=1) rfl (j:=4) rfl) (.cell (hS7.box (i:=1) rfl (j:=5) rfl) (.cell (hS7.box (i:=1) rfl (j:=6) rfl) (.cell (hS7.box (i:=1) rfl (j:=7) rfl) (.cell (hS7.box (i:=1) rfl (j:=8) rfl) (.cell (hS7.box (i:=1) rfl (j:=9) rfl) (.cell (hS7.box (i:=0) rfl (j:=0) rfl) .nil))))))))))) ?_
  obtain rfl:=some_eq hr2
  exact ⟨_,rfl,z1,none,0, .slice none 0 0, .slice none 0 0, .slice none 0 0, .slice none 0 0, .slice none 0 0, .slice none 0 0, .slice none 0 0, .slice none 0 0, .slice none 0 0,none,0,k1,rfl,(St.drop 4 hS7),SliceR.nil' _ _,⟨rfl,(Rows.cons (c:=[_]) (sliceRep (SliceR.nil' _ _)) (Rows.cons (c:=[_]) (sliceRep (SliceR.nil' _ _)) (Rows.cons (c:=[_]) (sliceRep (SliceR.nil' _ _)) (Rows.cons (c:=[_]) (sliceRep (SliceR.nil' _ _)) (Rows.cons (c:=[_]) (sliceRep (SliceR.nil' _ _)) (Rows.cons (c:=[_]) (sliceRep (SliceR.nil' _ _)) (Rows.cons (c:=[_]) (sliceRep (SliceR.nil' _ _)) (Rows.cons (c:=[_]) (sliceRep (SliceR.nil' _ _)) (Rows.cons (c:=[_]) (sliceRep (SliceR.nil' _ _)) rfl)))))))))⟩,SliceR.nil' _ _⟩
 ·have hr3:=cond_f hb1 hr1
  refine c_skip ?_
  refine n_then ?_
  refine c_sr ?_
  refine c_n 1 [.slice o_x0l x0l.length c_x0l,V00,V01,V02,V03,V04,V05,V06,V07,V08] [3,4,5,21] hf9 (.cell (hS5.box (i:=3) rfl (j:=0) rfl) (.cell (hS5.box (i:=3) rfl (j:=1) rfl) (.cell (hS5.box (i:=3) rfl (j:=2) rfl) (.cell (hS5.box (i:=3) rfl (j:=3) rfl) (.cell (hS5.box (i:=3) rfl (j:=4) rfl) (.cell (hS5.box (i:=3) rfl (j:=5) rfl) (.cell (hS5.box (i:=3) rfl (j:=6) rfl) (.cell (hS5.box (i:=3) rfl (j:=7) rfl) (.cell (hS5.box (i:=3) rfl (j:=8) rfl) (.cell (hS5.box (i:=3) rfl (j:=9) rfl) .nil)))))))))) fun a14 hf14=>?_
  obtain ⟨r1,hd2,hr4⟩:=bind_some hr3
  refine c_call hf14 (f85_ok fuel x0l x0h r1 hd2 z1 _ _ hS5 o_x0l c_x0l (SliceR.mono k1 hx_x0l) V00 V01 V02 V03 V04 V05 V06 V07 V08 (Ty.mono _ k1 hx_x0h)) ?_
  rintro v2 ww8 a15 ⟨z2,e1,q1,v3,v4,v5,v6,v7,v8,v9,v10,v11,k2,rfl,hS8,hx1⟩ hf15
  refine ⟨fun _=>trivial,?_⟩
  refine c_box [.slice none 0 0, .slice none 0 0, .slice none 0 0, .slice none 0 0, .slice none 0 0, .slice none 0 0, .slice none 0 0, .slice none 0 0, .slice none 0 0, .slice none 0 0] 26 hS8 hf15 fun b5 ww9 a16 hS9 hf16=>⟨fun _=>trivial,?_⟩
  have hq1:=hS9.ownOnes (j:=1) rfl
  refine p_store_eq (i:=3) (j:=0) (b:=b5) (off:=0) (vs:=[.slice e1 r1.1.length q1,v3,v4,v5,v6,v7,v8,v9,v10,v11]) (cs':=[.slice e1 r1.1.length q1,v3,v4,v5,v6,v7,v8,v9,v10,v11]) hS9 hf16 rfl (by kernel_rfl) hq1 rfl fun ww10 a17 hS10 hf17=>⟨fun _=>trivial,?_⟩
  refine c_dt ?_
  refine c_sr ?_
  refine c_n 5 [vI x1o,vI x1m] [3,4,5,8,27] hf17 (.cell (hS10.box (i:=4) rfl (j:=1) rfl) (.cell (hS10.box (i:=4) rfl (j:=4) rfl) .nil)) fun a18 hf18=>?_
  refine p_box (i:=5) (d:=(some 28)) (cs:=[vI x1o,vI x1m]) (T:=56) (v:=fun b6=> .slice (some ⟨b6,0,none⟩) 1 1) hS10 hf18 (fun b=>by kernel_rfl) fun b6 ww11 a19 hS11 hf19=>⟨fun _=>trivial,?_⟩
  have hS12:=hS11.ownBox (T:=PartT) (E:=56) (n:=1) (xs:=[⟨x1o,x1m⟩]) (i:=0) rfl (Rows.cons (c:=[vI x1o,vI x1m]) rfl rfl) rfl (by decide)
  refine c_n 1 [] [3,4,5,8,29] hf19 .nil fun a20 hf20=>?_
  refine c_box [.slice none 0 0] 40 hS12 hf20 fun b7 ww12 a21 hS13 hf21=>⟨fun _=>trivial,?_⟩
  refine c_st 0 [.slice (some ⟨b6,0,none⟩) 1 1] hS13 hf21 rfl fun ww13 a22 hS14 hf22=>⟨fun _=>trivial,?_⟩
  refine c_dt ?_
  refine c_sr ?_
  refine c_box [.slice none 0 0] 40 hS14 hf22 fun b8 ww14 a23 hS15 hf23=>⟨fun _=>trivial,?_⟩
  refine c_dt ?_
  obtain ⟨z3,k3,hS16,hx2⟩:=hS15.share (j:=2) rfl
  refine c_mid (fun a w=>∃z4:Zone,∃y4:List (List (List Part)),∃y5:List Part,∃v12:Value,∃v13:Value,∃v14:Value,∃v15:Value,∃v16:Value,∃v17:Value,∃v18:Value,∃v19:Value,∃v20:Value,∃e2:Option Addr,∃q2:Nat,Zone.le z3 z4∧Fr a 162 [(4,pB b3 0),(5,pB b4 0),(8,pB b5 0),(10,pB b8 0)]∧St z4 (box b8 [.slice e2 y5.length q2] 40::box b7 [.slice (some ⟨b6,0,none⟩) 1 1] 40::emp::box b5 [.slice e1 r1.1.length q1,v12,v13,v14,v15,v16,v17,v18,v19,v20] 26::ownA (Ty.slice PartT) 40 [v12,v13,v14,v15,v16,v17,v18,v19,v20] y4::box b4 [.slice none 0 0] 40::box b3 [.slice none 0 0, .slice none 0 0, .slice none 0 0, .slice none 0 0, .slice none 0 0, .slice none 0 0, .slice none 0 0, .slice none 0 0, .slice none 0 0, .slice none 0 0] 26::box b2 [vI x1k,vI x1o,vI x1f,vI x1t,vI x1m] 28::box b1 [.slice o_x0l x0l.length c_x0l,V00,V01,V02,V03,V04,V05,V06,V07,V08] 26::L) w∧SliceR PartT z4 e2 q2 y5∧(F28_j1 fuel r1 y4 y5)=some r) ?_ ?_
  ·skip
   refine c_sq [vI x1k] [3,4,5,8,9,10,31] hf23 (.cell (hS16.box (i:=7) rfl (j:=0) rfl) .nil) fun a24 hf24=>?_
   refine c_block 0 ?_
   refine c_sq [] [3,4,5,8,9,10,31,32] hf24 .nil fun a25 hf25=>?_
   refine c_if (x1k == (1:Int)) hf25 (fun hb2=>?_) (fun hb2=>?_)
   ·have hr5:=cond_t hb2 hr4
    refine c_seq ?_
    obtain ⟨p1,hp1777,hr6⟩:=bind_some hr5
    obtain ⟨e3,q3,hv1,hb3,hS17⟩:=hS16.ownOpen (j:=4) rfl hp1777
    have hS18:=hS17.drew
    have s1:=Sub.of zr (hS18.mask (i:=0) rfl)
    refine c_regD [(0,true),(1,true),(2,true),(3,true),(4,true),(5,true),(6,true),(7,true),(9,true),(8,false),(10,true),(11,false)] [11] _ s1 ?_
    refine c_S 9 [vI x1t,vI x1t, .slice e3 p1.length q3, .slice (some ⟨b6,0,none⟩) 1 1] [4,5,8,9,10,35,40,41,43] s1 hf25 (fun _ s=>(.cell (s.box (i:=8) rfl (j:=3) rfl) (.cell (s.box (i:=8) rfl (j:=3) rfl) (.prop hb3 (.cell ((arrAddr b5 1 (Int.toNat x1t)) ▸ (s.box (i:=4) rfl (getElem?_app_right [.slice e1 r1.1.length q1] _ _ hv1 []))) (.cell (s.box (i:=2) rfl (j:=0) rfl) .nil)))))) .nil fun a26 hf26=>?_
    obtain ⟨z5,k4,hS19,hx3⟩:=hS18.share (j:=0) rfl
    obtain ⟨r4,hd3,hr7⟩:=bind_some hr6
    refine c_call hf26 (f86_ok fuel p1 ([⟨x1o,x1m⟩]) r4 hd3 z5 _ _ hS19 e3 q3 hx3 (some ⟨b6,0,none⟩) 1 (SliceR.mono k4 hx2)) ?_
    rintro v21 ww15 a27 ⟨z6,e4,q4,k5,rfl,hS20⟩ hf27
    refine ⟨fun _=>Sub.of (zt k4 k5) ((St.drop 1 hS20).mask (i:=0) rfl),?_⟩
    have s2:=Sub.of (zt k4 k5) ((St.drop 1 hS20).mask (i:=0) rfl)
    refine c_S 1 [] [4,5,8,9,10,42,44] s2 hf27 (fun _ s=>(.prop hb3 .nil)) .nil fun a28 hf28=>?_
    refine p_storeA (i:=11) (j:=5) (b:=b5) (ix:=x1t) (pre:=[.slice e1 r1.1.length q1]) (vs:=[v3,v4,v5,v6,v7,v8,v9,v10,v11]) (post:=[]) (v:= .slice e4 r4.length q4) hS20 hf28 rfl (by have z7:=hb3.1; have z8:=hb3.2; simp at z8 ⊢; omega) (by kernel_rfl) rfl fun ww16 a29 hS21 hf29=>⟨fun e=>absurd e (by decide),?_⟩
    obtain ⟨v22,v23,v24,v25,v26,v27,v28,v29,v30,hu1818⟩:=nine (vs:=[v3,v4,v5,v6,v7,v8,v9,v10,v11].set (Int.toNat x1t) (.slice e4 r4.length q4)) (by simp)
    rw [hu1818] at hS21
    have hv2:[v22,v23,v24,v25,v26,v27,v28,v29,v30][Int.toNat x1t]? =some (.slice e4 r4.length q4):=by rw [← hu1818]; exact List.getElem?_set_self (by have z7:=hb3.1; have z8:=hb3.2; simp at z8 ⊢; omega)
    have hS22:=hS21
    refine c_done ?_
    have hS23:=hS22.ownClose (j:=6) (k:=0) rfl rfl (by decide) (List.getElem?_eq_some_iff.1 (getI_spec hp1777).2).1
    rw [hu1818] at hS23
    refine n_then ?_
    refine c_reg ?_
    refine c_n 1 [.slice (some ⟨b6,0,none⟩) 1 1] [4,5,8,10,45] hf29 (.cell (hS23.box (i:=3) rfl (j:=0) rfl) .nil) fun a30 hf30=>?_
    refine c_st 2 [.slice (some ⟨b6,0,none⟩) 1 1] hS23 hf30 rfl fun ww17 a31 hS24 hf31=>⟨fun _=>trivial,?_⟩
    refine c_done ?_
    refine n_block ?_
    refine n_then ?_
    exact ⟨z6,(r1.2.set (Int.toNat x1t) r4),[⟨x1o,x1m⟩],v22,v23,v24,v25,v26,v27,v28,v29,v30,(some ⟨b6,0,none⟩),1,(zt k4 k5),hf31.to,(St.drop 2 hS24),(SliceR.mono (zt k4 k5) hx2),hr7⟩
   ·have hr8:=cond_f hb2 hr4
    refine c_sq [] [3,4,5,8,9,10,31,46] hf25 .nil fun a32 hf33=>?_
    refine c_if (x1k == (2:Int)) hf33 (fun hb4=>?_) (fun hb4=>?_)
    ·have hr9:=cond_t hb4 hr8
     refine c_seq ?_
     obtain ⟨p2,hp1844,hr10⟩:=bind_some hr9
     obtain ⟨e5,q5,hv3,hb5,hS25⟩:=hS16.ownOpen (j:=4) rfl hp1844
     have hS26:=hS25.drew
     have s3:=Sub.of zr (hS26.mask (i:=0) rfl)
     refine c_regD [(0,true),(1,true),(2,true),(3,true),(4,true),(5,true),(6,true),(7,true),(10,true),(8,false),(9,false),(11,true),(12,false)] [12] _ s3 ?_
     refine c_S 9 [vI x1t,vI x1t, .slice e5 p2.length q5, .slice (some ⟨b6,0,none⟩) 1 1] [4,5,8,9,10,49,54,55,58] s3 hf33 (fun _ s=>(.cell (s.box (i:=8) rfl (j:=3) rfl) (.cell (s.box (i:=8) rfl (j:=3) rfl) (.prop hb5 (.cell ((arrAddr b5 1 (Int.toNat x1t)) ▸ (s.box (i:=4) rfl (getElem?_app_right [.slice e1 r1.1.length q1] _ _ hv3 []))) (.cell (s.box (i:=2) rfl (j:=0) rfl) .nil)))))) .nil fun a33 hf34=>?_
     refine p_box (i:=8) (d:=(some 56)) (cs:=[.slice (some ⟨b6,0,none⟩) 1 1]) (T:=40) (v:=fun b9=> .slice (some ⟨b9,0,none⟩) 1 1) hS26 hf34 (fun b=>by kernel_rfl) fun b9 ww18 a34 hS27 hf35=>⟨fun _=>Sub.of zr ((St.drop 1 hS27).mask (i:=0) rfl),?_⟩
     have hS28:=hS27.ownBox (T:=(Ty.slice PartT)) (E:=40) (n:=1) (xs:=[[⟨x1o,x1m⟩]]) (i:=0) rfl (Rows.cons (c:=[.slice (some ⟨b6,0,none⟩) 1 1]) (sliceRep (hx2)) rfl) rfl (by decide)
     have s4:=Sub.of zr ((St.drop 1 hS28).mask (i:=0) rfl)
     obtain ⟨d2,hd4,hr11⟩:=bind_some hr10
     refine p_append (T:=(Ty.slice PartT)) (i:=9) (j:=1) (d:=some 57) (o2:=(some ⟨b9,0,none⟩)) (c2:=1) (ys:=([[⟨x1o,x1m⟩]])) el23 hS28 hf35 rfl (by kernel_rfl) (hS28.ownSrc (j:=0) rfl) hd4 fun e6 q6 ww19 a35 hS29 hf36=>⟨fun _=>Sub.of zr ((St.drop 1 hS29).mask (i:=0) rfl),?_⟩
     have s5:=Sub.of zr ((St.drop 1 hS29).mask (i:=0) rfl)
     refine c_S 1 [] [4,5,8,9,10,57,59] s5 hf36 (fun _ s=>(.prop hb5 .nil)) .nil fun a36 hf37=>?_
     refine p_storeA (i:=12) (j:=5) (b:=b5) (ix:=x1t) (pre:=[.slice e1 r1.1.length q1]) (vs:=[v3,v4,v5,v6,v7,v8,v9,v10,v11]) (post:=[]) (v:= .slice e6 d2.length q6) hS29 hf37 rfl (by have z7:=hb5.1; have z8:=hb5.2; simp at z8 ⊢; omega) (by kernel_rfl) rfl fun ww20 a37 hS30 hf38=>⟨fun e=>absurd e (by decide),?_⟩
     obtain ⟨v31,v32,v33,v34,v35,v36,v37,v38,v39,hu1884⟩:=nine (vs:=[v3,v4,v5,v6,v7,v8,v9,v10,v11].set (Int.toNat x1t) (.slice e6 d2.length q6)) (by simp)
     rw [hu1884] at hS30
     have hv4:[v31,v32,v33,v34,v35,v36,v37,v38,v39][Int.toNat x1t]? =some (.slice e6 d2.length q6):=by rw [← hu1884]; exact List.getElem?_set_self (by have z7:=hb5.1; have z8:=hb5.2; simp at z8 ⊢; omega)
     have hS31:=hS30
     refine c_done ?_
     have hS32:=hS31.ownClose (j:=6) (k:=1) rfl rfl (by decide) (List.getElem?_eq_some_iff.1 (getI_spec hp1844).2).1
     rw [hu1884] at hS32
     refine n_then ?_
     refine c_reg ?_
     refine c_n 1 [.slice (some ⟨b6,0,none⟩) 1 1] [4,5,8,10,60] hf38 (.cell (hS32.box (i:=3) rfl (j:=0) rfl) .nil) fun a38 hf39=>?_
     refine c_st 2 [.slice (some ⟨b6,0,none⟩) 1 1] hS32 hf39 rfl fun ww21 a39 hS33 hf40=>⟨fun _=>trivial,?_⟩
     refine c_done ?_
     refine n_block ?_
     refine n_then ?_
     exact ⟨z3,(r1.2.set (Int.toNat x1t) d2),[⟨x1o,x1m⟩],v31,v32,v33,v34,v35,v36,v37,v38,v39,(some ⟨b6,0,none⟩),1,zr,hf40.to,(St.drop 2 hS33),hx2,hr11⟩
    ·have hr12:=cond_f hb4 hr8
     refine c_sq [] [3,4,5,8,10,31,61] hf33 .nil fun a40 hf42=>?_
     refine c_if (x1k == (3:Int)) hf42 (fun hb6=>?_) (fun hb6=>?_)
     ·have hr13:=cond_t hb6 hr12
      obtain ⟨p3,hp1910,hr14⟩:=bind_some hr13
      obtain ⟨e7,q7,hv5,hb7,hS34⟩:=hS16.ownOpen (j:=4) rfl hp1910
      have hS35:=hS34.drew
      have s6:=Sub.of zr (hS35.mask (i:=0) rfl)
      refine c_regD [(0,true),(1,true),(2,true),(3,true),(4,true),(5,true),(6,true),(7,true),(8,true),(13,true),(9,false),(10,true),(11,true),(12,true),(14,true),(15,false),(16,false)] [15,16] _ s6 ?_
      refine c_S 10 [vI x1f,vI x1f, .slice e7 p3.length q7,vI x1m] [4,5,8,10,65,70,72,76] s6 hf42 (fun _ s=>(.cell (s.box (i:=8) rfl (j:=2) rfl) (.cell (s.box (i:=8) rfl (j:=2) rfl) (.prop hb7 (.cell ((arrAddr b5 1 (Int.toNat x1f)) ▸ (s.box (i:=4) rfl (getElem?_app_right [.slice e1 r1.1.length q1] _ _ hv5 []))) (.cell (s.box (i:=8) rfl (j:=4) rfl) .nil)))))) .nil fun a41 hf43=>?_
      obtain ⟨z9,k6,hS36,hx4⟩:=hS35.share (j:=0) rfl
      obtain ⟨r5,hd5,hr15⟩:=bind_some hr14
      refine c_call hf43 (f87_ok fuel p3 x1m r5 hd5 z9 _ _ hS36 e7 q7 hx4) ?_
      rintro v40 ww22 a42 ⟨z10,e8,q8,e9,q9,k7,rfl,hS37,hx5⟩ hf44
      refine ⟨fun _=>Sub.of (zt k6 k7) ((St.drop 1 hS37).mask (i:=0) rfl),?_⟩
      have s7:=Sub.of (zt k6 k7) ((St.drop 1 hS37).mask (i:=0) rfl)
      refine c_S 4 [] [4,5,8,10,74,75,77] s7 hf44 (fun _ s=>(.prop hb7 .nil)) .nil fun a43 hf45=>?_
      refine p_storeA (i:=15) (j:=5) (b:=b5) (ix:=x1f) (pre:=[.slice e1 r1.1.length q1]) (vs:=[v3,v4,v5,v6,v7,v8,v9,v10,v11]) (post:=[]) (v:= .slice e8 r5.1.length q8) hS37 hf45 rfl (by have z7:=hb7.1; have z8:=hb7.2; simp at z8 ⊢; omega) (by kernel_rfl) rfl fun ww23 a44 hS38 hf46=>⟨fun e=>absurd e (by decide),?_⟩
      obtain ⟨v41,v42,v43,v44,v45,v46,v47,v48,v49,hu1954⟩:=nine (vs:=[v3,v4,v5,v6,v7,v8,v9,v10,v11].set (Int.toNat x1f) (.slice e8 r5.1.length q8)) (by simp)
      rw [hu1954] at hS38
      have hv6:[v41,v42,v43,v44,v45,v46,v47,v48,v49][Int.toNat x1f]? =some (.slice e8 r5.1.length q8):=by rw [← hu1954]; exact List.getElem?_set_self (by have z7:=hb7.1; have z8:=hb7.2; simp at z8 ⊢; omega)
      have hS39:=hS38
      refine c_st 2 [.slice e9 r5.2.length q9] hS39 hf46 rfl fun ww24 a45 hS40 hf47=>⟨fun e=>absurd e (by decide),?_⟩
      refine c_done ?_
      have hS41:=hS40.ownClose (j:=6) (k:=0) rfl rfl (by decide) (List.getElem?_eq_some_iff.1 (getI_spec hp1910).2).1
      rw [hu1954] at hS41
      refine n_block ?_
      refine n_then ?_
      exact ⟨z10,(r1.2.set (Int.toNat x1f) r5.1),r5.2,v41,v42,v43,v44,v45,v46,v47,v48,v49,e9,q9,(zt k6 k7),hf47.to,(St.drop 2 hS41),hx5,hr15⟩
     ·have hr16:=cond_f hb6 hr12
      refine c_sq [] [3,4,5,8,10,31,78] hf42 .nil fun a46 hf49=>?_
      refine c_if (x1k == (4:Int)) hf49 (fun hb8=>?_) (fun hb8=>?_)
      ·have hr17:=cond_t hb8 hr16
       refine c_seq ?_
       obtain ⟨p4,hp1978,hr18⟩:=bind_some hr17
       obtain ⟨e10,q10,hv7,hb9,hS42⟩:=hS16.ownOpen (j:=4) rfl hp1978
       have hS43:=hS42.drew
       have s8:=Sub.of zr (hS43.mask (i:=0) rfl)
       refine c_regD [(0,true),(1,true),(2,true),(3,true),(4,true),(5,true),(6,true),(7,true),(8,true),(13,true),(9,false),(10,true),(11,true),(12,true),(14,true),(15,false),(16,false)] [15,16] _ s8 ?_
       refine c_S 10 [vI x1f,vI x1f, .slice e10 p4.length q10,vI x1m] [3,4,5,8,10,82,87,89,93] s8 hf49 (fun _ s=>(.cell (s.box (i:=8) rfl (j:=2) rfl) (.cell (s.box (i:=8) rfl (j:=2) rfl) (.prop hb9 (.cell ((arrAddr b5 1 (Int.toNat x1f)) ▸ (s.box (i:=4) rfl (getElem?_app_right [.slice e1 r1.1.length q1] _ _ hv7 []))) (.cell (s.box (i:=8) rfl (j:=4) rfl) .nil)))))) .nil fun a47 hf50=>?_
       obtain ⟨z11,k8,hS44,hx6⟩:=hS43.share (j:=0) rfl
       obtain ⟨r6,hd6,hr19⟩:=bind_some hr18
       refine c_call hf50 (f87_ok fuel p4 x1m r6 hd6 z11 _ _ hS44 e10 q10 hx6) ?_
       rintro v50 ww25 a48 ⟨z12,e11,q11,e12,q12,k9,rfl,hS45,hx7⟩ hf51
       refine ⟨fun _=>Sub.of (zt k8 k9) ((St.drop 1 hS45).mask (i:=0) rfl),?_⟩
       have s9:=Sub.of (zt k8 k9) ((St.drop 1 hS45).mask (i:=0) rfl)
       refine c_S 4 [] [3,4,5,8,10,91,92,94] s9 hf51 (fun _ s=>(.prop hb9 .nil)) .nil fun a49 hf52=>?_
       refine p_storeA (i:=15) (j:=5) (b:=b5) (ix:=x1f) (pre:=[.slice e1 r1.1.length q1]) (vs:=[v3,v4,v5,v6,v7,v8,v9,v10,v11]) (post:=[]) (v:= .slice e11 r6.1.length q11) hS45 hf52 rfl (by have z7:=hb9.1; have z8:=hb9.2; simp at z8 ⊢; omega) (by kernel_rfl) rfl fun ww26 a50 hS46 hf53=>⟨fun e=>absurd e (by decide),?_⟩
       obtain ⟨v51,v52,v53,v54,v55,v56,v57,v58,v59,hu2022⟩:=nine (vs:=[v3,v4,v5,v6,v7,v8,v9,v10,v11].set (Int.toNat x1f) (.slice e11 r6.1.length q11)) (by simp)
       rw [hu2022] at hS46
       have hv8:[v51,v52,v53,v54,v55,v56,v57,v58,v59][Int.toNat x1f]? =some (.slice e11 r6.1.length q11):=by rw [← hu2022]; exact List.getElem?_set_self (by have z7:=hb9.1; have z8:=hb9.2; simp at z8 ⊢; omega)
       have hS47:=hS46
       refine c_st 2 [.slice e12 r6.2.length q12] hS47 hf53 rfl fun ww27 a51 hS48 hf54=>⟨fun e=>absurd e (by decide),?_⟩
       refine c_done ?_
       have hS49:=hS48.ownClose (j:=6) (k:=0) rfl rfl (by decide) (List.getElem?_eq_some_iff.1 (getI_spec hp1978).2).1
       rw [hu2022] at hS49
       refine n_then ?_
       obtain ⟨p5,hp2040,hr20⟩:=bind_some hr19
       obtain ⟨e13,q13,hv9,hb10,hS50⟩:=hS49.ownOpen (j:=6) rfl hp2040
       have hS51:=hS50.drew
       have s10:=Sub.of zr (hS51.mask (i:=0) rfl)
       refine c_regD [(0,true),(1,true),(2,true),(3,true),(4,true),(5,true),(6,true),(7,true),(9,true),(8,false),(10,true),(11,false)] [11] _ s10 ?_
       refine c_S 9 [vI x1t,vI x1t, .slice e13 p5.length q13, .slice e12 r6.2.length q12] [4,5,8,10,96,101,102,104] s10 hf54 (fun _ s=>(.cell (s.box (i:=10) rfl (j:=3) rfl) (.cell (s.box (i:=10) rfl (j:=3) rfl) (.prop hb10 (.cell ((arrAddr b5 1 (Int.toNat x1t)) ▸ (s.box (i:=6) rfl (getElem?_app_right [.slice e1 r1.1.length q1] _ _ hv9 []))) (.cell (s.box (i:=3) rfl (j:=0) rfl) .nil)))))) .nil fun a52 hf55=>?_
       obtain ⟨z13,k10,hS52,hx8⟩:=hS51.share (j:=0) rfl
       obtain ⟨r7,hd7,hr21⟩:=bind_some hr20
       refine c_call hf55 (f86_ok fuel p5 r6.2 r7 hd7 z13 _ _ hS52 e13 q13 hx8 e12 q12 (SliceR.mono k10 hx7)) ?_
       rintro v60 ww28 a53 ⟨z14,e14,q14,k11,rfl,hS53⟩ hf56
       refine ⟨fun _=>Sub.of (zt k10 k11) ((St.drop 1 hS53).mask (i:=0) rfl),?_⟩
       have s11:=Sub.of (zt k10 k11) ((St.drop 1 hS53).mask (i:=0) rfl)
       refine c_S 1 [] [4,5,8,10,103,105] s11 hf56 (fun _ s=>(.prop hb10 .nil)) .nil fun a54 hf57=>?_
       refine p_storeA (i:=11) (j:=7) (b:=b5) (ix:=x1t) (pre:=[.slice e1 r1.1.length q1]) (vs:=[v51,v52,v53,v54,v55,v56,v57,v58,v59]) (post:=[]) (v:= .slice e14 r7.length q14) hS53 hf57 rfl (by have z7:=hb10.1; have z8:=hb10.2; simp at z8 ⊢; omega) (by kernel_rfl) rfl fun ww29 a55 hS54 hf58=>⟨fun e=>absurd e (by decide),?_⟩
       obtain ⟨v61,v62,v63,v64,v65,v66,v67,v68,v69,hu2081⟩:=nine (vs:=[v51,v52,v53,v54,v55,v56,v57,v58,v59].set (Int.toNat x1t) (.slice e14 r7.length q14)) (by simp)
       rw [hu2081] at hS54
       have hv10:[v61,v62,v63,v64,v65,v66,v67,v68,v69][Int.toNat x1t]? =some (.slice e14 r7.length q14):=by rw [← hu2081]; exact List.getElem?_set_self (by have z7:=hb10.1; have z8:=hb10.2; simp at z8 ⊢; omega)
       have hS55:=hS54
       refine c_done ?_
       have hS56:=hS55.ownClose (j:=8) (k:=0) rfl rfl (by decide) (List.getElem?_eq_some_iff.1 (getI_spec hp2040).2).1
       rw [hu2081] at hS56
       refine n_block ?_
       refine n_then ?_
       exact ⟨z14,((r1.2.set (Int.toNat x1f) r6.1).set (Int.toNat x1t) r7),r6.2,v61,v62,v63,v64,v65,v66,v67,v68,v69,e12,q12,(zt (zt (zt k8 k9) k10) k11),hf58.to,(St.drop 4 hS56),(SliceR.mono (zt k10 k11) hx7),hr21⟩
      ·have hr22:=cond_f hb8 hr16
       refine c_sq [] [3,4,5,8,10,31,106] hf49 .nil fun a56 hf60=>?_
       refine c_if (x1k == (5:Int)) hf60 (fun hb11=>?_) (fun hb11=>?_)
       ·have hr23:=cond_t hb11 hr22
        obtain ⟨p6,hp2101,hr24⟩:=bind_some hr23
        obtain ⟨e15,q15,hv11,hb12,hS57⟩:=hS16.ownOpen (j:=4) rfl hp2101
        have hS58:=hS57.drew
        have s12:=Sub.of zr (hS58.mask (i:=0) rfl)
        refine c_regD [(0,true),(1,true),(2,true),(3,true),(4,true),(5,true),(6,true),(7,true),(8,true),(13,true),(9,false),(10,true),(11,true),(12,true),(14,true),(15,false),(16,false)] [15,16] _ s12 ?_
        refine c_S 10 [vI x1f,vI x1f, .slice e15 p6.length q15,vI x1m] [4,5,8,10,110,115,117,121] s12 hf60 (fun _ s=>(.cell (s.box (i:=8) rfl (j:=2) rfl) (.cell (s.box (i:=8) rfl (j:=2) rfl) (.prop hb12 (.cell ((arrAddr b5 1 (Int.toNat x1f)) ▸ (s.box (i:=4) rfl (getElem?_app_right [.slice e1 r1.1.length q1] _ _ hv11 []))) (.cell (s.box (i:=8) rfl (j:=4) rfl) .nil)))))) .nil fun a57 hf61=>?_
        obtain ⟨z15,k12,hS59,hx9⟩:=hS58.share (j:=0) rfl
        obtain ⟨r8,hd8,hr25⟩:=bind_some hr24
        refine c_call hf61 (f88_ok fuel p6 x1m r8 hd8 z15 _ _ hS59 e15 q15 hx9) ?_
        rintro v70 ww30 a58 ⟨z16,e16,q16,e17,q17,k13,rfl,hS60,hx10⟩ hf62
        refine ⟨fun _=>Sub.of (zt k12 k13) ((St.drop 1 hS60).mask (i:=0) rfl),?_⟩
        have s13:=Sub.of (zt k12 k13) ((St.drop 1 hS60).mask (i:=0) rfl)
        refine c_S 4 [] [4,5,8,10,119,120,122] s13 hf62 (fun _ s=>(.prop hb12 .nil)) .nil fun a59 hf63=>?_
        refine p_storeA (i:=15) (j:=5) (b:=b5) (ix:=x1f) (pre:=[.slice e1 r1.1.length q1]) (vs:=[v3,v4,v5,v6,v7,v8,v9,v10,v11]) (post:=[]) (v:= .slice e16 r8.1.length q16) hS60 hf63 rfl (by have z7:=hb12.1; have z8:=hb12.2; simp at z8 ⊢; omega) (by kernel_rfl) rfl fun ww31 a60 hS61 hf64=>⟨fun e=>absurd e (by decide),?_⟩
        obtain ⟨v71,v72,v73,v74,v75,v76,v77,v78,v79,hu2145⟩:=nine (vs:=[v3,v4,v5,v6,v7,v8,v9,v10,v11].set (Int.toNat x1f) (.slice e16 r8.1.length q16)) (by simp)
        rw [hu2145] at hS61
        have hv12:[v71,v72,v73,v74,v75,v76,v77,v78,v79][Int.toNat x1f]? =some (.slice e16 r8.1.length q16):=by rw [← hu2145]; exact List.getElem?_set_self (by have z7:=hb12.1; have z8:=hb12.2; simp at z8 ⊢; omega)
        have hS62:=hS61
        refine c_st 2 [.slice e17 r8.2.length q17] hS62 hf64 rfl fun ww32 a61 hS63 hf65=>⟨fun e=>absurd e (by decide),?_⟩
        refine c_done ?_
        have hS64:=hS63.ownClose (j:=6) (k:=0) rfl rfl (by decide) (List.getElem?_eq_some_iff.1 (getI_spec hp2101).2).1
        rw [hu2145] at hS64
        refine n_block ?_
        refine n_then ?_
        exact ⟨z16,(r1.2.set (Int.toNat x1f) r8.1),r8.2,v71,v72,v73,v74,v75,v76,v77,v78,v79,e17,q17,(zt k12 k13),hf65.to,(St.drop 2 hS64),hx10,hr25⟩
       ·have hr26:=cond_f hb11 hr22
        refine c_sq [] [3,4,5,8,10,123] hf60 .nil fun a62 hf67=>?_
        refine c_if (x1k == (6:Int)) hf67 (fun hb13=>?_) (fun hb13=>?_)
        ·have hr27:=cond_t hb13 hr26
         obtain ⟨p7,hp2169,hr28⟩:=bind_some hr27
         obtain ⟨e18,q18,hv13,hb14,hS65⟩:=hS16.ownOpen (j:=4) rfl hp2169
         refine c_sq [vI x1f, .slice e18 p7.length q18] [3,4,5,8,10,11] hf67 (.cell (hS65.box (i:=8) rfl (j:=2) rfl) (.prop hb14 (.cell ((arrAddr b5 1 (Int.toNat x1f)) ▸ (hS65.box (i:=4) rfl (getElem?_app_right [.slice e1 r1.1.length q1] _ _ hv13 []))) .nil))) fun a63 hf68=>?_
         refine c_sq [] [3,4,5,8,10,11,12] hf68 .nil fun a64 hf69=>?_
         obtain ⟨z17,k14,hS66,hx11⟩:=hS65.share (j:=0) rfl
         have hS67:=hS66.drew
         have s14:=Sub.of zr hS67
         refine c_regD [(0,true),(1,true),(3,true),(4,true),(5,true),(6,true),(8,true),(9,true),(10,true),(11,true),(12,true),(13,true),(14,true),(15,true),(16,true),(17,true),(21,true),(2,false),(7,false),(18,false),(19,false),(20,false),(22,true),(23,false)] [23] _ s14 ?_
         obtain ⟨d3,hd9,hr29⟩:=bind_some hr28
         obtain ⟨e19,q19,hv14,hb15,hx12⟩:=SliceR.subV hx11 hd9
         obtain ⟨p8,hp2196,hr30⟩:=bind_some hr29
         obtain ⟨ad1,ho1,hb16,cc1,hc1,hk1⟩:=SliceR.getI hx11 hp2196
         obtain ⟨e20,q20,rfl,hx13⟩:=hc1
         obtain ⟨p9,hp2208,hr31⟩:=bind_some hr30
         obtain ⟨ad2,ho2,hb17,cc2,hc2,hk2⟩:=SliceR.getI hx11 hp2208
         obtain ⟨e21,q21,rfl,hx14⟩:=hc2
         refine c_S 17 [vI x1f, .slice e19 d3.length q19, .pointer (some ad1), .slice e20 p8.length q20, .pointer (some ad2), .slice e21 p9.length q21] [4,5,8,10,133,138,144,149,153] s14 hf69 (fun _ s=>(.cell (s.box (i:=8) rfl (j:=2) rfl) (.prop hv14 (.prop hb15 (.prop ho1 (.prop hb16 (.cell (s.cell (hk1 0 _ rfl)) (.prop ho2 (.prop hb17 (.cell (s.cell (hk2 0 _ rfl)) .nil)))))))))) .nil fun a65 hf70=>?_
         refine p_box (i:=2) (d:=(some 134)) (cs:=[]) (T:=40) (v:=fun b10=> .slice (some ⟨b10,0,none⟩) 0 0) hS67 hf70 (fun b=>by kernel_rfl) fun b10 ww33 a66 hS68 hf71=>⟨fun _=>Sub.of zr (St.drop 1 hS68),?_⟩
         have hS69:=hS68.ownBox (T:=(Ty.slice PartT)) (E:=40) (n:=0) (xs:=[]) (i:=0) rfl rfl rfl (by decide)
         have s15:=Sub.of zr (St.drop 1 hS69)
         obtain ⟨d4,hd10,hr32⟩:=bind_some hr31
         refine p_append (T:=(Ty.slice PartT)) (i:=7) (j:=0) (d:=some 139) (o2:=e19) (c2:=q19) (ys:=d3) el23 hS69 hf71 rfl (by kernel_rfl) (SliceR.src hx12 hS69) hd10 fun e22 q22 ww34 a67 hS70 hf72=>⟨fun _=>Sub.of zr (St.drop 1 hS70),?_⟩
         have s16:=Sub.of zr (St.drop 1 hS70)
         obtain ⟨r9,hd11,hr33⟩:=bind_some hr32
         refine c_call hf72 (f89_ok fuel p8 p9 r9 hd11 z17 _ _ hS70 e20 q20 hx13 e21 q21 hx14) ?_
         rintro v80 ww35 a68 ⟨z18,e23,q23,k15,rfl,hS71,hx15⟩ hf73
         refine ⟨fun _=>Sub.of k15 (St.drop 1 hS71),?_⟩
         have s17:=Sub.of k15 (St.drop 1 hS71)
         refine p_box (i:=19) (d:=(some 151)) (cs:=[.slice e23 r9.length q23]) (T:=40) (v:=fun b11=> .slice (some ⟨b11,0,none⟩) 1 1) hS71 hf73 (fun b=>by kernel_rfl) fun b11 ww36 a69 hS72 hf74=>⟨fun _=>Sub.of k15 (St.drop 2 hS72),?_⟩
         have hS73:=hS72.ownBox (T:=(Ty.slice PartT)) (E:=40) (n:=1) (xs:=[r9]) (i:=0) rfl (Rows.cons (c:=[.slice e23 r9.length q23]) (sliceRep (hx15)) rfl) rfl (by decide)
         have s18:=Sub.of k15 (St.drop 2 hS73)
         obtain ⟨d5,hd12,hr34⟩:=bind_some hr33
         refine p_append (T:=(Ty.slice PartT)) (i:=20) (j:=1) (d:=some 152) (o2:=(some ⟨b11,0,none⟩)) (c2:=1) (ys:=([r9])) el23 hS73 hf74 rfl (by kernel_rfl) (hS73.ownSrc (j:=0) rfl) hd12 fun e24 q24 ww37 a70 hS74 hf75=>⟨fun _=>Sub.of k15 (St.drop 2 hS74),?_⟩
         have s19:=Sub.of k15 (St.drop 2 hS74)
         refine c_S 1 [] [4,5,8,10,152,154] s19 hf75 (fun _ s=>(.prop hb14 .nil)) .nil fun a71 hf76=>?_
         refine p_storeA (i:=23) (j:=6) (b:=b5) (ix:=x1f) (pre:=[.slice e1 r1.1.length q1]) (vs:=[v3,v4,v5,v6,v7,v8,v9,v10,v11]) (post:=[]) (v:= .slice e24 d5.length q24) hS74 hf76 rfl (by have z7:=hb14.1; have z8:=hb14.2; simp at z8 ⊢; omega) (by kernel_rfl) rfl fun ww38 a72 hS75 hf77=>⟨fun e=>absurd e (by decide),?_⟩
         obtain ⟨v81,v82,v83,v84,v85,v86,v87,v88,v89,hu2290⟩:=nine (vs:=[v3,v4,v5,v6,v7,v8,v9,v10,v11].set (Int.toNat x1f) (.slice e24 d5.length q24)) (by simp)
         rw [hu2290] at hS75
         have hv15:[v81,v82,v83,v84,v85,v86,v87,v88,v89][Int.toNat x1f]? =some (.slice e24 d5.length q24):=by rw [← hu2290]; exact List.getElem?_set_self (by have z7:=hb14.1; have z8:=hb14.2; simp at z8 ⊢; omega)
         have hS76:=hS75
         refine c_done ?_
         have hS77:=hS76.ownClose (j:=7) (k:=1) rfl rfl (by decide) (List.getElem?_eq_some_iff.1 (getI_spec hp2169).2).1
         rw [hu2290] at hS77
         refine n_block ?_
         refine n_then ?_
         exact ⟨z18,(r1.2.set (Int.toNat x1f) d5),[],v81,v82,v83,v84,v85,v86,v87,v88,v89,none,0,(zt k14 k15),hf77.to,(St.drop 3 hS77),SliceR.nil' _ _,hr34⟩
        ·have hr35:=cond_f hb13 hr26
         refine c_skip ?_
         refine n_block ?_
         refine n_then ?_
         exact ⟨z3,r1.2,[],v3,v4,v5,v6,v7,v8,v9,v10,v11,none,0,zr,hf67.to,hS16,SliceR.nil' _ _,hr35⟩
  ·rintro a73 ww39 ⟨z4,y4,y5,v12,v13,v14,v15,v16,v17,v18,v19,v20,e2,q2,k16,hf80,hS78,hx16,hr36⟩
   have hS79:=hS78.ownNew (Ty.slice PartT) 40 9
   have hS79:=hS79
   refine c_mid (fun a w=>∃z19:Zone,∃y1:List Part,∃y2:List Lot,∃y3:List (List (List Part)),∃e25:Option Addr,∃q25:Nat,∃e26:Option Addr,∃q26:Nat,∃v90:Value,∃v91:Value,∃v92:Value,∃v93:Value,∃v94:Value,∃v95:Value,∃v96:Value,∃v97:Value,∃v98:Value,Zone.le z4 z19∧Fr a 162 [(4,pB b3 0),(5,pB b4 0),(6,vI 0)]∧St z19 (ownS PartT 56 e25 q25 y1::ownA (Ty.slice PartT) 40 [v90,v91,v92,v93,v94,v95,v96,v97,v98] y3::ownA (Ty.slice PartT) 40 [(.slice none 0 0),(.slice none 0 0),(.slice none 0 0),(.slice none 0 0),(.slice none 0 0),(.slice none 0 0),(.slice none 0 0),(.slice none 0 0),(.slice none 0 0)] ([[],[],[],[],[],[],[],[],[]])::box b8 [.slice e2 y5.length q2] 40::box b7 [.slice (some ⟨b6,0,none⟩) 1 1] 40::emp::box b5 [.slice e1 r1.1.length q1,v12,v13,v14,v15,v16,v17,v18,v19,v20] 26::emp::box b4 [.slice e25 y1.length q25] 40::box b3 [.slice e26 y2.length q26,v90,v91,v92,v93,v94,v95,v96,v97,v98] 26::box b2 [vI x1k,vI x1o,vI x1f,vI x1t,vI x1m] 28::box b1 [.slice o_x0l x0l.length c_x0l,V00,V01,V02,V03,V04,V05,V06,V07,V08] 26::L) w∧SliceR LotT z19 e26 q26 y2∧(F28_j2 y1 y2 y3)=some r) ?_ ?_
   ·skip
    have hS80:=hS79.drew
    have s20:=Sub.of zr (hS80.mask (i:=5) rfl)
    refine w_regB (by kernel_rfl) [5,7,8] (Sub z4 (ownA (Ty.slice PartT) 40 [(.slice none 0 0),(.slice none 0 0),(.slice none 0 0),(.slice none 0 0),(.slice none 0 0),(.slice none 0 0),(.slice none 0 0),(.slice none 0 0),(.slice none 0 0)] ([[],[],[],[],[],[],[],[],[]])::box b8 [.slice e2 y5.length q2] 40::box b7 [.slice (some ⟨b6,0,none⟩) 1 1] 40::emp::box b5 [.slice e1 r1.1.length q1,v12,v13,v14,v15,v16,v17,v18,v19,v20] 26::anyA::box b4 [.slice none 0 0] 40::box b3 [.slice none 0 0,(.slice none 0 0),(.slice none 0 0),(.slice none 0 0),(.slice none 0 0),(.slice none 0 0),(.slice none 0 0),(.slice none 0 0),(.slice none 0 0),(.slice none 0 0)] 26::box b2 [vI x1k,vI x1o,vI x1f,vI x1t,vI x1m] 28::box b1 [.slice o_x0l x0l.length c_x0l,V00,V01,V02,V03,V04,V05,V06,V07,V08] 26::L)) (by kernel_rfl) ?_
    refine k_seg' 7 [(0,true),(3,true),(4,true)] (by kernel_rfl) (by kernel_rfl) (At.start s20) (by kernel_rfl) ?_
    refine c_S 3 [.slice e1 r1.1.length q1,v12,v13,v14,v15,v16,v17,v18,v19,v20, .slice e2 y5.length q2] [4,5,155,159] s20 hf80 (fun _ s=>(.cell (s.box (i:=4) rfl (j:=0) rfl) (.cell (s.box (i:=4) rfl (j:=1) rfl) (.cell (s.box (i:=4) rfl (j:=2) rfl) (.cell (s.box (i:=4) rfl (j:=3) rfl) (.cell (s.box (i:=4) rfl (j:=4) rfl) (.cell (s.box (i:=4) rfl (j:=5) rfl) (.cell (s.box (i:=4) rfl (j:=6) rfl) (.cell (s.box (i:=4) rfl (j:=7) rfl) (.cell (s.box (i:=4) rfl (j:=8) rfl) (.cell (s.box (i:=4) rfl (j:=9) rfl) (.cell (s.box (i:=1) rfl (j:=0) rfl) .nil)))))))))))) .nil fun a74 hf81=>?_
    refine c_done ?_
    intro hA1
    refine k_any' 6 [1,2] (by kernel_rfl) hA1 (by kernel_rfl) (by kernel_rfl) ?_
    refine (all_cons ?_ (all_cons ?_ all_nil))
    ·skip
     obtain ⟨z20,k17,hS81,hx17⟩:=hS80.ownShareN (j:=5) rfl (n:=9) rfl
     obtain ⟨r2,hd13,hr37⟩:=bind_some hr36
     refine c_call hf81 (f85_ok fuel r1.1 y4 r2 hd13 z20 _ _ hS81 e1 q1 (SliceR.mono (zt (zt k3 k16) k17) hx1) v12 v13 v14 v15 v16 v17 v18 v19 v20 (Ty.mono _ zr hx17)) ?_
     rintro v99 ww40 a75 ⟨z21,e27,q27,v100,v101,v102,v103,v104,v105,v106,v107,v108,k18,rfl,hS82,hx18⟩ hf82
     refine ⟨fun _=>Sub.of (zt k17 k18) ((St.drop 1 hS82).mask (i:=5) rfl),?_⟩
     refine c_done ?_
     intro hA2
     have s21:=Sub.of (zt k17 k18) ((St.drop 1 hS82).mask (i:=5) rfl)
     refine k_seg' 0 [(2,false),(5,false),(6,true),(7,false),(8,false),(9,true)] (by kernel_rfl) (by kernel_rfl) hA2 (by kernel_rfl) ?_
     refine p_box (i:=2) (d:=(some 157)) (cs:=[]) (T:=56) (v:=fun b12=> .slice (some ⟨b12,0,none⟩) 0 0) hS82 hf82 (fun b=>by kernel_rfl) fun b12 ww41 a76 hS83 hf83=>⟨fun _=>Sub.of (zt k17 k18) ((St.drop 2 hS83).mask (i:=5) rfl),?_⟩
     have hS84:=hS83.ownBox (T:=PartT) (E:=56) (n:=0) (xs:=[]) (i:=0) rfl rfl rfl (by decide)
     have s22:=Sub.of (zt k17 k18) ((St.drop 2 hS84).mask (i:=5) rfl)
     obtain ⟨d1,hd14,hr38⟩:=bind_some hr37
     refine p_append (T:=PartT) (i:=5) (j:=0) (d:=some 160) (o2:=e2) (c2:=q2) (ys:=y5) el38 hS84 hf83 rfl (by kernel_rfl) (SliceR.src (SliceR.mono (zt k17 k18) hx16) hS84) hd14 fun e28 q28 ww42 a77 hS85 hf84=>⟨fun e=>absurd e (by decide),?_⟩
     refine p_qP 1 [] [(4,pB b3 0),(5,pB b4 0),(156, .agg #[.slice e27 r2.1.length q27,v100,v101,v102,v103,v104,v105,v106,v107,v108]),(161, .agg #[.slice e28 d1.length q28])] [] hf84 (by kernel_rfl) (fun _=> .nil) fun a78 hf85=>?_
     have hq2:=hS85.ownOnes (j:=1) rfl
     refine p_store_eq (i:=7) (j:=9) (b:=b3) (off:=0) (vs:=[.slice e27 r2.1.length q27,v100,v101,v102,v103,v104,v105,v106,v107,v108]) (cs':=[.slice e27 r2.1.length q27,v100,v101,v102,v103,v104,v105,v106,v107,v108]) hS85 hf85 rfl (by kernel_rfl) hq2 rfl fun ww43 a79 hS86 hf86=>⟨fun e=>absurd e (by decide),?_⟩
     refine c_st 8 [.slice e28 d1.length q28] hS86 hf86 rfl fun ww44 a80 hS87 hf87=>⟨fun e=>absurd e (by decide),?_⟩
     refine p_qP 1 [] [(4,pB b3 0),(5,pB b4 0),(6,vI 0)] [] hf87 (by kernel_rfl) (fun _=> .nil) fun a81 hf88=>?_
     refine c_done ?_
     intro hA3
     refine k_done' (by kernel_rfl) (by kernel_rfl) ?_
     refine n_then ?_
     exact ⟨z21,d1,r2.1,r2.2,e28,q28,e27,q27,v100,v101,v102,v103,v104,v105,v106,v107,v108,(zt k17 k18),hf88.to,(St.pick 2 [0,1] hS87 (by kernel_rfl)),hx18,hr38⟩
    ·skip
     refine p_box (i:=2) (d:=(some 157)) (cs:=[]) (T:=56) (v:=fun b13=> .slice (some ⟨b13,0,none⟩) 0 0) hS80 hf81 (fun b=>by kernel_rfl) fun b13 ww45 a82 hS88 hf90=>⟨fun _=>Sub.of zr ((St.drop 1 hS88).mask (i:=5) rfl),?_⟩
     have hS89:=hS88.ownBox (T:=PartT) (E:=56) (n:=0) (xs:=[]) (i:=0) rfl rfl rfl (by decide)
     refine c_done ?_
     intro hA4
     have s23:=Sub.of zr ((St.drop 1 hS89).mask (i:=5) rfl)
     refine k_seg' 0 [(1,false),(5,false),(6,true),(7,false),(8,false),(9,true)] (by kernel_rfl) (by kernel_rfl) hA4 (by kernel_rfl) ?_
     obtain ⟨z22,k19,hS90,hx19⟩:=hS89.ownShareN (j:=6) rfl (n:=9) rfl
     obtain ⟨r10,hd15,hr39⟩:=bind_some hr36
     refine c_call hf90 (f85_ok fuel r1.1 y4 r10 hd15 z22 _ _ hS90 e1 q1 (SliceR.mono (zt (zt k3 k16) k19) hx1) v12 v13 v14 v15 v16 v17 v18 v19 v20 (Ty.mono _ zr hx19)) ?_
     rintro v109 ww46 a83 ⟨z23,e29,q29,v110,v111,v112,v113,v114,v115,v116,v117,v118,k20,rfl,hS91,hx20⟩ hf91
     refine ⟨fun _=>Sub.of (zt k19 k20) ((St.drop 2 hS91).mask (i:=5) rfl),?_⟩
     have s24:=Sub.of (zt k19 k20) ((St.drop 2 hS91).mask (i:=5) rfl)
     obtain ⟨d6,hd16,hr40⟩:=bind_some hr39
     refine p_append (T:=PartT) (i:=5) (j:=1) (d:=some 160) (o2:=e2) (c2:=q2) (ys:=y5) el38 hS91 hf91 rfl (by kernel_rfl) (SliceR.src (SliceR.mono (zt k19 k20) hx16) hS91) hd16 fun e30 q30 ww47 a84 hS92 hf92=>⟨fun e=>absurd e (by decide),?_⟩
     refine p_qP 1 [] [(4,pB b3 0),(5,pB b4 0),(156, .agg #[.slice e29 r10.1.length q29,v110,v111,v112,v113,v114,v115,v116,v117,v118]),(161, .agg #[.slice e30 d6.length q30])] [] hf92 (by kernel_rfl) (fun _=> .nil) fun a85 hf93=>?_
     have hq3:=hS92.ownOnes (j:=0) rfl
     refine p_store_eq (i:=7) (j:=9) (b:=b3) (off:=0) (vs:=[.slice e29 r10.1.length q29,v110,v111,v112,v113,v114,v115,v116,v117,v118]) (cs':=[.slice e29 r10.1.length q29,v110,v111,v112,v113,v114,v115,v116,v117,v118]) hS92 hf93 rfl (by kernel_rfl) hq3 rfl fun ww48 a86 hS93 hf94=>⟨fun e=>absurd e (by decide),?_⟩
     refine c_st 8 [.slice e30 d6.length q30] hS93 hf94 rfl fun ww49 a87 hS94 hf95=>⟨fun e=>absurd e (by decide),?_⟩
     refine p_qP 1 [] [(4,pB b3 0),(5,pB b4 0),(6,vI 0)] [] hf95 (by kernel_rfl) (fun _=> .nil) fun a88 hf96=>?_
     refine c_done ?_
     intro hA5
     refine k_done' (by kernel_rfl) (by kernel_rfl) ?_
     refine n_then ?_
     exact ⟨z23,d6,r10.1,r10.2,e30,q30,e29,q29,v110,v111,v112,v113,v114,v115,v116,v117,v118,(zt k19 k20),hf96.to,(St.pick 2 [1,0] hS94 (by kernel_rfl)),hx20,hr40⟩
   ·rintro a89 ww50 ⟨z19,y1,y2,y3,e25,q25,e26,q26,v90,v91,v92,v93,v94,v95,v96,v97,v98,k21,hf98,hS95,hx21,hr41⟩
    refine c_ret ?_
    obtain ⟨z24,k22,hS96,hx22⟩:=hS95.share (j:=0) rfl
    obtain ⟨z25,k23,hS97,hx23⟩:=hS96.ownShareN (j:=1) rfl (n:=9) rfl
    refine c_rt [.slice e26 y2.length q26,v90,v91,v92,v93,v94,v95,v96,v97,v98, .slice e25 y1.length q25] (.tuple #[.agg #[.slice e26 y2.length q26,v90,v91,v92,v93,v94,v95,v96,v97,v98], .agg #[.slice e25 y1.length q25],vI 0]) hf98 (.cell (hS97.box (i:=9) rfl (j:=0) rfl) (.cell (hS97.box (i:=9) rfl (j:=1) rfl) (.cell (hS97.box (i:=9) rfl (j:=2) rfl) (.cell (hS97.box (i:=9) rfl (j:=3) rfl) (.cell (hS97.box (i:=9) rfl (j:=4) rfl) (.cell (hS97.box (i:=9) rfl (j:=5) rfl) (.cell (hS97.box (i:=9) rfl (j:=6) rfl) (.cell (hS97.box (i:=9) rfl (j:=7) rfl) (.cell (hS97.box (i:=9) rfl (j:=8) rfl) (.cell (hS97.box (i:=9) rfl (j:=9) rfl) (.cell (hS97.box (i:=8) rfl (j:=0) rfl) .nil))))))))))) ?_
    obtain rfl:=some_eq hr41
    exact ⟨_,rfl,z25,e26,q26,v90,v91,v92,v93,v94,v95,v96,v97,v98,e25,q25,(zt (zt (zt (zt (zt (zt k1 k2) k3) k16) k21) k22) k23),rfl,(St.drop 12 hS97),(SliceR.mono (zt k22 k23) hx21),(Ty.mono _ zr hx23),(SliceR.mono k23 hx22)⟩
end Go.Proofs.Ytlmgjjmighajdaa
