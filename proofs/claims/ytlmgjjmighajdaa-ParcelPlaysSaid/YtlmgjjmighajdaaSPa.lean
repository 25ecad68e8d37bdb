/-
  A part of the walk and of the plain law of one given statement. No condition.
-/
import Derived.Test.YtlmgjjmighajdaaJ1
set_option linter.unusedVariables false
namespace Go.Proofs.Ytlmgjjmighajdaa
open Go.Sl Go.Sx
def F71_j1 (y1:Bool):Option (Bool) :=
  (some (y1))
def F71 (fuel:Nat) (x0:Int) (x1:Int) (x2:Int):Option (Bool) :=
  (cond (decide (x1≤x0)) (F71_j1 (decide (x0≤x2))) (F71_j1 false))
set_option maxRecDepth 100000 in
theorem f71_ok (fuel:Nat) (x0:Int) (x1:Int) (x2:Int) (r:Bool) (hr:F71 fuel x0 x1 x2=some r) (h:Zone) (L:List Atom) (w:World) (hS:St h L w)  :
    Calls Try.prog 71 #[vI x0,vI x1,vI x2] w fun e w'=>∃v,e= .returned v∧(∃h',Zone.le h h'∧v= .bool r∧St h' L w'):=by
 refine calls_intro (N:=15) Try.func71 (by kernel_rfl) fun a hf=>?_
 refine c_sq [] [0,1,2] hf .nil fun a1 hf1=>?_
 refine c_mid (fun a w=>∃z1:Zone,∃y1:Bool,Zone.le h z1∧Fr a 15 [(6, .bool y1)]∧St z1 (L) w∧(F71_j1 y1)=some r) ?_ ?_
 ·skip
  refine c_reg ?_
  refine c_n 4 [] [0,2,10] hf1 .nil fun a2 hf2=>?_
  rcases bft (decide (x1≤x0)) with hb1 | hb1
  ·have hr1:=cond_t hb1 hr
   have hf3:=hf2.lit 10 hb1
   refine c_t [] [6] hf3 .nil fun a3 hf4=>?_
   exact ⟨h,(decide (x0≤x2)),zr,hf4.to,hS,hr1⟩
  ·have hr2:=cond_f hb1 hr
   have hf6:=hf2.lit 10 hb1
   refine c_t [] [6] hf6 .nil fun a4 hf7=>?_
   exact ⟨h,false,zr,hf7.to,hS,hr2⟩
 ·rintro a5 ww1 ⟨z1,y1,k1,hf9,hS1,hr3⟩
  refine c_ret ?_
  refine c_rt [] (.bool y1) hf9 .nil ?_
  obtain rfl:=some_eq hr3
  exact ⟨_,rfl,z1,k1,rfl,hS1⟩
def F17_j1 (y1:Bool):Option (Int) :=
  (cond y1 (some (60)) (some (0)))
def F17 (fuel:Nat) (x0i:Int) (x0w:Int) (x0g:Int) (x0e:Int):Option (Int) :=
  ((F71 fuel x0i 1 9999).bind fun r1=>(cond (!r1) (F17_j1 true) ((F71 fuel x0w 1 9).bind fun r2=>(cond (!r2) (F17_j1 true) ((F71 fuel x0g 1 9).bind fun r3=>(cond (!r3) (F17_j1 true) ((F71 fuel x0e 0 10000).bind fun r4=>(F17_j1 (!r4)))))))))
set_option maxRecDepth 100000 in
theorem f17_ok (fuel:Nat) (x0i:Int) (x0w:Int) (x0g:Int) (x0e:Int) (r:Int) (hr:F17 fuel x0i x0w x0g x0e=some r) (h:Zone) (L:List Atom) (w:World) (hS:St h L w)  :
    Calls Try.prog 17 #[.agg #[vI x0i,vI x0w,vI x0g,vI x0e]] w fun e w'=>∃v,e= .returned v∧(∃h',Zone.le h h'∧v=vI r∧St h' L w'):=by
 refine calls_intro (N:=25) Try.func17 (by kernel_rfl) fun a hf=>?_
 refine c_sr ?_
 refine c_box [vI x0i,vI x0w,vI x0g,vI x0e] 33 hS hf fun b1 ww1 a1 hS1 hf1=>⟨fun _=>trivial,?_⟩
 refine c_t [] [1] hf1 .nil fun a2 hf2=>?_
 refine c_seq ?_
 refine c_mid (fun a w=>∃z1:Zone,∃y1:Bool,Zone.le h z1∧Fr a 25 [(24, .bool y1)]∧St z1 (box b1 [vI x0i,vI x0w,vI x0g,vI x0e] 33::L) w∧(F17_j1 y1)=some r) ?_ ?_
 ·skip
  refine c_reg ?_
  refine c_n 2 [vI x0i] [1,4] hf2 (.cell (hS1.box (i:=0) rfl (j:=0) rfl) .nil) fun a3 hf3=>?_
  obtain ⟨r1,hd1,hr1⟩:=bind_some hr
  refine c_call hf3 (f71_ok fuel x0i 1 9999 r1 hd1 h _ _ hS1 ) ?_
  rintro v1 ww2 a4 ⟨z2,k1,rfl,hS2⟩ hf4
  refine ⟨fun _=>trivial,?_⟩
  refine c_n 2 [] [1,7] hf4 .nil fun a5 hf5=>?_
  rcases bft (!r1) with hb1 | hb1
  ·have hr2:=cond_t hb1 hr1
   have hf6:=hf5.lit 7 hb1
   refine c_t [] [24] hf6 .nil fun a6 hf7=>?_
   exact ⟨z2,true,k1,hf7.to,hS2,hr2⟩
  ·have hr3:=cond_f hb1 hr1
   have hf9:=hf5.lit 7 hb1
   refine c_n 2 [vI x0w] [1,7,9] hf9 (.cell (hS2.box (i:=0) rfl (j:=1) rfl) .nil) fun a7 hf10=>?_
   obtain ⟨r2,hd2,hr4⟩:=bind_some hr3
   refine c_call hf10 (f71_ok fuel x0w 1 9 r2 hd2 z2 _ _ hS2 ) ?_
   rintro v2 ww3 a8 ⟨z3,k2,rfl,hS3⟩ hf11
   refine ⟨fun _=>trivial,?_⟩
   refine c_n 3 [] [1,13] hf11 .nil fun a9 hf12=>?_
   rcases bft (!r2) with hb2 | hb2
   ·have hr5:=cond_t hb2 hr4
    have hf13:=hf12.lit 13 hb2
    refine c_t [] [24] hf13 .nil fun a10 hf14=>?_
    exact ⟨z3,true,(zt k1 k2),hf14.to,hS3,hr5⟩
   ·have hr6:=cond_f hb2 hr4
    have hf16:=hf12.lit 13 hb2
    refine c_n 2 [vI x0g] [1,13,15] hf16 (.cell (hS3.box (i:=0) rfl (j:=2) rfl) .nil) fun a11 hf17=>?_
    obtain ⟨r3,hd3,hr7⟩:=bind_some hr6
    refine c_call hf17 (f71_ok fuel x0g 1 9 r3 hd3 z3 _ _ hS3 ) ?_
    rintro v3 ww4 a12 ⟨z4,k3,rfl,hS4⟩ hf18
    refine ⟨fun _=>trivial,?_⟩
    refine c_n 3 [] [1,19] hf18 .nil fun a13 hf19=>?_
    rcases bft (!r3) with hb3 | hb3
    ·have hr8:=cond_t hb3 hr7
     have hf20:=hf19.lit 19 hb3
     refine c_t [] [24] hf20 .nil fun a14 hf21=>?_
     exact ⟨z4,true,(zt (zt k1 k2) k3),hf21.to,hS4,hr8⟩
    ·have hr9:=cond_f hb3 hr7
     have hf23:=hf19.lit 19 hb3
     refine c_n 2 [vI x0e] [19,21] hf23 (.cell (hS4.box (i:=0) rfl (j:=3) rfl) .nil) fun a15 hf24=>?_
     obtain ⟨r4,hd4,hr10⟩:=bind_some hr9
     refine c_call hf24 (f71_ok fuel x0e 0 10000 r4 hd4 z4 _ _ hS4 ) ?_
     rintro v4 ww5 a16 ⟨z5,k4,rfl,hS5⟩ hf25
     refine ⟨fun _=>trivial,?_⟩
     refine c_t [] [24] hf25 .nil fun a17 hf26=>?_
     exact ⟨z5,(!r4),(zt (zt (zt k1 k2) k3) k4),hf26.to,hS5,hr10⟩
 ·rintro a18 ww6 ⟨z1,y1,k5,hf28,hS6,hr11⟩
  refine c_if y1 hf28 (fun hb4=>?_) (fun hb4=>?_)
  ·have hr12:=cond_t hb4 hr11
   refine c_sq [] [2] hf28 .nil fun a19 hf29=>?_
   refine c_ret ?_
   refine r_then ?_
   refine c_rt [] (vI 60) hf29 .nil ?_
   obtain rfl:=some_eq hr12
   exact ⟨_,rfl,z1,k5,rfl,(St.drop 1 hS6)⟩
  ·have hr13:=cond_f hb4 hr11
   refine c_skip ?_
   refine n_then ?_
   refine c_sq [] [2] hf28 .nil fun a20 hf30=>?_
   refine c_ret ?_
   refine c_rt [] (vI 0) hf30 .nil ?_
   obtain rfl:=some_eq hr13
   exact ⟨_,rfl,z1,k5,rfl,(St.drop 1 hS6)⟩
def F73_j1 (k1:Int→Int→Option (Bool)) (y1:Int) (y2:Int) (p1:Part) (y3:Bool):Option (Bool) :=
  (cond y3 (some (false)) (k1 (w64 (y1 + p1.mass)) (w64 (y2 + (1:Int)))))
def F73_l1 (fuel:Nat) (x0:List Part):Nat→Int→Int→Option (Bool)
  | 0,_,_=>none
  | n1 + 1,y1,y2 =>
    let k1:Int→Int→Option (Bool):=F73_l1 fuel x0 n1
    (cond (decide (y2<(x0.length:Int))) ((getI x0 y2).bind fun p1=>((F71 fuel p1.lot 1 9999).bind fun r1=>(cond (!r1) (F73_j1 k1 y1 y2 p1 true) ((F71 fuel p1.mass 1 100000000).bind fun r2=>(cond (!r2) (F73_j1 k1 y1 y2 p1 true) (cond (decide (y2 > (0:Int))) ((getI x0 (w64 (y2 - (1:Int)))).bind fun p2=>(F73_j1 k1 y1 y2 p1 (decide (p2.lot≥p1.lot)))) (F73_j1 k1 y1 y2 p1 false))))))) (some ((decide (y1≤(100000000:Int))))))
def F73 (fuel:Nat) (x0:List Part):Option (Bool) :=
  (cond (decide ((x0.length:Int) > (40:Int))) (some (false)) (F73_l1 fuel x0 fuel 0 0))
set_option maxRecDepth 100000 in
theorem f73_ok (fuel:Nat) (x0:List Part) (r:Bool) (hr:F73 fuel x0=some r) (h:Zone) (L:List Atom) (w:World) (hS:St h L w) (o_x0:Option Addr) (c_x0:Nat) (hx_x0:SliceR PartT h o_x0 c_x0 x0) :
    Calls Try.prog 73 #[.agg #[.slice o_x0 x0.length c_x0]] w fun e w'=>∃v,e= .returned v∧(∃h',Zone.le h h'∧v= .bool r∧St h' L w'):=by
 refine calls_intro (N:=51) Try.func73 (by kernel_rfl) fun a hf=>?_
 refine c_sr ?_
 refine c_box [.slice o_x0 x0.length c_x0] 40 hS hf fun b1 ww1 a1 hS1 hf1=>⟨fun _=>trivial,?_⟩
 refine c_t [] [1] hf1 .nil fun a2 hf2=>?_
 refine c_seq ?_
 refine c_sq [.slice o_x0 x0.length c_x0] [1,9] hf2 (.cell (hS1.box (i:=0) rfl (j:=0) rfl) .nil) fun a3 hf3=>?_
 refine c_if (decide ((x0.length:Int) > (40:Int))) hf3 (fun hb1=>?_) (fun hb1=>?_)
 ·have hr1:=cond_t hb1 hr
  refine c_sq [] [2] hf3 .nil fun a4 hf4=>?_
  refine c_ret ?_
  refine r_then ?_
  refine c_rt [] (.bool false) hf4 .nil ?_
  obtain rfl:=some_eq hr1
  exact ⟨_,rfl,h,zr,rfl,(St.drop 1 hS1)⟩
 ·have hr2:=cond_f hb1 hr
  refine c_skip ?_
  refine n_then ?_
  refine c_sq [] [1,3] hf3 .nil fun a5 hf5=>?_
  refine c_seq ?_
  refine c_sq [.slice o_x0 x0.length c_x0] [1,3,11,12,13] hf5 (.cell (hS1.box (i:=0) rfl (j:=0) rfl) .nil) fun a6 hf6=>?_
  refine c_block 0 ?_
  refine c_loop (fun n a w=>∃z1:Zone,∃y1:Int,∃y2:Int,Zone.le h z1∧Fr a 51 [(1,pB b1 0),(3,vI y1),(11, .slice o_x0 x0.length c_x0),(12,vI (x0.length:Int)),(13,vI y2)]∧St z1 (box b1 [.slice o_x0 x0.length c_x0] 40::L) w∧(F73_l1 fuel x0 n y1 y2)=some r) fuel ⟨h,0,0,zr,hf6.to,hS1,hr2⟩ ?_
  rintro n2 a7 ww2 ⟨z1,y1,y2,k2,hf8,hS2,hr3⟩
  cases n2 with
  | zero=>cases hr3
  | succ n1 =>
  refine c_sq [] [1,3,11,12,13,14] hf8 .nil fun a8 hf9=>?_
  refine c_seq ?_
  refine c_if (decide (y2<(x0.length:Int))) hf9 (fun hb2=>?_) (fun hb2=>?_)
  ·have hr4:=cond_t hb2 hr3
   refine c_skip ?_
   refine n_then ?_
   refine c_seq ?_
   refine c_block 1 ?_
   refine c_sr ?_
   obtain ⟨p1,hp4726,hr5⟩:=bind_some hr4
   obtain ⟨ad1,ho1,hb3,cc1,hc1,hk1⟩:=SliceR.getI (SliceR.mono k2 hx_x0) hp4726
   subst hc1
   refine c_n 3 [.pointer (some ad1),vI p1.lot,vI p1.mass] [1,3,11,12,13,15,17] hf9 (.prop ho1 (.prop hb3 (.cell (hS2.cell (hk1 0 _ rfl)) (.cell (hS2.cell (hk1 1 _ rfl)) .nil)))) fun a9 hf10=>?_
   refine c_box [vI 0,vI 0] 56 hS2 hf10 fun b2 ww3 a10 hS3 hf11=>⟨fun _=>trivial,?_⟩
   refine c_n 1 [] [1,3,4,5,11,12,13,17] hf11 .nil fun a11 hf12=>?_
   refine c_st 0 [vI p1.lot,vI p1.mass] hS3 hf12 rfl fun ww4 a12 hS4 hf13=>⟨fun _=>trivial,?_⟩
   refine c_dt ?_
   refine c_seq ?_
   refine c_mid (fun a w=>∃z2:Zone,∃y3:Bool,Zone.le z1 z2∧Fr a 51 [(1,pB b1 0),(3,vI y1),(5,pB b2 0),(11, .slice o_x0 x0.length c_x0),(12,vI (x0.length:Int)),(13,vI y2),(43, .bool y3)]∧St z2 (box b2 [vI p1.lot,vI p1.mass] 56::box b1 [.slice o_x0 x0.length c_x0] 40::L) w∧(F73_j1 (F73_l1 fuel x0 n1) y1 y2 p1 y3)=some r) ?_ ?_
   ·skip
    have hS5:=hS4.drew
    have s1:=Sub.of zr hS5
    refine c_regD [(0,true),(1,true),(2,false),(3,true),(4,true),(5,true),(6,true),(7,false),(8,true),(9,true),(10,true),(11,true),(12,true),(13,true),(14,true),(15,true),(16,true),(17,true),(18,true),(19,true),(20,true),(21,true),(22,true),(23,true),(24,true),(25,true)] [] _ s1 ?_
    refine c_S 2 [vI p1.lot] [1,3,4,5,11,12,13,19] s1 hf13 (fun _ s=>(.cell (s.box (i:=0) rfl (j:=0) rfl) .nil)) .nil fun a13 hf14=>?_
    obtain ⟨r1,hd1,hr6⟩:=bind_some hr5
    refine c_call hf14 (f71_ok fuel p1.lot 1 9999 r1 hd1 z1 _ _ hS5 ) ?_
    rintro v1 ww5 a14 ⟨z3,k3,rfl,hS6⟩ hf15
    refine ⟨fun _=>Sub.of k3 hS6,?_⟩
    have s2:=Sub.of k3 hS6
    refine c_S 2 [] [1,3,4,5,11,12,13,22] s2 hf15 (fun _ s=> .nil) .nil fun a15 hf16=>?_
    rcases bft (!r1) with hb4 | hb4
    ·have hr7:=cond_t hb4 hr6
     have hf17:=hf16.lit 22 hb4
     refine c_S 21 [] [1,3,5,11,12,13,23,24,25,26,29,30,31,32,33,34,35,36,37,38,39,40,41,42,43] s2 hf17 (fun _ s=> .nil) .nil fun a16 hf18=>?_
     refine c_dt ?_
     exact ⟨z3,true,k3,hf18.to,hS6,hr7⟩
    ·have hr8:=cond_f hb4 hr6
     have hf20:=hf16.lit 22 hb4
     refine c_S 2 [vI p1.mass] [1,3,4,5,11,12,13,22,23,24] s2 hf20 (fun _ s=>(.cell (s.box (i:=0) rfl (j:=1) rfl) .nil)) .nil fun a17 hf21=>?_
     obtain ⟨r2,hd2,hr9⟩:=bind_some hr8
     refine c_call hf21 (f71_ok fuel p1.mass 1 100000000 r2 hd2 z3 _ _ hS6 ) ?_
     rintro v2 ww6 a18 ⟨z4,k4,rfl,hS7⟩ hf22
     refine ⟨fun _=>Sub.of (zt k3 k4) hS7,?_⟩
     have s3:=Sub.of (zt k3 k4) hS7
     refine c_S 3 [] [1,3,4,5,11,12,13,23,24,25,26,28] s3 hf22 (fun _ s=> .nil) .nil fun a19 hf23=>?_
     rcases bft (!r2) with hb5 | hb5
     ·have hr10:=cond_t hb5 hr9
      have hf24:=hf23.lit 28 hb5
      refine c_S 15 [] [1,3,5,11,12,13,23,24,25,26,29,30,31,32,33,34,35,36,37,38,39,40,41,42,43] s3 hf24 (fun _ s=> .nil) .nil fun a20 hf25=>?_
      refine c_dt ?_
      exact ⟨z4,true,(zt k3 k4),hf25.to,hS7,hr10⟩
     ·have hr11:=cond_f hb5 hr9
      have hf27:=hf23.lit 28 hb5
      refine c_S 3 [] [1,3,4,5,11,12,13,23,24,25,26,28,29,30,31] s3 hf27 (fun _ s=> .nil) .nil fun a21 hf28=>?_
      rcases bft (decide (y2 > (0:Int))) with hb6 | hb6
      ·have hr12:=cond_t hb6 hr11
       have hf29:=hf28.lit 31 hb6
       obtain ⟨p2,hp5131,hr13⟩:=bind_some hr12
       obtain ⟨ad2,ho2,hb7,cc2,hc2,hk2⟩:=SliceR.getI (SliceR.mono k2 hx_x0) hp5131
       subst hc2
       refine c_S 12 [.slice o_x0 x0.length c_x0, .pointer (some ad2),vI p2.lot,vI p1.lot] [1,3,5,11,12,13,23,24,25,26,29,30,31,32,33,34,35,36,37,38,39,40,41,42,43] s3 hf29 (fun _ s=>(.cell (s.box (i:=1) rfl (j:=0) rfl) (.prop ho2 (.prop hb7 (.cell (s.cell (hk2 0 _ rfl)) (.cell (s.box (i:=0) rfl (j:=0) rfl) .nil)))))) .nil fun a22 hf30=>?_
       refine c_dt ?_
       exact ⟨z4,(decide (p2.lot≥p1.lot)),(zt k3 k4),hf30.to,hS7,hr13⟩
      ·have hr14:=cond_f hb6 hr11
       have hf32:=hf28.lit 31 hb6
       refine c_S 12 [] [1,3,5,11,12,13,23,24,25,26,29,30,31,32,33,34,35,36,37,38,39,40,41,42,43] s3 hf32 (fun _ s=> .nil) .nil fun a23 hf33=>?_
       refine c_dt ?_
       exact ⟨z4,false,(zt k3 k4),hf33.to,hS7,hr14⟩
   ·rintro a24 ww7 ⟨z2,y3,k5,hf35,hS8,hr15⟩
    refine c_if y3 hf35 (fun hb8=>?_) (fun hb8=>?_)
    ·have hr16:=cond_t hb8 hr15
     refine c_sq [] [2] hf35 .nil fun a25 hf36=>?_
     refine c_ret ?_
     refine r_then ?_
     refine r_block ?_
     refine r_then ?_
     refine r_then ?_
     refine r_block ?_
     refine r_then ?_
     refine c_rt [] (.bool false) hf36 .nil ?_
     obtain rfl:=some_eq hr16
     exact ⟨_,rfl,z2,(zt k2 k5),rfl,(St.drop 2 hS8)⟩
    ·have hr17:=cond_f hb8 hr15
     refine c_skip ?_
     refine n_then ?_
     refine c_q [vI p1.mass] [1,3,11,12,13] hf35 (.cell (hS8.box (i:=0) rfl (j:=1) rfl) .nil) fun a26 hf37=>?_
     refine n_block ?_
     refine n_then ?_
     refine c_q [] [1,3,11,12,13] hf37 .nil fun a27 hf38=>?_
     refine n_then ?_
     exact ⟨n1,Nat.lt_succ_self n1,z2,(w64 (y1 + p1.mass)),(w64 (y2 + (1:Int))),(zt k2 k5),hf38.to,(St.drop 1 hS8),hr17⟩
  ·have hr18:=cond_f hb2 hr3
   refine c_exit 0 ?_
   refine x_then ?_
   refine x_then ?_
   refine x_block ?_
   refine n_then ?_
   refine c_sq [] [2] hf9 .nil fun a28 hf40=>?_
   refine c_ret ?_
   refine c_rt [] (.bool (decide (y1≤(100000000:Int)))) hf40 .nil ?_
   obtain rfl:=some_eq hr18
   exact ⟨_,rfl,z1,k2,rfl,(St.drop 1 hS2)⟩
def F90_l1 (x0:List Part):Nat→Int→Int→Option (Int)
  | 0,_,_=>none
  | n1 + 1,y1,y2 =>
    let k1:Int→Int→Option (Int):=F90_l1 x0 n1
    (cond (decide (y2<(x0.length:Int))) ((getI x0 y2).bind fun p1=>(k1 (w64 (y1 + p1.mass)) (w64 (y2 + (1:Int))))) (some (y1)))
def F90 (fuel:Nat) (x0:List Part):Option (Int) :=
  (F90_l1 x0 fuel 0 0)
set_option maxRecDepth 100000 in
theorem f90_ok (fuel:Nat) (x0:List Part) (r:Int) (hr:F90 fuel x0=some r) (h:Zone) (L:List Atom) (w:World) (hS:St h L w) (o_x0:Option Addr) (c_x0:Nat) (hx_x0:SliceR PartT h o_x0 c_x0 x0) :
    Calls Try.prog 90 #[.agg #[.slice o_x0 x0.length c_x0]] w fun e w'=>∃v,e= .returned v∧(∃h',Zone.le h h'∧v=vI r∧St h' L w'):=by
 refine calls_intro (N:=19) Try.func90 (by kernel_rfl) fun a hf=>?_
 refine c_sr ?_
 refine c_box [.slice o_x0 x0.length c_x0] 40 hS hf fun b1 ww1 a1 hS1 hf1=>⟨fun _=>trivial,?_⟩
 refine c_t [] [1] hf1 .nil fun a2 hf2=>?_
 refine c_sq [] [1,3] hf2 .nil fun a3 hf3=>?_
 refine c_seq ?_
 refine c_sq [.slice o_x0 x0.length c_x0] [3,7,8,9] hf3 (.cell (hS1.box (i:=0) rfl (j:=0) rfl) .nil) fun a4 hf4=>?_
 refine c_block 0 ?_
 refine c_loop (fun n a w=>∃z1:Zone,∃y1:Int,∃y2:Int,Zone.le h z1∧Fr a 19 [(3,vI y1),(7, .slice o_x0 x0.length c_x0),(8,vI (x0.length:Int)),(9,vI y2)]∧St z1 (box b1 [.slice o_x0 x0.length c_x0] 40::L) w∧(F90_l1 x0 n y1 y2)=some r) fuel ⟨h,0,0,zr,hf4.to,hS1,hr⟩ ?_
 rintro n2 a5 ww2 ⟨z1,y1,y2,k2,hf6,hS2,hr1⟩
 cases n2 with
 | zero=>cases hr1
 | succ n1 =>
 refine c_sq [] [3,7,8,9,10] hf6 .nil fun a6 hf7=>?_
 refine c_seq ?_
 refine c_if (decide (y2<(x0.length:Int))) hf7 (fun hb1=>?_) (fun hb1=>?_)
 ·have hr2:=cond_t hb1 hr1
  refine c_skip ?_
  refine n_then ?_
  refine c_seq ?_
  refine c_block 1 ?_
  refine c_sr ?_
  obtain ⟨p1,hp458,hr3⟩:=bind_some hr2
  obtain ⟨ad1,ho1,hb2,cc1,hc1,hk1⟩:=SliceR.getI (SliceR.mono k2 hx_x0) hp458
  subst hc1
  refine c_n 2 [.pointer (some ad1),vI p1.lot,vI p1.mass] [3,7,8,9,12] hf7 (.prop ho1 (.prop hb2 (.cell (hS2.cell (hk1 0 _ rfl)) (.cell (hS2.cell (hk1 1 _ rfl)) .nil)))) fun a7 hf8=>?_
  refine c_box [vI 0,vI 0] 56 hS2 hf8 fun b2 ww3 a8 hS3 hf9=>⟨fun _=>trivial,?_⟩
  refine c_st 0 [vI p1.lot,vI p1.mass] hS3 hf9 rfl fun ww4 a9 hS4 hf10=>⟨fun _=>trivial,?_⟩
  refine c_dt ?_
  refine c_q [vI p1.mass] [3,7,8,9] hf10 (.cell (hS4.box (i:=0) rfl (j:=1) rfl) .nil) fun a10 hf11=>?_
  refine n_block ?_
  refine n_then ?_
  refine c_q [] [3,7,8,9] hf11 .nil fun a11 hf12=>?_
  refine n_then ?_
  exact ⟨n1,Nat.lt_succ_self n1,z1,(w64 (y1 + p1.mass)),(w64 (y2 + (1:Int))),k2,hf12.to,(St.drop 1 hS4),hr3⟩
 ·have hr4:=cond_f hb1 hr1
  refine c_exit 0 ?_
  refine x_then ?_
  refine x_then ?_
  refine x_block ?_
  refine n_then ?_
  refine c_sq [] [2] hf7 .nil fun a12 hf14=>?_
  refine c_ret ?_
  refine c_rt [] (vI y1) hf14 .nil ?_
  obtain rfl:=some_eq hr4
  exact ⟨_,rfl,z1,k2,rfl,(St.drop 1 hS2)⟩
def F137 (fuel:Nat) (x0:Int):Option (Bool) :=
  (some ((x0 != x0)))
set_option maxRecDepth 100000 in
theorem f137_ok (fuel:Nat) (x0:Int) (r:Bool) (hr:F137 fuel x0=some r) (h:Zone) (L:List Atom) (w:World) (hS:St h L w)  :
    Calls Try.prog 137 #[vI x0] w fun e w'=>∃v,e= .returned v∧(v= .bool r∧St h L w'):=by
 refine calls_intro (N:=6) Try.func137 (by kernel_rfl) fun a hf=>?_
 refine c_sq [] [0] hf .nil fun a1 hf1=>?_
 refine c_sq [] [2] hf1 .nil fun a2 hf2=>?_
 refine c_ret ?_
 refine c_rt [] (.bool (x0 != x0)) hf2 .nil ?_
 obtain rfl:=some_eq hr
 exact ⟨_,rfl,rfl,hS⟩
def F123 (fuel:Nat) (x0:Int) (x1:Int):Option (Int) :=
  ((F137 fuel x0).bind fun r1=>((F137 fuel x1).bind fun r2=>(cond r1 (cond r2 (some (0)) (some (-1))) (cond r2 (some (1)) (cond (decide (x0<x1)) (some (-1)) (cond (decide (x0 > x1)) (some (1)) (some (0))))))))
set_option maxRecDepth 100000 in
theorem f123_ok (fuel:Nat) (x0:Int) (x1:Int) (r:Int) (hr:F123 fuel x0 x1=some r) (h:Zone) (L:List Atom) (w:World) (hS:St h L w)  :
    Calls Try.prog 123 #[vI x0,vI x1] w fun e w'=>∃v,e= .returned v∧(v=vI r∧St h L w'):=by
 refine calls_intro (N:=20) Try.func123 (by kernel_rfl) fun a hf=>?_
 refine c_sq [] [0,1] hf .nil fun a1 hf1=>?_
 refine c_sr ?_
 refine c_n 1 [] [0,1,7] hf1 .nil fun a2 hf2=>?_
 obtain ⟨r1,hd1,hr1⟩:=bind_some hr
 refine c_call hf2 (f137_ok fuel x0 r1 hd1 h _ _ hS ) ?_
 rintro v1 ww1 a3 ⟨rfl,hS1⟩ hf3
 refine ⟨fun _=>trivial,?_⟩
 refine c_t [] [0,1,5] hf3 .nil fun a4 hf4=>?_
 refine c_sr ?_
 refine c_n 1 [] [0,1,5,9] hf4 .nil fun a5 hf5=>?_
 obtain ⟨r2,hd2,hr2⟩:=bind_some hr1
 refine c_call hf5 (f137_ok fuel x1 r2 hd2 h _ _ hS1 ) ?_
 rintro v2 ww2 a6 ⟨rfl,hS2⟩ hf6
 refine ⟨fun _=>trivial,?_⟩
 refine c_t [] [0,1,5,6] hf6 .nil fun a7 hf7=>?_
 refine c_seq ?_
 refine c_sq [] [0,1,6,11] hf7 .nil fun a8 hf8=>?_
 refine c_if r1 hf8 (fun hb1=>?_) (fun hb1=>?_)
 ·have hr3:=cond_t hb1 hr2
  refine c_seq ?_
  refine c_sq [] [12] hf8 .nil fun a9 hf9=>?_
  refine c_if r2 hf9 (fun hb2=>?_) (fun hb2=>?_)
  ·have hr4:=cond_t hb2 hr3
   refine c_sq [] [4] hf9 .nil fun a10 hf10=>?_
   refine c_ret ?_
   refine r_then ?_
   refine r_then ?_
   refine c_rt [] (vI 0) hf10 .nil ?_
   obtain rfl:=some_eq hr4
   exact ⟨_,rfl,rfl,hS2⟩
  ·have hr5:=cond_f hb2 hr3
   refine c_skip ?_
   refine n_then ?_
   refine c_sq [] [4] hf9 .nil fun a11 hf11=>?_
   refine c_ret ?_
   refine r_then ?_
   refine c_rt [] (vI (-1)) hf11 .nil ?_
   obtain rfl:=some_eq hr5
   exact ⟨_,rfl,rfl,hS2⟩
 ·have hr6:=cond_f hb1 hr2
  refine c_skip ?_
  refine n_then ?_
  refine c_seq ?_
  refine c_sq [] [0,1,13] hf8 .nil fun a12 hf12=>?_
  refine c_if r2 hf12 (fun hb3=>?_) (fun hb3=>?_)
  ·have hr7:=cond_t hb3 hr6
   refine c_sq [] [4] hf12 .nil fun a13 hf13=>?_
   refine c_ret ?_
   refine r_then ?_
   refine c_rt [] (vI 1) hf13 .nil ?_
   obtain rfl:=some_eq hr7
   exact ⟨_,rfl,rfl,hS2⟩
  ·have hr8:=cond_f hb3 hr6
   refine c_skip ?_
   refine n_then ?_
   refine c_seq ?_
   refine c_sq [] [0,1,16] hf12 .nil fun a14 hf14=>?_
   refine c_if (decide (x0<x1)) hf14 (fun hb4=>?_) (fun hb4=>?_)
   ·have hr9:=cond_t hb4 hr8
    refine c_sq [] [4] hf14 .nil fun a15 hf15=>?_
    refine c_ret ?_
    refine r_then ?_
    refine c_rt [] (vI (-1)) hf15 .nil ?_
    obtain rfl:=some_eq hr9
    exact ⟨_,rfl,rfl,hS2⟩
   ·have hr10:=cond_f hb4 hr8
    refine c_skip ?_
    refine n_then ?_
    refine c_seq ?_
    refine c_sq [] [19] hf14 .nil fun a16 hf16=>?_
    refine c_if (decide (x0 > x1)) hf16 (fun hb5=>?_) (fun hb5=>?_)
    ·have hr11:=cond_t hb5 hr10
     refine c_sq [] [4] hf16 .nil fun a17 hf17=>?_
     refine c_ret ?_
     refine r_then ?_
     refine c_rt [] (vI 1) hf17 .nil ?_
     obtain rfl:=some_eq hr11
     exact ⟨_,rfl,rfl,hS2⟩
    ·have hr12:=cond_f hb5 hr10
     refine c_skip ?_
     refine n_then ?_
     refine c_sq [] [4] hf16 .nil fun a18 hf18=>?_
     refine c_ret ?_
     refine c_rt [] (vI 0) hf18 .nil ?_
     obtain rfl:=some_eq hr12
     exact ⟨_,rfl,rfl,hS2⟩
def F127_j2 (k1:(List Int)→Int→Option (List Int)) (k2:(List Int)→Int→Option (List Int)) (y1:Int) (y2:List Int) (y3:Int) (y4:Bool):Option (List Int) :=
  (cond y4 ((getI y2 (w64 (y3 - (1:Int)))).bind fun p1=>((getI y2 y3).bind fun p2=>((getI y2 y3).bind fun p3=>((setI y2 y3 p1).bind fun d1=>((getI d1 (w64 (y3 - (1:Int)))).bind fun p4=>((setI d1 (w64 (y3 - (1:Int))) p2).bind fun d2=>(k2 d2 (w64 (y3 - (1:Int)))))))))) (k1 y2 (w64 (y1 + (1:Int)))))
def F127_l5 (fuel:Nat) (k1:(List Int)→Int→Option (List Int)) (x0:Int) (x1:List Int) (y5:Int) (y6:Int) (y1:Int):Nat→(List Int)→Int→Option (List Int)
  | 0,_,_=>none
  | n1 + 1,y2,y3 =>
    let k2:(List Int)→Int→Option (List Int):=F127_l5 fuel k1 x0 x1 y5 y6 y1 n1
    (cond (decide (y3 > y6)) ((getI y2 y3).bind fun p5=>((getI y2 (w64 (y3 - (1:Int)))).bind fun p6=>((getI x1 p6).bind fun p7=>((nz y5).bind fun _=>((getI x1 p5).bind fun p8=>((nz y5).bind fun _=>((F123 fuel (Int.tmod (w64 (x0 * p7)) y5) (Int.tmod (w64 (x0 * p8)) y5)).bind fun r1=>(F127_j2 k1 k2 y1 y2 y3 (decide (r1<(0:Int))))))))))) (F127_j2 k1 k2 y1 y2 y3 false))
def F127_l4 (fuel:Nat) (k3:(List Int)→Int→Int→Option (List Int)) (x0:Int) (x1:List Int) (y5:Int) (y6:Int) (y7:Int):Nat→(List Int)→Int→Option (List Int)
  | 0,_,_=>none
  | n2 + 1,y8,y1 =>
    let k1:(List Int)→Int→Option (List Int):=F127_l4 fuel k3 x0 x1 y5 y6 y7 n2
    (cond (decide (y1<y7)) (F127_l5 fuel k1 x0 x1 y5 y6 y1 fuel y8 y1) (k3 y8 y7 (w64 (y7 + (20:Int)))))
def F127_j3 (k4:(List Int)→Int→Option (List Int)) (k5:(List Int)→Int→Option (List Int)) (y9:Int) (y10:List Int) (y11:Int) (y12:Bool):Option (List Int) :=
  (cond y12 ((getI y10 (w64 (y11 - (1:Int)))).bind fun p9=>((getI y10 y11).bind fun p10=>((getI y10 y11).bind fun p11=>((setI y10 y11 p9).bind fun d3=>((getI d3 (w64 (y11 - (1:Int)))).bind fun p12=>((setI d3 (w64 (y11 - (1:Int))) p10).bind fun d4=>(k5 d4 (w64 (y11 - (1:Int)))))))))) (k4 y10 (w64 (y9 + (1:Int)))))
def F127_l7 (fuel:Nat) (k4:(List Int)→Int→Option (List Int)) (x0:Int) (x1:List Int) (y5:Int) (y6:Int) (y9:Int):Nat→(List Int)→Int→Option (List Int)
  | 0,_,_=>none
  | n3 + 1,y10,y11 =>
    let k5:(List Int)→Int→Option (List Int):=F127_l7 fuel k4 x0 x1 y5 y6 y9 n3
    (cond (decide (y11 > y6)) ((getI y10 y11).bind fun p13=>((getI y10 (w64 (y11 - (1:Int)))).bind fun p14=>((getI x1 p14).bind fun p15=>((nz y5).bind fun _=>((getI x1 p13).bind fun p16=>((nz y5).bind fun _=>((F123 fuel (Int.tmod (w64 (x0 * p15)) y5) (Int.tmod (w64 (x0 * p16)) y5)).bind fun r2=>(F127_j3 k4 k5 y9 y10 y11 (decide (r2<(0:Int))))))))))) (F127_j3 k4 k5 y9 y10 y11 false))
def F127_l9 (k6:Int→Option (List Int)) (y13:List Int) (y14:Int):Nat→Option (List Int)
  | 0=>none
  | n4 + 1 =>
    let k7:Option (List Int):=F127_l9 k6 y13 y14 n4
    (cond (decide ((w64 ((2:Int) * y14))≤(y13.length:Int))) (none) (cond (decide ((w64 ((0:Int) + y14))<(y13.length:Int))) (none) (k6 (w64 (y14 * (2:Int))))))
def F127_l10 (d5:List Int):Nat→(List Int)→Int→Option (List Int)
  | 0,_,_=>none
  | n5 + 1,y15,y16 =>
    let k8:(List Int)→Int→Option (List Int):=F127_l10 d5 n5
    (cond (decide (y16<(d5.length:Int))) ((getI d5 y16).bind fun p17=>((getI y15 p17).bind fun p18=>((getI y15 p17).bind fun p19=>((setI y15 p17 (w64 (p18 + (1:Int)))).bind fun d6=>(k8 d6 (w64 (y16 + (1:Int)))))))) (some (y15)))
def F127_l8 (fuel:Nat) (y17:List Int) (y13:List Int) (y18:Int) (y19:List Int):Nat→Int→Option (List Int)
  | 0,_=>none
  | n6 + 1,y14 =>
    let k6:Int→Option (List Int):=F127_l8 fuel y17 y13 y18 y19 n6
    (cond (decide (y14<(y13.length:Int))) (F127_l9 k6 y13 y14 fuel) ((subI y19 0 y18).bind fun d5=>(F127_l10 d5 fuel y17 0)))
def F127_l6 (fuel:Nat) (x0:Int) (x1:List Int) (y5:Int) (y17:List Int) (y13:List Int) (y18:Int) (y6:Int):Nat→(List Int)→Int→Option (List Int)
  | 0,_,_=>none
  | n7 + 1,y19,y9 =>
    let k4:(List Int)→Int→Option (List Int):=F127_l6 fuel x0 x1 y5 y17 y13 y18 y6 n7
    (cond (decide (y9<(y13.length:Int))) (F127_l7 fuel k4 x0 x1 y5 y6 y9 fuel y19 y9) (F127_l8 fuel y17 y13 y18 y19 fuel 20))
def F127_l3 (fuel:Nat) (x0:Int) (x1:List Int) (y5:Int) (y17:List Int) (y13:List Int) (y18:Int):Nat→(List Int)→Int→Int→Option (List Int)
  | 0,_,_,_=>none
  | n8 + 1,y20,y6,y7 =>
    let k3:(List Int)→Int→Int→Option (List Int):=F127_l3 fuel x0 x1 y5 y17 y13 y18 n8
    (cond (decide (y7≤(y13.length:Int))) (F127_l4 fuel k3 x0 x1 y5 y6 y7 fuel y20 (w64 (y6 + (1:Int)))) (F127_l6 fuel x0 x1 y5 y17 y13 y18 y6 fuel y20 (w64 (y6 + (1:Int)))))
def F127_l2 (fuel:Nat) (x0:Int) (x1:List Int) (y5:Int):Nat→(List Int)→(List Int)→Int→Int→Option (List Int)
  | 0,_,_,_,_=>none
  | n9 + 1,y17,y13,y18,y21 =>
    let k9:(List Int)→(List Int)→Int→Int→Option (List Int):=F127_l2 fuel x0 x1 y5 n9
    (cond (decide (y21<(x1.length:Int))) ((getI x1 y21).bind fun p20=>((nz y5).bind fun _=>((getI y17 y21).bind fun p21=>((setI y17 y21 (w64 (Int.tdiv (w64 (x0 * p20)) y5))).bind fun d7=>((getI y13 y21).bind fun p22=>((setI y13 y21 y21).bind fun d8=>((getI d7 y21).bind fun p23=>(k9 d7 d8 (w64 (y18 - p23)) (w64 (y21 + (1:Int))))))))))) (F127_l3 fuel x0 x1 y5 y17 y13 y18 fuel y13 0 20))
def F127_j1 (fuel:Nat) (x0:Int) (x1:List Int) (y5:Int) (y22:List Int):Option (List Int) :=
  (cond (y5 == (0:Int)) (some (y22)) (F127_l2 fuel x0 x1 y5 fuel y22 y22 x0 0))
def F127_l1 (fuel:Nat) (x0:Int) (x1:List Int):Nat→Int→Int→Option (List Int)
  | 0,_,_=>none
  | n10 + 1,y5,y23 =>
    let k10:Int→Int→Option (List Int):=F127_l1 fuel x0 x1 n10
    (cond (decide (y23<(x1.length:Int))) ((getI x1 y23).bind fun p24=>(k10 (w64 (y5 + p24)) (w64 (y23 + (1:Int))))) ((mkC (x1.length:Int) (0:Int)).bind fun d9=>(F127_j1 fuel x0 x1 y5 d9)))
def F127 (fuel:Nat) (x0:Int) (x1:List Int):Option (List Int) :=
  (F127_l1 fuel x0 x1 fuel 0 0)
set_option maxRecDepth 100000 in
theorem f127_ok (fuel:Nat) (x0:Int) (x1:List Int) (r:List Int) (hr:F127 fuel x0 x1=some r) (h:Zone) (L:List Atom) (w:World) (hS:St h L w) (o_x1:Option Addr) (c_x1:Nat) (hx_x1:SliceR Ty.int h o_x1 c_x1 x1) :
    Calls Try.prog 127 #[vI x0, .slice o_x1 x1.length c_x1] w fun e w'=>∃v,e= .returned v∧(∃h',∃o0:Option Addr,∃c0:Nat,Zone.le h h'∧v= .slice o0 r.length c0∧St h' L w'∧SliceR Ty.int h' o0 c0 r):=by
 refine calls_intro (N:=80) Try.func127 (by kernel_rfl) fun a hf=>?_
 refine c_sr ?_
 refine c_box [vI x0] 3 hS hf fun b1 ww1 a1 hS1 hf1=>⟨fun _=>trivial,?_⟩
 refine c_box [.slice o_x1 x1.length c_x1] 53 hS1 hf1 fun b2 ww2 a2 hS2 hf2=>⟨fun _=>trivial,?_⟩
 refine c_t [] [2,3] hf2 .nil fun a3 hf3=>?_
 refine c_sr ?_
 refine c_box [vI 0] 3 hS2 hf3 fun b3 ww3 a4 hS3 hf4=>⟨fun _=>trivial,?_⟩
 refine c_st 0 [vI 0] hS3 hf4 rfl fun ww4 a5 hS4 hf5=>⟨fun _=>trivial,?_⟩
 refine c_dt ?_
 refine c_seq ?_
 refine c_sq [.slice o_x1 x1.length c_x1] [2,3,5,15,16,17] hf5 (.cell (hS4.box (i:=1) rfl (j:=0) rfl) .nil) fun a6 hf6=>?_
 refine c_block 0 ?_
 refine c_loop (fun n a w=>∃z1:Zone,∃y5:Int,∃y23:Int,Zone.le h z1∧Fr a 80 [(2,pB b1 0),(3,pB b2 0),(5,pB b3 0),(15, .slice o_x1 x1.length c_x1),(16,vI (x1.length:Int)),(17,vI y23)]∧St z1 (box b3 [vI y5] 3::box b2 [.slice o_x1 x1.length c_x1] 53::box b1 [vI x0] 3::L) w∧(F127_l1 fuel x0 x1 n y5 y23)=some r) fuel ⟨h,0,0,zr,hf6.to,hS4,hr⟩ ?_
 rintro n11 a7 ww5 ⟨z1,y5,y23,k11,hf8,hS5,hr1⟩
 cases n11 with
 | zero=>cases hr1
 | succ n10 =>
 refine c_sq [] [2,3,5,15,16,17,18] hf8 .nil fun a8 hf9=>?_
 refine c_seq ?_
 refine c_if (decide (y23<(x1.length:Int))) hf9 (fun hb1=>?_) (fun hb1=>?_)
 ·have hr2:=cond_t hb1 hr1
  refine c_skip ?_
  refine n_then ?_
  refine c_seq ?_
  refine c_block 1 ?_
  obtain ⟨p24,hp395,hr3⟩:=bind_some hr2
  obtain ⟨ad1,ho1,hb2,cc1,hc1,hk1⟩:=SliceR.getI (SliceR.mono k11 hx_x1) hp395
  subst hc1
  refine c_sq [.pointer (some ad1),vI p24] [2,3,5,7,15,16,17] hf9 (.prop ho1 (.prop hb2 (.cell (hS5.cell (hk1 0 _ rfl)) .nil))) fun a9 hf10=>?_
  refine c_reg ?_
  refine c_n 3 [vI y5] [2,3,5,15,16,17,23] hf10 (.cell (hS5.box (i:=0) rfl (j:=0) rfl) .nil) fun a10 hf11=>?_
  refine c_st 0 [vI (w64 (y5 + p24))] hS5 hf11 rfl fun ww6 a11 hS6 hf12=>⟨fun _=>trivial,?_⟩
  refine c_done ?_
  refine n_block ?_
  refine n_then ?_
  refine c_q [] [2,3,5,15,16,17] hf12 .nil fun a12 hf13=>?_
  refine n_then ?_
  exact ⟨n10,Nat.lt_succ_self n10,z1,(w64 (y5 + p24)),(w64 (y23 + (1:Int))),k11,hf13.to,hS6,hr3⟩
 ·have hr4:=cond_f hb1 hr1
  refine c_exit 0 ?_
  refine x_then ?_
  refine x_then ?_
  refine x_block ?_
  refine n_then ?_
  refine c_mid (fun a w=>∃z2:Zone,∃y22:List Int,∃e1:Option Addr,∃q1:Nat,∃e2:Option Addr,Zone.le z1 z2∧Fr a 80 [(2,pB b1 0),(3,pB b2 0),(5,pB b3 0),(8, .slice e1 y22.length q1),(9, .slice e2 y22.length q1),(10,vI x0)]∧St z2 (ownS Ty.int 3 e1 q1 y22::ownS Ty.int 3 e2 q1 y22::box b3 [vI y5] 3::box b2 [.slice o_x1 x1.length c_x1] 53::box b1 [vI x0] 3::L) w∧(F127_j1 fuel x0 x1 y5 y22)=some r) ?_ ?_
  ·skip
   have hS7:=hS5.drew
   have s1:=Sub.of zr hS7
   refine w_regB (by kernel_rfl) [] (Sub z1 (box b3 [vI y5] 3::box b2 [.slice o_x1 x1.length c_x1] 53::box b1 [vI x0] 3::L)) (by kernel_rfl) ?_
   refine k_seg' 5 [(0,true),(1,true),(3,true),(4,true),(6,true)] (by kernel_rfl) (by kernel_rfl) (At.start s1) (by kernel_rfl) ?_
   refine c_S 5 [.slice o_x1 x1.length c_x1, .slice o_x1 x1.length c_x1,vI x0] [2,3,5,26,29,31] s1 hf9 (fun _ s=>(.cell (s.box (i:=1) rfl (j:=0) rfl) (.cell (s.box (i:=1) rfl (j:=0) rfl) (.cell (s.box (i:=2) rfl (j:=0) rfl) .nil)))) .nil fun a13 hf15=>?_
   refine c_done ?_
   intro hA1
   refine k_any' 4 [2,5] (by kernel_rfl) hA1 (by kernel_rfl) (by kernel_rfl) ?_
   refine (all_cons ?_ (all_cons ?_ all_nil))
   ·skip
    obtain ⟨d9,hd1,hr5⟩:=bind_some hr4
    refine p_make (T:=Ty.int) (i:=2) (d:=some 27) (x0:=(0:Int)) el53 hS7 hf15 (by kernel_rfl) rfl hd1 fun e3 ww7 a14 hS8 hf16=>⟨fun _=>Sub.of zr (St.drop 1 hS8),?_⟩
    refine c_done ?_
    intro hA2
    have s2:=Sub.of zr (St.drop 1 hS8)
    refine k_seg' 0 [(7,true),(5,false),(8,true),(9,true)] (by kernel_rfl) (by kernel_rfl) hA2 (by kernel_rfl) ?_
    refine c_S 1 [] [2,3,5,8,29,31] s2 hf16 (fun _ s=> .nil) .nil fun a15 hf17=>?_
    refine p_make (T:=Ty.int) (i:=5) (d:=some 30) (x0:=(0:Int)) el53 hS8 hf17 (by kernel_rfl) rfl hd1 fun e4 ww8 a16 hS9 hf18=>⟨fun _=>Sub.of zr (St.drop 2 hS9),?_⟩
    have s3:=Sub.of zr (St.drop 2 hS9)
    refine c_S 2 [] [2,3,5,8,9,10] s3 hf18 (fun _ s=> .nil) .nil fun a17 hf19=>?_
    refine c_done ?_
    intro hA3
    refine k_done' (by kernel_rfl) (by kernel_rfl) ?_
    refine n_then ?_
    exact ⟨z1,d9,(some e3),d9.length,(some e4),zr,hf19.to,(St.pick 2 [1,0] hS9 (by kernel_rfl)),hr5⟩
   ·skip
    obtain ⟨d10,hd2,hr6⟩:=bind_some hr4
    refine p_make (T:=Ty.int) (i:=5) (d:=some 30) (x0:=(0:Int)) el53 hS7 hf15 (by kernel_rfl) rfl hd2 fun e5 ww9 a18 hS10 hf21=>⟨fun _=>Sub.of zr (St.drop 1 hS10),?_⟩
    refine c_done ?_
    intro hA4
    have s4:=Sub.of zr (St.drop 1 hS10)
    refine k_seg' 0 [(2,false),(7,true),(8,true),(9,true)] (by kernel_rfl) (by kernel_rfl) hA4 (by kernel_rfl) ?_
    refine p_make (T:=Ty.int) (i:=2) (d:=some 27) (x0:=(0:Int)) el53 hS10 hf21 (by kernel_rfl) rfl hd2 fun e6 ww10 a19 hS11 hf22=>⟨fun _=>Sub.of zr (St.drop 2 hS11),?_⟩
    have s5:=Sub.of zr (St.drop 2 hS11)
    refine c_S 3 [] [2,3,5,8,9,10] s5 hf22 (fun _ s=> .nil) .nil fun a20 hf23=>?_
    refine c_done ?_
    intro hA5
    refine k_done' (by kernel_rfl) (by kernel_rfl) ?_
    refine n_then ?_
    exact ⟨z1,d10,(some e6),d10.length,(some e5),zr,hf23.to,(St.pick 2 [0,1] hS11 (by kernel_rfl)),hr6⟩
  ·rintro a21 ww11 ⟨z2,y22,e1,q1,e2,k12,hf25,hS12,hr7⟩
   refine c_seq ?_
   refine c_sq [vI y5] [2,3,5,8,9,10,33] hf25 (.cell (hS12.box (i:=2) rfl (j:=0) rfl) .nil) fun a22 hf26=>?_
   refine c_if (y5 == (0:Int)) hf26 (fun hb3=>?_) (fun hb3=>?_)
   ·have hr8:=cond_t hb3 hr7
    refine c_sq [] [4] hf26 .nil fun a23 hf27=>?_
    refine c_ret ?_
    refine r_then ?_
    obtain ⟨z3,k13,hS13,hx1⟩:=hS12.share (j:=0) rfl
    refine c_rt [] (.slice e1 y22.length q1) hf27 .nil ?_
    obtain rfl:=some_eq hr8
    exact ⟨_,rfl,z3,e1,q1,(zt (zt k11 k12) k13),rfl,(St.drop 5 hS13),hx1⟩
   ·have hr9:=cond_f hb3 hr7
    refine c_skip ?_
    refine n_then ?_
    refine c_seq ?_
    refine c_sq [.slice o_x1 x1.length c_x1] [2,3,5,8,9,10,35,36,37] hf26 (.cell (hS12.box (i:=3) rfl (j:=0) rfl) .nil) fun a24 hf28=>?_
    refine c_block 2 ?_
    refine c_loop (fun n a w=>∃z4:Zone,∃y17:List Int,∃y13:List Int,∃y18:Int,∃y21:Int,Zone.le z2 z4∧Fr a 80 [(2,pB b1 0),(3,pB b2 0),(5,pB b3 0),(8, .slice e1 y17.length q1),(9, .slice e2 y13.length q1),(10,vI y18),(35, .slice o_x1 x1.length c_x1),(36,vI (x1.length:Int)),(37,vI y21)]∧St z4 (ownS Ty.int 3 e1 q1 y17::ownS Ty.int 3 e2 q1 y13::box b3 [vI y5] 3::box b2 [.slice o_x1 x1.length c_x1] 53::box b1 [vI x0] 3::L) w∧y17.length=y22.length∧y13.length=y22.length∧(F127_l2 fuel x0 x1 y5 n y17 y13 y18 y21)=some r) fuel ⟨z2,y22,y22,x0,0,zr,hf28.to,hS12,rfl,rfl,hr9⟩ ?_
    rintro n12 a25 ww12 ⟨z4,y17,y13,y18,y21,k14,hf30,hS14,hl1,hl2,hr10⟩
    cases n12 with
    | zero=>cases hr10
    | succ n9 =>
    refine c_sq [] [2,3,5,8,9,10,35,36,37,38] hf30 .nil fun a26 hf31=>?_
    refine c_seq ?_
    refine c_if (decide (y21<(x1.length:Int))) hf31 (fun hb4=>?_) (fun hb4=>?_)
    ·have hr11:=cond_t hb4 hr10
     refine c_skip ?_
     refine n_then ?_
     refine c_seq ?_
     refine c_block 3 ?_
     obtain ⟨p20,hp1729,hr12⟩:=bind_some hr11
     obtain ⟨ad2,ho2,hb5,cc2,hc2,hk2⟩:=SliceR.getI (SliceR.mono (zt (zt k11 k12) k14) hx_x1) hp1729
     subst hc2
     refine c_sq [.pointer (some ad2),vI p20] [2,3,5,8,9,10,11,12,35,36,37] hf31 (.prop ho2 (.prop hb5 (.cell (hS14.cell (hk2 0 _ rfl)) .nil))) fun a27 hf32=>?_
     refine c_sr ?_
     obtain ⟨u1,hd3,hr13⟩:=bind_some hr12
     obtain ⟨p21,hp1743,hr14⟩:=bind_some hr13
     obtain ⟨ad3,ho3,hb6,cc3,hc3,hk3⟩:=hS14.ownGet (j:=0) rfl hp1743
     subst hc3
     refine c_n 11 [vI x0,vI y5, .pointer (some ad3)] [2,3,5,8,9,10,11,35,36,37,44,45,50,51,52] hf32 (.cell (hS14.box (i:=4) rfl (j:=0) rfl) (.cell (hS14.box (i:=2) rfl (j:=0) rfl) (.prop (nz_spec hd3) (.prop ho3 (.prop hb6 .nil))))) fun a28 hf33=>?_
     obtain ⟨d7,hd4,hr15⟩:=bind_some hr14
     have hl3:=setI_len hd4
     refine p_setOwnI (i:=11) (j:=0) (ad:=ad3) (ix:=y21) (x':=(w64 (Int.tdiv (w64 (x0 * p20)) y5))) hS14 hf33 rfl ho3 (by kernel_rfl) hd4 fun ww13 a29 hS15 hf34=>?_
     have hf35:=Fr.conv (fl':=[(2,pB b1 0),(3,pB b2 0),(5,pB b3 0),(8, .slice e1 d7.length q1),(9, .slice e2 y13.length q1),(10,vI y18),(11,vI y21),(35, .slice o_x1 x1.length c_x1),(36,vI (x1.length:Int)),(37,vI y21),(44, .slice e2 y13.length q1),(45,vI y21),(50,vI (w64 (Int.tdiv (w64 (x0 * p20)) y5))),(51,vI y21),(52, .pointer (some (ad3.add (Int.toNat y21 * 1))))]) hf34 (by rw [hl3] <;> kernel_rfl)
     refine ⟨fun _=>trivial,?_⟩
     obtain ⟨p22,hp1763,hr16⟩:=bind_some hr15
     obtain ⟨ad4,ho4,hb7,cc4,hc4,hk4⟩:=hS15.ownGet (j:=1) rfl hp1763
     subst hc4
     refine c_n 1 [.pointer (some ad4)] [2,3,5,8,9,10,11,35,36,37,51,53] hf35 (.prop ho4 (.prop hb7 .nil)) fun a30 hf36=>?_
     obtain ⟨d8,hd5,hr17⟩:=bind_some hr16
     have hl4:=setI_len hd5
     refine p_setOwnI (i:=13) (j:=1) (ad:=ad4) (ix:=y21) (x':=y21) hS15 hf36 rfl ho4 (by kernel_rfl) hd5 fun ww14 a31 hS16 hf37=>?_
     have hf38:=Fr.conv (fl':=[(2,pB b1 0),(3,pB b2 0),(5,pB b3 0),(8, .slice e1 d7.length q1),(9, .slice e2 d8.length q1),(10,vI y18),(11,vI y21),(35, .slice o_x1 x1.length c_x1),(36,vI (x1.length:Int)),(37,vI y21),(51,vI y21),(53, .pointer (some (ad4.add (Int.toNat y21 * 1))))]) hf37 (by rw [hl4] <;> kernel_rfl)
     refine ⟨fun _=>trivial,?_⟩
     refine c_dt ?_
     obtain ⟨p23,hp1783,hr18⟩:=bind_some hr17
     obtain ⟨ad5,ho5,hb8,cc5,hc5,hk5⟩:=hS16.ownGet (j:=0) rfl hp1783
     subst hc5
     refine c_q [.pointer (some ad5),vI p23] [2,3,5,8,9,10,35,36,37] hf38 (.prop ho5 (.prop hb8 (.cell (hk5 0 _ rfl) .nil))) fun a32 hf39=>?_
     refine n_block ?_
     refine n_then ?_
     refine c_q [] [2,3,5,8,9,10,35,36,37] hf39 .nil fun a33 hf40=>?_
     refine n_then ?_
     exact ⟨n9,Nat.lt_succ_self n9,z4,d7,d8,(w64 (y18 - p23)),(w64 (y21 + (1:Int))),k14,hf40.to,hS16,(hl3.symm.trans hl1),(hl4.symm.trans hl2),hr18⟩
    ·have hr19:=cond_f hb4 hr10
     refine c_exit 2 ?_
     refine x_then ?_
     refine x_then ?_
     refine x_block ?_
     refine n_then ?_
     refine c_sr ?_
     refine c_n 2 [] [8,9,10,61,62] hf31 .nil fun a34 hf42=>?_
     refine p_inl (i:=2) (d:=some 63) (f:=144) (args:= #[.slice e2 y13.length q1, .func (.func 145) #[] #[pB b1 0,pB b2 0,pB b3 0]]) (N':=9) hf42 (by kernel_rfl) Try.func144 (by kernel_rfl) fun a35 hf43=>?_
     refine c_reg ?_
     refine c_n 4 [] [4,6,7] hf43 .nil fun a36 hf44=>?_
     refine p_inl (i:=4) (d:=some 8) (f:=153) (args:= #[.slice e2 y13.length q1,vI (y13.length:Int), .func (.func 145) #[] #[pB b1 0,pB b2 0,pB b3 0]]) (N':=63) hf44 (by kernel_rfl) Try.func153 (by kernel_rfl) fun a37 hf45=>?_
     refine c_sq [] [0,1,2,6] hf45 .nil fun a38 hf46=>?_
     refine c_sq [] [0,1,2,6,7,8] hf46 .nil fun a39 hf47=>?_
     refine c_seq ?_
     refine c_block 0 ?_
     refine c_loop (fun n a w=>∃z5:Zone,∃y20:List Int,∃y6:Int,∃y7:Int,Zone.le z4 z5∧Fr a 63 [(0, .slice e2 y20.length q1),(1,vI (y13.length:Int)),(2, .func (.func 145) #[] #[pB b1 0,pB b2 0,pB b3 0]),(6,vI 20),(7,vI y6),(8,vI y7)]∧St z5 (ownS Ty.int 3 e1 q1 y17::ownS Ty.int 3 e2 q1 y20::box b3 [vI y5] 3::box b2 [.slice o_x1 x1.length c_x1] 53::box b1 [vI x0] 3::L) w∧y20.length=y22.length∧(F127_l3 fuel x0 x1 y5 y17 y13 y18 n y20 y6 y7)=some r) fuel ⟨z4,y13,0,20,zr,hf47.to,hS14,hl2,hr19⟩ ?_
     rintro n13 a40 ww15 ⟨z5,y20,y6,y7,k15,hf49,hS17,hl5,hr20⟩
     cases n13 with
     | zero=>cases hr20
     | succ n8 =>
     refine c_seq ?_
     refine c_sq [] [0,1,2,6,7,8,13] hf49 .nil fun a41 hf50=>?_
     refine c_if (decide (y7≤(y13.length:Int))) hf50 (fun hb9=>?_) (fun hb9=>?_)
     ·have hr21:=cond_t hb9 hr20
      refine c_skip ?_
      refine n_then ?_
      refine c_block 1 ?_
      refine c_sr ?_
      refine c_n 4 [] [0,1,2,6,8,14,15,16,17] hf50 .nil fun a42 hf51=>?_
      refine p_inl (i:=4) (d:=some 18) (f:=155) (args:= #[.slice e2 y20.length q1,vI y6,vI y7, .func (.func 145) #[] #[pB b1 0,pB b2 0,pB b3 0]]) (N':=53) hf51 (by kernel_rfl) Try.func155 (by kernel_rfl) fun a43 hf52=>?_
      refine c_sq [] [0,1,2,3,8] hf52 .nil fun a44 hf53=>?_
      refine c_block 0 ?_
      refine c_loop (fun n a w=>∃z6:Zone,∃y8:List Int,∃y1:Int,Zone.le z5 z6∧Fr a 53 [(0, .slice e2 y8.length q1),(1,vI y6),(2,vI y7),(3, .func (.func 145) #[] #[pB b1 0,pB b2 0,pB b3 0]),(8,vI y1)]∧St z6 (ownS Ty.int 3 e1 q1 y17::ownS Ty.int 3 e2 q1 y8::box b3 [vI y5] 3::box b2 [.slice o_x1 x1.length c_x1] 53::box b1 [vI x0] 3::L) w∧y8.length=y22.length∧(F127_l4 fuel (F127_l3 fuel x0 x1 y5 y17 y13 y18 n8) x0 x1 y5 y6 y7 n y8 y1)=some r) fuel ⟨z5,y20,(w64 (y6 + (1:Int))),zr,hf53.to,hS17,hl5,hr21⟩ ?_
      rintro n14 a45 ww16 ⟨z6,y8,y1,k16,hf55,hS18,hl6,hr22⟩
      cases n14 with
      | zero=>cases hr22
      | succ n2 =>
      refine c_seq ?_
      refine c_sq [] [0,1,2,3,8,14] hf55 .nil fun a46 hf56=>?_
      refine c_if (decide (y1<y7)) hf56 (fun hb10=>?_) (fun hb10=>?_)
      ·have hr23:=cond_t hb10 hr22
       refine c_skip ?_
       refine n_then ?_
       refine c_seq ?_
       refine c_block 1 ?_
       refine c_sq [] [0,1,2,3,8,9] hf56 .nil fun a47 hf57=>?_
       refine c_block 2 ?_
       refine c_loop (fun n a w=>∃z7:Zone,∃y2:List Int,∃y3:Int,Zone.le z6 z7∧Fr a 53 [(0, .slice e2 y2.length q1),(1,vI y6),(2,vI y7),(3, .func (.func 145) #[] #[pB b1 0,pB b2 0,pB b3 0]),(8,vI y1),(9,vI y3)]∧St z7 (ownS Ty.int 3 e1 q1 y17::ownS Ty.int 3 e2 q1 y2::box b3 [vI y5] 3::box b2 [.slice o_x1 x1.length c_x1] 53::box b1 [vI x0] 3::L) w∧y2.length=y22.length∧(F127_l5 fuel (F127_l4 fuel (F127_l3 fuel x0 x1 y5 y17 y13 y18 n8) x0 x1 y5 y6 y7 n2) x0 x1 y5 y6 y1 n y2 y3)=some r) fuel ⟨z6,y8,y1,zr,hf57.to,hS18,hl6,hr23⟩ ?_
       rintro n15 a48 ww17 ⟨z7,y2,y3,k17,hf59,hS19,hl7,hr24⟩
       cases n15 with
       | zero=>cases hr24
       | succ n1 =>
       refine c_seq ?_
       refine c_mid (fun a w=>∃z8:Zone,∃y4:Bool,Zone.le z7 z8∧Fr a 53 [(0, .slice e2 y2.length q1),(1,vI y6),(2,vI y7),(3, .func (.func 145) #[] #[pB b1 0,pB b2 0,pB b3 0]),(8,vI y1),(9,vI y3),(34, .bool y4)]∧St z8 (ownS Ty.int 3 e1 q1 y17::ownS Ty.int 3 e2 q1 y2::box b3 [vI y5] 3::box b2 [.slice o_x1 x1.length c_x1] 53::box b1 [vI x0] 3::L) w∧(F127_j2 (F127_l4 fuel (F127_l3 fuel x0 x1 y5 y17 y13 y18 n8) x0 x1 y5 y6 y7 n2) (F127_l5 fuel (F127_l4 fuel (F127_l3 fuel x0 x1 y5 y17 y13 y18 n8) x0 x1 y5 y6 y7 n2) x0 x1 y5 y6 y1 n1) y1 y2 y3 y4)=some r) ?_ ?_
       ·skip
        have hS20:=hS19.drew
        refine c_regD [(0,true),(1,true),(2,true),(3,true),(4,true),(5,true),(6,true),(7,true),(8,true),(9,true),(10,true),(11,true),(12,true),(13,true),(14,false),(15,true),(16,true)] [14] (fun x=>x=ww17.drew) rfl ?_
        refine c_E 4 [] [0,1,2,3,8,9,21] hf59 .nil .nil fun a49 hf60=>?_
        rcases bft (decide (y3 > y6)) with hb11 | hb11
        ·have hr25:=cond_t hb11 hr24
         have hf61:=hf60.lit 21 hb11
         obtain ⟨p5,hp1485735,hr26⟩:=bind_some hr25
         obtain ⟨ad6,ho6,hb12,cc6,hc6,hk6⟩:=hS20.ownGet (j:=1) rfl hp1485735
         subst hc6
         obtain ⟨p6,hp1485744,hr27⟩:=bind_some hr26
         obtain ⟨ad7,ho7,hb13,cc7,hc7,hk7⟩:=hS20.ownGet (j:=1) rfl hp1485744
         subst hc7
         refine c_E 10 [.pointer (some ad6),vI p5, .pointer (some ad7),vI p6] [0,1,2,3,8,9,21,22,23,24,25,26,27,28,29,30,31] hf61 (.prop ho6 (.prop hb12 (.cell (hk6 0 _ rfl) (.prop ho7 (.prop hb13 (.cell (hk7 0 _ rfl) .nil)))))) .nil fun a50 hf62=>?_
         refine p_inl (i:=14) (d:=some 32) (f:=145) (args:= #[vI p5,vI p6,pB b1 0,pB b2 0,pB b3 0]) (N':=25) hf62 (by kernel_rfl) Try.func145 (by kernel_rfl) fun a51 hf63=>?_
         refine c_sq [] [0,1,2,3,4] hf63 .nil fun a52 hf64=>?_
         refine c_seq ?_
         have hS21:=hS20.drew
         refine c_regD [(0,true),(1,true),(2,true),(3,true),(4,true),(5,true),(6,true),(7,true),(8,true),(9,true),(10,true),(11,true),(12,true),(13,true),(14,true),(15,true),(16,false),(17,true)] [16] (fun x=>x=(ww17.drew).drew) rfl ?_
         obtain ⟨p7,hp1485808,hr28⟩:=bind_some hr27
         obtain ⟨ad8,ho8,hb14,cc8,hc8,hk8⟩:=SliceR.getI (SliceR.mono (zt (zt (zt (zt (zt k11 k12) k14) k15) k16) k17) hx_x1) hp1485808
         subst hc8
         obtain ⟨u2,hd6,hr29⟩:=bind_some hr28
         obtain ⟨p8,hp1485820,hr30⟩:=bind_some hr29
         obtain ⟨ad9,ho9,hb15,cc9,hc9,hk9⟩:=SliceR.getI (SliceR.mono (zt (zt (zt (zt (zt k11 k12) k14) k15) k16) k17) hx_x1) hp1485820
         subst hc9
         obtain ⟨u3,hd7,hr31⟩:=bind_some hr30
         refine c_E 16 [vI x0, .slice o_x1 x1.length c_x1, .pointer (some ad8),vI p7,vI y5,vI x0, .slice o_x1 x1.length c_x1, .pointer (some ad9),vI p8,vI y5] [15,23] hf64 (.cell (hS21.box (i:=4) rfl (j:=0) rfl) (.cell (hS21.box (i:=3) rfl (j:=0) rfl) (.prop ho8 (.prop hb14 (.cell (hS21.cell (hk8 0 _ rfl)) (.cell (hS21.box (i:=2) rfl (j:=0) rfl) (.prop (nz_spec hd6) (.cell (hS21.box (i:=4) rfl (j:=0) rfl) (.cell (hS21.box (i:=3) rfl (j:=0) rfl) (.prop ho9 (.prop hb15 (.cell (hS21.cell (hk9 0 _ rfl)) (.cell (hS21.box (i:=2) rfl (j:=0) rfl) (.prop (nz_spec hd7) .nil)))))))))))))) .nil fun a53 hf65=>?_
         obtain ⟨r1,hd8,hr32⟩:=bind_some hr31
         refine c_call hf65 (f123_ok fuel (Int.tmod (w64 (x0 * p7)) y5) (Int.tmod (w64 (x0 * p8)) y5) r1 hd8 z7 _ _ hS21 ) ?_
         rintro v1 ww18 a54 ⟨rfl,hS22⟩ hf66
         refine ⟨fun e=>absurd e (by decide),?_⟩
         refine p_qP 1 [] [(7,vI r1)] [] hf66 (by kernel_rfl) (fun _=> .nil) fun a55 hf67=>?_
         refine c_dt ?_
         refine c_ret ?_
         refine c_rt [] (vI r1) hf67 .nil ?_
         refine ⟨_,rfl,fun a56 hf68=>?_⟩
         refine ⟨fun e=>absurd e (by decide),?_⟩
         refine p_qP 2 [] [(0, .slice e2 y2.length q1),(1,vI y6),(2,vI y7),(3, .func (.func 145) #[] #[pB b1 0,pB b2 0,pB b3 0]),(8,vI y1),(9,vI y3),(22, .func (.func 145) #[] #[pB b1 0,pB b2 0,pB b3 0]),(23, .slice e2 y2.length q1),(24,vI y3),(25, .pointer (some (ad6.add (Int.toNat y3 * 1)))),(26,vI p5),(27, .slice e2 y2.length q1),(28,vI y3),(29,vI (w64 (y3 - (1:Int)))),(30, .pointer (some (ad7.add (Int.toNat (w64 (y3 - (1:Int))) * 1)))),(31,vI p6),(32,vI r1),(33, .bool (decide (r1<(0:Int)))),(34, .bool (decide (r1<(0:Int))))] [] hf68 (by kernel_rfl) (fun _=> .nil) fun a57 hf69=>?_
         refine c_dt ?_
         exact ⟨z7,(decide (r1<(0:Int))),zr,hf69.to,hS22,hr32⟩
        ·have hr33:=cond_f hb11 hr24
         have hf71:=hf60.lit 21 hb11
         refine c_E 10 [] [0,1,2,3,8,9,21,22,23,24,25,26,27,28,29,30,31] hf71 .nil .nil fun a58 hf72=>?_
         refine p_qL 1 [] [(0, .slice e2 y2.length q1),(1,vI y6),(2,vI y7),(3, .func (.func 145) #[] #[pB b1 0,pB b2 0,pB b3 0]),(8,vI y1),(9,vI y3),(21, .bool false),(22,undef),(23,undef),(24,undef),(25,undef),(26,undef),(27,undef),(28,undef),(29,undef),(30,undef),(31,undef),(32,undef)] [] hf72 (by kernel_rfl) .nil fun a59 hf73=>?_
         refine c_tE [] [0,1,2,3,8,9,22,23,24,25,26,27,28,29,30,31,32,33,34] hf73 .nil .nil fun a60 hf74=>?_
         exact ⟨z7,false,zr,hf74.to,hS20,hr33⟩
       ·rintro a61 ww19 ⟨z8,y4,k18,hf76,hS23,hr34⟩
        refine c_if y4 hf76 (fun hb16=>?_) (fun hb16=>?_)
        ·have hr35:=cond_t hb16 hr34
         refine c_skip ?_
         refine n_then ?_
         refine c_seq ?_
         refine c_block 3 ?_
         have hS24:=hS23.drew
         refine c_regD [(0,true),(1,true),(2,true),(3,true),(4,true),(5,true),(6,true),(7,true),(8,true),(9,true),(10,true),(11,true),(12,true),(13,true),(14,true),(15,false),(16,true),(17,false)] [15,17] (fun x=>x=ww19.drew) rfl ?_
         obtain ⟨p1,hp1485926,hr36⟩:=bind_some hr35
         obtain ⟨ad10,ho10,hb17,cc10,hc10,hk10⟩:=hS24.ownGet (j:=1) rfl hp1485926
         subst hc10
         obtain ⟨p2,hp1485935,hr37⟩:=bind_some hr36
         obtain ⟨ad11,ho11,hb18,cc11,hc11,hk11⟩:=hS24.ownGet (j:=1) rfl hp1485935
         subst hc11
         obtain ⟨p3,hp1485944,hr38⟩:=bind_some hr37
         obtain ⟨ad12,ho12,hb19,cc12,hc12,hk12⟩:=hS24.ownGet (j:=1) rfl hp1485944
         subst hc12
         refine c_E 15 [.pointer (some ad10),vI p1, .pointer (some ad11),vI p2, .pointer (some ad12)] [0,1,2,3,8,9,39,41,46,50,51] hf76 (.prop ho10 (.prop hb17 (.cell (hk10 0 _ rfl) (.prop ho11 (.prop hb18 (.cell (hk11 0 _ rfl) (.prop ho12 (.prop hb19 .nil)))))))) .nil fun a62 hf77=>?_
         obtain ⟨d1,hd9,hr39⟩:=bind_some hr38
         have hl8:=setI_len hd9
         refine p_setOwnI (i:=15) (j:=1) (ad:=ad12) (ix:=y3) (x':=p1) hS24 hf77 rfl ho12 (by kernel_rfl) hd9 fun ww20 a63 hS25 hf78=>?_
         have hf79:=Fr.conv (fl':=[(0, .slice e2 d1.length q1),(1,vI y6),(2,vI y7),(3, .func (.func 145) #[] #[pB b1 0,pB b2 0,pB b3 0]),(8,vI y1),(9,vI y3),(39, .slice e2 d1.length q1),(41,vI (w64 (y3 - (1:Int)))),(46,vI p1),(50,vI p2),(51, .pointer (some (ad12.add (Int.toNat y3 * 1))))]) hf78 (by rw [hl8] <;> kernel_rfl)
         refine ⟨fun e=>absurd e (by decide),?_⟩
         obtain ⟨p4,hp1485964,hr40⟩:=bind_some hr39
         obtain ⟨ad13,ho13,hb20,cc13,hc13,hk13⟩:=hS25.ownGet (j:=1) rfl hp1485964
         subst hc13
         refine p_qP 1 [.pointer (some ad13)] [(0, .slice e2 d1.length q1),(1,vI y6),(2,vI y7),(3, .func (.func 145) #[] #[pB b1 0,pB b2 0,pB b3 0]),(8,vI y1),(9,vI y3),(50,vI p2),(52, .pointer (some (ad13.add (Int.toNat (w64 (y3 - (1:Int))) * 1))))] [.prop (e2=some ad13), .prop (0≤(w64 (y3 - (1:Int)))∧(w64 (y3 - (1:Int)))<(d1.length:Nat))] hf79 (by kernel_rfl) (fun _=>(.prop ho13 (.prop hb20 .nil))) fun a64 hf80=>?_
         obtain ⟨d2,hd10,hr41⟩:=bind_some hr40
         have hl9:=setI_len hd10
         refine p_setOwnI (i:=17) (j:=1) (ad:=ad13) (ix:=(w64 (y3 - (1:Int)))) (x':=p2) hS25 hf80 rfl ho13 (by kernel_rfl) hd10 fun ww21 a65 hS26 hf81=>?_
         have hf82:=Fr.conv (fl':=[(0, .slice e2 d2.length q1),(1,vI y6),(2,vI y7),(3, .func (.func 145) #[] #[pB b1 0,pB b2 0,pB b3 0]),(8,vI y1),(9,vI y3),(50,vI p2),(52, .pointer (some (ad13.add (Int.toNat (w64 (y3 - (1:Int))) * 1))))]) hf81 (by rw [hl9] <;> kernel_rfl)
         refine ⟨fun e=>absurd e (by decide),?_⟩
         refine c_done ?_
         refine n_block ?_
         refine n_then ?_
         refine c_q [] [0,1,2,3,8,9] hf82 .nil fun a66 hf83=>?_
         refine n_then ?_
         exact ⟨n1,Nat.lt_succ_self n1,z8,d2,(w64 (y3 - (1:Int))),(zt k17 k18),hf83.to,hS26,(hl9.symm.trans (hl8.symm.trans hl7)),hr41⟩
        ·have hr42:=cond_f hb16 hr34
         refine c_exit 2 ?_
         refine x_then ?_
         refine x_then ?_
         refine x_block ?_
         refine n_block ?_
         refine n_then ?_
         refine c_q [] [0,1,2,3,8] hf76 .nil fun a67 hf85=>?_
         refine n_then ?_
         exact ⟨n2,Nat.lt_succ_self n2,z8,y2,(w64 (y1 + (1:Int))),(zt (zt k16 k17) k18),hf85.to,hS23,hl7,hr42⟩
      ·have hr43:=cond_f hb10 hr22
       refine c_exit 0 ?_
       refine x_then ?_
       refine x_then ?_
       refine x_block ?_
       refine c_fall [] (.tuple #[]) hf56 .nil ?_
       refine ⟨_,rfl,fun a68 hf87=>?_⟩
       have hl10:y8.length=y20.length:=Eq.trans (b:=y22.length) hl6 (Eq.symm hl5)
       have hf88:=Fr.conv (fl':=[(18, .tuple #[]),(0, .slice e2 y8.length q1),(1,vI (y13.length:Int)),(2, .func (.func 145) #[] #[pB b1 0,pB b2 0,pB b3 0]),(6,vI 20),(8,vI y7),(14, .slice e2 y8.length q1),(15,vI y6),(16,vI y7),(17, .func (.func 145) #[] #[pB b1 0,pB b2 0,pB b3 0])]) hf87 (by rw [hl10] <;> kernel_rfl)
       refine ⟨fun _=>trivial,?_⟩
       refine c_dt ?_
       refine c_sq [] [0,1,2,6,7,8] hf88 .nil fun a69 hf89=>?_
       refine c_q [] [0,1,2,6,7,8] hf89 .nil fun a70 hf90=>?_
       refine n_block ?_
       refine n_then ?_
       exact ⟨n8,Nat.lt_succ_self n8,z6,y8,y7,(w64 (y7 + (20:Int))),(zt k15 k16),hf90.to,hS18,hl6,hr43⟩
     ·have hr44:=cond_f hb9 hr20
      refine c_exit 0 ?_
      refine x_then ?_
      refine x_then ?_
      refine x_block ?_
      refine n_then ?_
      refine c_sr ?_
      refine c_n 4 [] [0,1,2,6,23,24,25,26] hf50 .nil fun a71 hf92=>?_
      refine p_inl (i:=4) (d:=some 27) (f:=155) (args:= #[.slice e2 y20.length q1,vI y6,vI (y13.length:Int), .func (.func 145) #[] #[pB b1 0,pB b2 0,pB b3 0]]) (N':=53) hf92 (by kernel_rfl) Try.func155 (by kernel_rfl) fun a72 hf93=>?_
      refine c_sq [] [0,1,2,3,8] hf93 .nil fun a73 hf94=>?_
      refine c_block 0 ?_
      refine c_loop (fun n a w=>∃z9:Zone,∃y19:List Int,∃y9:Int,Zone.le z5 z9∧Fr a 53 [(0, .slice e2 y19.length q1),(1,vI y6),(2,vI (y13.length:Int)),(3, .func (.func 145) #[] #[pB b1 0,pB b2 0,pB b3 0]),(8,vI y9)]∧St z9 (ownS Ty.int 3 e1 q1 y17::ownS Ty.int 3 e2 q1 y19::box b3 [vI y5] 3::box b2 [.slice o_x1 x1.length c_x1] 53::box b1 [vI x0] 3::L) w∧y19.length=y22.length∧(F127_l6 fuel x0 x1 y5 y17 y13 y18 y6 n y19 y9)=some r) fuel ⟨z5,y20,(w64 (y6 + (1:Int))),zr,hf94.to,hS17,hl5,hr44⟩ ?_
      rintro n16 a74 ww22 ⟨z9,y19,y9,k19,hf96,hS27,hl11,hr45⟩
      cases n16 with
      | zero=>cases hr45
      | succ n7 =>
      refine c_seq ?_
      refine c_sq [] [0,1,2,3,8,14] hf96 .nil fun a75 hf97=>?_
      refine c_if (decide (y9<(y13.length:Int))) hf97 (fun hb21=>?_) (fun hb21=>?_)
      ·have hr46:=cond_t hb21 hr45
       refine c_skip ?_
       refine n_then ?_
       refine c_seq ?_
       refine c_block 1 ?_
       refine c_sq [] [0,1,2,3,8,9] hf97 .nil fun a76 hf98=>?_
       refine c_block 2 ?_
       refine c_loop (fun n a w=>∃z10:Zone,∃y10:List Int,∃y11:Int,Zone.le z9 z10∧Fr a 53 [(0, .slice e2 y10.length q1),(1,vI y6),(2,vI (y13.length:Int)),(3, .func (.func 145) #[] #[pB b1 0,pB b2 0,pB b3 0]),(8,vI y9),(9,vI y11)]∧St z10 (ownS Ty.int 3 e1 q1 y17::ownS Ty.int 3 e2 q1 y10::box b3 [vI y5] 3::box b2 [.slice o_x1 x1.length c_x1] 53::box b1 [vI x0] 3::L) w∧y10.length=y22.length∧(F127_l7 fuel (F127_l6 fuel x0 x1 y5 y17 y13 y18 y6 n7) x0 x1 y5 y6 y9 n y10 y11)=some r) fuel ⟨z9,y19,y9,zr,hf98.to,hS27,hl11,hr46⟩ ?_
       rintro n17 a77 ww23 ⟨z10,y10,y11,k20,hf100,hS28,hl12,hr47⟩
       cases n17 with
       | zero=>cases hr47
       | succ n3 =>
       refine c_seq ?_
       refine c_mid (fun a w=>∃z11:Zone,∃y12:Bool,Zone.le z10 z11∧Fr a 53 [(0, .slice e2 y10.length q1),(1,vI y6),(2,vI (y13.length:Int)),(3, .func (.func 145) #[] #[pB b1 0,pB b2 0,pB b3 0]),(8,vI y9),(9,vI y11),(34, .bool y12)]∧St z11 (ownS Ty.int 3 e1 q1 y17::ownS Ty.int 3 e2 q1 y10::box b3 [vI y5] 3::box b2 [.slice o_x1 x1.length c_x1] 53::box b1 [vI x0] 3::L) w∧(F127_j3 (F127_l6 fuel x0 x1 y5 y17 y13 y18 y6 n7) (F127_l7 fuel (F127_l6 fuel x0 x1 y5 y17 y13 y18 y6 n7) x0 x1 y5 y6 y9 n3) y9 y10 y11 y12)=some r) ?_ ?_
       ·skip
        have hS29:=hS28.drew
        refine c_regD [(0,true),(1,true),(2,true),(3,true),(4,true),(5,true),(6,true),(7,true),(8,true),(9,true),(10,true),(11,true),(12,true),(13,true),(14,false),(15,true),(16,true)] [14] (fun x=>x=ww23.drew) rfl ?_
        refine c_E 4 [] [0,1,2,3,8,9,21] hf100 .nil .nil fun a78 hf101=>?_
        rcases bft (decide (y11 > y6)) with hb22 | hb22
        ·have hr48:=cond_t hb22 hr47
         have hf102:=hf101.lit 21 hb22
         obtain ⟨p13,hp1528641,hr49⟩:=bind_some hr48
         obtain ⟨ad14,ho14,hb23,cc14,hc14,hk14⟩:=hS29.ownGet (j:=1) rfl hp1528641
         subst hc14
         obtain ⟨p14,hp1528650,hr50⟩:=bind_some hr49
         obtain ⟨ad15,ho15,hb24,cc15,hc15,hk15⟩:=hS29.ownGet (j:=1) rfl hp1528650
         subst hc15
         refine c_E 10 [.pointer (some ad14),vI p13, .pointer (some ad15),vI p14] [0,1,2,3,8,9,21,22,23,24,25,26,27,28,29,30,31] hf102 (.prop ho14 (.prop hb23 (.cell (hk14 0 _ rfl) (.prop ho15 (.prop hb24 (.cell (hk15 0 _ rfl) .nil)))))) .nil fun a79 hf103=>?_
         refine p_inl (i:=14) (d:=some 32) (f:=145) (args:= #[vI p13,vI p14,pB b1 0,pB b2 0,pB b3 0]) (N':=25) hf103 (by kernel_rfl) Try.func145 (by kernel_rfl) fun a80 hf104=>?_
         refine c_sq [] [0,1,2,3,4] hf104 .nil fun a81 hf105=>?_
         refine c_seq ?_
         have hS30:=hS29.drew
         refine c_regD [(0,true),(1,true),(2,true),(3,true),(4,true),(5,true),(6,true),(7,true),(8,true),(9,true),(10,true),(11,true),(12,true),(13,true),(14,true),(15,true),(16,false),(17,true)] [16] (fun x=>x=(ww23.drew).drew) rfl ?_
         obtain ⟨p15,hp1528714,hr51⟩:=bind_some hr50
         obtain ⟨ad16,ho16,hb25,cc16,hc16,hk16⟩:=SliceR.getI (SliceR.mono (zt (zt (zt (zt (zt k11 k12) k14) k15) k19) k20) hx_x1) hp1528714
         subst hc16
         obtain ⟨u4,hd11,hr52⟩:=bind_some hr51
         obtain ⟨p16,hp1528726,hr53⟩:=bind_some hr52
         obtain ⟨ad17,ho17,hb26,cc17,hc17,hk17⟩:=SliceR.getI (SliceR.mono (zt (zt (zt (zt (zt k11 k12) k14) k15) k19) k20) hx_x1) hp1528726
         subst hc17
         obtain ⟨u5,hd12,hr54⟩:=bind_some hr53
         refine c_E 16 [vI x0, .slice o_x1 x1.length c_x1, .pointer (some ad16),vI p15,vI y5,vI x0, .slice o_x1 x1.length c_x1, .pointer (some ad17),vI p16,vI y5] [15,23] hf105 (.cell (hS30.box (i:=4) rfl (j:=0) rfl) (.cell (hS30.box (i:=3) rfl (j:=0) rfl) (.prop ho16 (.prop hb25 (.cell (hS30.cell (hk16 0 _ rfl)) (.cell (hS30.box (i:=2) rfl (j:=0) rfl) (.prop (nz_spec hd11) (.cell (hS30.box (i:=4) rfl (j:=0) rfl) (.cell (hS30.box (i:=3) rfl (j:=0) rfl) (.prop ho17 (.prop hb26 (.cell (hS30.cell (hk17 0 _ rfl)) (.cell (hS30.box (i:=2) rfl (j:=0) rfl) (.prop (nz_spec hd12) .nil)))))))))))))) .nil fun a82 hf106=>?_
         obtain ⟨r2,hd13,hr55⟩:=bind_some hr54
         refine c_call hf106 (f123_ok fuel (Int.tmod (w64 (x0 * p15)) y5) (Int.tmod (w64 (x0 * p16)) y5) r2 hd13 z10 _ _ hS30 ) ?_
         rintro v2 ww24 a83 ⟨rfl,hS31⟩ hf107
         refine ⟨fun e=>absurd e (by decide),?_⟩
         refine p_qP 1 [] [(7,vI r2)] [] hf107 (by kernel_rfl) (fun _=> .nil) fun a84 hf108=>?_
         refine c_dt ?_
         refine c_ret ?_
         refine c_rt [] (vI r2) hf108 .nil ?_
         refine ⟨_,rfl,fun a85 hf109=>?_⟩
         refine ⟨fun e=>absurd e (by decide),?_⟩
         refine p_qP 2 [] [(0, .slice e2 y10.length q1),(1,vI y6),(2,vI (y13.length:Int)),(3, .func (.func 145) #[] #[pB b1 0,pB b2 0,pB b3 0]),(8,vI y9),(9,vI y11),(22, .func (.func 145) #[] #[pB b1 0,pB b2 0,pB b3 0]),(23, .slice e2 y10.length q1),(24,vI y11),(25, .pointer (some (ad14.add (Int.toNat y11 * 1)))),(26,vI p13),(27, .slice e2 y10.length q1),(28,vI y11),(29,vI (w64 (y11 - (1:Int)))),(30, .pointer (some (ad15.add (Int.toNat (w64 (y11 - (1:Int))) * 1)))),(31,vI p14),(32,vI r2),(33, .bool (decide (r2<(0:Int)))),(34, .bool (decide (r2<(0:Int))))] [] hf109 (by kernel_rfl) (fun _=> .nil) fun a86 hf110=>?_
         refine c_dt ?_
         exact ⟨z10,(decide (r2<(0:Int))),zr,hf110.to,hS31,hr55⟩
        ·have hr56:=cond_f hb22 hr47
         have hf112:=hf101.lit 21 hb22
         refine c_E 10 [] [0,1,2,3,8,9,21,22,23,24,25,26,27,28,29,30,31] hf112 .nil .nil fun a87 hf113=>?_
         refine p_qL 1 [] [(0, .slice e2 y10.length q1),(1,vI y6),(2,vI (y13.length:Int)),(3, .func (.func 145) #[] #[pB b1 0,pB b2 0,pB b3 0]),(8,vI y9),(9,vI y11),(21, .bool false),(22,undef),(23,undef),(24,undef),(25,undef),(26,undef),(27,undef),(28,undef),(29,undef),(30,undef),(31,undef),(32,undef)] [] hf113 (by kernel_rfl) .nil fun a88 hf114=>?_
         refine c_tE [] [0,1,2,3,8,9,22,23,24,25,26,27,28,29,30,31,32,33,34] hf114 .nil .nil fun a89 hf115=>?_
         exact ⟨z10,false,zr,hf115.to,hS29,hr56⟩
       ·rintro a90 ww25 ⟨z11,y12,k21,hf117,hS32,hr57⟩
        refine c_if y12 hf117 (fun hb27=>?_) (fun hb27=>?_)
        ·have hr58:=cond_t hb27 hr57
         refine c_skip ?_
         refine n_then ?_
         refine c_seq ?_
         refine c_block 3 ?_
         have hS33:=hS32.drew
         refine c_regD [(0,true),(1,true),(2,true),(3,true),(4,true),(5,true),(6,true),(7,true),(8,true),(9,true),(10,true),(11,true),(12,true),(13,true),(14,true),(15,false),(16,true),(17,false)] [15,17] (fun x=>x=ww25.drew) rfl ?_
         obtain ⟨p9,hp1528832,hr59⟩:=bind_some hr58
         obtain ⟨ad18,ho18,hb28,cc18,hc18,hk18⟩:=hS33.ownGet (j:=1) rfl hp1528832
         subst hc18
         obtain ⟨p10,hp1528841,hr60⟩:=bind_some hr59
         obtain ⟨ad19,ho19,hb29,cc19,hc19,hk19⟩:=hS33.ownGet (j:=1) rfl hp1528841
         subst hc19
         obtain ⟨p11,hp1528850,hr61⟩:=bind_some hr60
         obtain ⟨ad20,ho20,hb30,cc20,hc20,hk20⟩:=hS33.ownGet (j:=1) rfl hp1528850
         subst hc20
         refine c_E 15 [.pointer (some ad18),vI p9, .pointer (some ad19),vI p10, .pointer (some ad20)] [0,1,2,3,8,9,39,41,46,50,51] hf117 (.prop ho18 (.prop hb28 (.cell (hk18 0 _ rfl) (.prop ho19 (.prop hb29 (.cell (hk19 0 _ rfl) (.prop ho20 (.prop hb30 .nil)))))))) .nil fun a91 hf118=>?_
         obtain ⟨d3,hd14,hr62⟩:=bind_some hr61
         have hl13:=setI_len hd14
         refine p_setOwnI (i:=15) (j:=1) (ad:=ad20) (ix:=y11) (x':=p9) hS33 hf118 rfl ho20 (by kernel_rfl) hd14 fun ww26 a92 hS34 hf119=>?_
         have hf120:=Fr.conv (fl':=[(0, .slice e2 d3.length q1),(1,vI y6),(2,vI (y13.length:Int)),(3, .func (.func 145) #[] #[pB b1 0,pB b2 0,pB b3 0]),(8,vI y9),(9,vI y11),(39, .slice e2 d3.length q1),(41,vI (w64 (y11 - (1:Int)))),(46,vI p9),(50,vI p10),(51, .pointer (some (ad20.add (Int.toNat y11 * 1))))]) hf119 (by rw [hl13] <;> kernel_rfl)
         refine ⟨fun e=>absurd e (by decide),?_⟩
         obtain ⟨p12,hp1528870,hr63⟩:=bind_some hr62
         obtain ⟨ad21,ho21,hb31,cc21,hc21,hk21⟩:=hS34.ownGet (j:=1) rfl hp1528870
         subst hc21
         refine p_qP 1 [.pointer (some ad21)] [(0, .slice e2 d3.length q1),(1,vI y6),(2,vI (y13.length:Int)),(3, .func (.func 145) #[] #[pB b1 0,pB b2 0,pB b3 0]),(8,vI y9),(9,vI y11),(50,vI p10),(52, .pointer (some (ad21.add (Int.toNat (w64 (y11 - (1:Int))) * 1))))] [.prop (e2=some ad21), .prop (0≤(w64 (y11 - (1:Int)))∧(w64 (y11 - (1:Int)))<(d3.length:Nat))] hf120 (by kernel_rfl) (fun _=>(.prop ho21 (.prop hb31 .nil))) fun a93 hf121=>?_
         obtain ⟨d4,hd15,hr64⟩:=bind_some hr63
         have hl14:=setI_len hd15
         refine p_setOwnI (i:=17) (j:=1) (ad:=ad21) (ix:=(w64 (y11 - (1:Int)))) (x':=p10) hS34 hf121 rfl ho21 (by kernel_rfl) hd15 fun ww27 a94 hS35 hf122=>?_
         have hf123:=Fr.conv (fl':=[(0, .slice e2 d4.length q1),(1,vI y6),(2,vI (y13.length:Int)),(3, .func (.func 145) #[] #[pB b1 0,pB b2 0,pB b3 0]),(8,vI y9),(9,vI y11),(50,vI p10),(52, .pointer (some (ad21.add (Int.toNat (w64 (y11 - (1:Int))) * 1))))]) hf122 (by rw [hl14] <;> kernel_rfl)
         refine ⟨fun e=>absurd e (by decide),?_⟩
         refine c_done ?_
         refine n_block ?_
         refine n_then ?_
         refine c_q [] [0,1,2,3,8,9] hf123 .nil fun a95 hf124=>?_
         refine n_then ?_
         exact ⟨n3,Nat.lt_succ_self n3,z11,d4,(w64 (y11 - (1:Int))),(zt k20 k21),hf124.to,hS35,(hl14.symm.trans (hl13.symm.trans hl12)),hr64⟩
        ·have hr65:=cond_f hb27 hr57
         refine c_exit 2 ?_
         refine x_then ?_
         refine x_then ?_
         refine x_block ?_
         refine n_block ?_
         refine n_then ?_
         refine c_q [] [0,1,2,3,8] hf117 .nil fun a96 hf126=>?_
         refine n_then ?_
         exact ⟨n7,Nat.lt_succ_self n7,z11,y10,(w64 (y9 + (1:Int))),(zt (zt k19 k20) k21),hf126.to,hS32,hl12,hr65⟩
      ·have hr66:=cond_f hb21 hr45
       refine c_exit 0 ?_
       refine x_then ?_
       refine x_then ?_
       refine x_block ?_
       refine c_fall [] (.tuple #[]) hf97 .nil ?_
       refine ⟨_,rfl,fun a97 hf128=>?_⟩
       have hl15:y19.length=y20.length:=Eq.trans (b:=y22.length) hl11 (Eq.symm hl5)
       have hf129:=Fr.conv (fl':=[(27, .tuple #[]),(0, .slice e2 y19.length q1),(1,vI (y13.length:Int)),(2, .func (.func 145) #[] #[pB b1 0,pB b2 0,pB b3 0]),(6,vI 20),(23, .slice e2 y19.length q1),(24,vI y6),(25,vI (y13.length:Int)),(26, .func (.func 145) #[] #[pB b1 0,pB b2 0,pB b3 0])]) hf128 (by rw [hl15] <;> kernel_rfl)
       refine ⟨fun _=>trivial,?_⟩
       refine c_dt ?_
       refine c_block 2 ?_
       refine c_loop (fun n a w=>∃z12:Zone,∃y14:Int,Zone.le z9 z12∧Fr a 63 [(0, .slice e2 y19.length q1),(1,vI (y13.length:Int)),(2, .func (.func 145) #[] #[pB b1 0,pB b2 0,pB b3 0]),(6,vI y14)]∧St z12 (ownS Ty.int 3 e1 q1 y17::ownS Ty.int 3 e2 q1 y19::box b3 [vI y5] 3::box b2 [.slice o_x1 x1.length c_x1] 53::box b1 [vI x0] 3::L) w∧(F127_l8 fuel y17 y13 y18 y19 n y14)=some r) fuel ⟨z9,20,zr,hf129.to,hS27,hr66⟩ ?_
       rintro n18 a98 ww28 ⟨z12,y14,k22,hf131,hS36,hr67⟩
       cases n18 with
       | zero=>cases hr67
       | succ n6 =>
       refine c_seq ?_
       refine c_sq [] [0,1,2,6,30] hf131 .nil fun a99 hf132=>?_
       refine c_if (decide (y14<(y13.length:Int))) hf132 (fun hb32=>?_) (fun hb32=>?_)
       ·have hr68:=cond_t hb32 hr67
        refine c_skip ?_
        refine n_then ?_
        refine c_block 3 ?_
        refine c_sq [] [0,1,2,6,7,8] hf132 .nil fun a100 hf133=>?_
        refine c_seq ?_
        refine c_block 4 ?_
        refine c_loop (fun n a w=>∃z13:Zone,Zone.le z12 z13∧Fr a 63 [(0, .slice e2 y19.length q1),(1,vI (y13.length:Int)),(2, .func (.func 145) #[] #[pB b1 0,pB b2 0,pB b3 0]),(6,vI y14),(7,vI 0),(8,vI (w64 ((2:Int) * y14)))]∧St z13 (ownS Ty.int 3 e1 q1 y17::ownS Ty.int 3 e2 q1 y19::box b3 [vI y5] 3::box b2 [.slice o_x1 x1.length c_x1] 53::box b1 [vI x0] 3::L) w∧(F127_l9 (F127_l8 fuel y17 y13 y18 y19 n6) y13 y14 n)=some r) fuel ⟨z12,zr,hf133.to,hS36,hr68⟩ ?_
        rintro n19 a101 ww29 ⟨z13,k23,hf135,hS37,hr69⟩
        cases n19 with
        | zero=>cases hr69
        | succ n4 =>
        refine c_seq ?_
        refine c_sq [] [0,1,2,6,7,8,35] hf135 .nil fun a102 hf136=>?_
        refine c_if (decide ((w64 ((2:Int) * y14))≤(y13.length:Int))) hf136 (fun hb33=>?_) (fun hb33=>?_)
        ·have hr70:=cond_t hb33 hr69
         refine c_skip ?_
         refine n_then ?_
         refine c_block 5 ?_
         refine c_sr ?_
         refine c_n 7 [] [0,1,2,6,8,36,37,40,41,42] hf136 .nil fun a103 hf137=>?_
         cases hr70
        ·have hr71:=cond_f hb33 hr69
         refine c_exit 4 ?_
         refine x_then ?_
         refine x_then ?_
         refine x_block ?_
         refine n_then ?_
         refine c_seq ?_
         refine c_sq [] [0,1,2,6,7,9] hf136 .nil fun a104 hf138=>?_
         refine c_sq [] [0,1,2,6,7,9,54] hf138 .nil fun a105 hf139=>?_
         refine c_if (decide ((w64 ((0:Int) + y14))<(y13.length:Int))) hf139 (fun hb34=>?_) (fun hb34=>?_)
         ·have hr72:=cond_t hb34 hr71
          refine c_reg ?_
          refine c_n 5 [] [0,1,2,6,55,56,57,58,59] hf139 .nil fun a106 hf140=>?_
          cases hr72
         ·have hr73:=cond_f hb34 hr71
          refine c_skip ?_
          refine n_then ?_
          refine c_q [] [0,1,2,6] hf139 .nil fun a107 hf141=>?_
          refine n_block ?_
          refine n_then ?_
          exact ⟨n6,Nat.lt_succ_self n6,z13,(w64 (y14 * (2:Int))),(zt k22 k23),hf141.to,hS37,hr73⟩
       ·have hr74:=cond_f hb32 hr67
        refine c_exit 2 ?_
        refine x_then ?_
        refine x_then ?_
        refine x_block ?_
        refine c_fall [] (.tuple #[]) hf132 .nil ?_
        refine ⟨_,rfl,fun a108 hf143=>?_⟩
        have hl16:y19.length=y13.length:=Eq.trans (b:=y22.length) hl11 (Eq.symm hl2)
        have hf144:=Fr.conv (fl':=[(8, .tuple #[]),(4, .slice e2 y19.length q1),(6,vI (y13.length:Int)),(7, .func (.func 145) #[] #[pB b1 0,pB b2 0,pB b3 0])]) hf143 (by rw [hl16] <;> kernel_rfl)
        refine ⟨fun _=>trivial,?_⟩
        refine c_done ?_
        refine c_fall [] (.tuple #[]) hf144 .nil ?_
        refine ⟨_,rfl,fun a109 hf145=>?_⟩
        have hl17:y19.length=y13.length:=Eq.trans (b:=y22.length) hl11 (Eq.symm hl2)
        have hf146:=Fr.conv (fl':=[(63, .tuple #[]),(8, .slice e1 y17.length q1),(9, .slice e2 y19.length q1),(10,vI y18),(61, .slice e2 y19.length q1),(62, .func (.func 145) #[] #[pB b1 0,pB b2 0,pB b3 0])]) hf145 (by rw [hl17] <;> kernel_rfl)
        refine ⟨fun _=>trivial,?_⟩
        refine c_dt ?_
        refine c_seq ?_
        obtain ⟨d5,hd16,hr75⟩:=bind_some hr74
        obtain ⟨hv1,hb35,hS38⟩:=hS36.ownSub (j:=1) rfl hd16
        refine c_sq [.slice e2 d5.length q1] [8,66,67,68] hf146 (.prop hv1 (.prop hb35 .nil)) fun a110 hf147=>?_
        refine c_block 4 ?_
        refine c_loop (fun n a w=>∃z14:Zone,∃y15:List Int,∃y16:Int,Zone.le z12 z14∧Fr a 80 [(8, .slice e1 y15.length q1),(66, .slice e2 d5.length q1),(67,vI (d5.length:Int)),(68,vI y16)]∧St z14 (ownS Ty.int 3 e1 q1 y15::ownS Ty.int 3 e2 q1 d5::box b3 [vI y5] 3::box b2 [.slice o_x1 x1.length c_x1] 53::box b1 [vI x0] 3::L) w∧y15.length=y22.length∧(F127_l10 d5 n y15 y16)=some r) fuel ⟨z12,y17,0,zr,hf147.to,hS38,hl1,hr75⟩ ?_
        rintro n20 a111 ww30 ⟨z14,y15,y16,k24,hf149,hS39,hl18,hr76⟩
        cases n20 with
        | zero=>cases hr76
        | succ n5 =>
        refine c_sq [] [8,66,67,68,69] hf149 .nil fun a112 hf150=>?_
        refine c_seq ?_
        refine c_if (decide (y16<(d5.length:Int))) hf150 (fun hb36=>?_) (fun hb36=>?_)
        ·have hr77:=cond_t hb36 hr76
         refine c_skip ?_
         refine n_then ?_
         refine c_seq ?_
         refine c_block 5 ?_
         obtain ⟨p17,hp1530290,hr78⟩:=bind_some hr77
         obtain ⟨ad22,ho22,hb37,cc22,hc22,hk22⟩:=hS39.ownGet (j:=1) rfl hp1530290
         subst hc22
         refine c_sq [.pointer (some ad22),vI p17] [8,14,66,67,68] hf150 (.prop ho22 (.prop hb37 (.cell (hk22 0 _ rfl) .nil))) fun a113 hf151=>?_
         refine c_reg ?_
         obtain ⟨p18,hp1530301,hr79⟩:=bind_some hr78
         obtain ⟨ad23,ho23,hb38,cc23,hc23,hk23⟩:=hS39.ownGet (j:=0) rfl hp1530301
         subst hc23
         obtain ⟨p19,hp1530310,hr80⟩:=bind_some hr79
         obtain ⟨ad24,ho24,hb39,cc24,hc24,hk24⟩:=hS39.ownGet (j:=0) rfl hp1530310
         subst hc24
         refine c_n 6 [.pointer (some ad23),vI p18, .pointer (some ad24)] [8,66,67,68,76,77] hf151 (.prop ho23 (.prop hb38 (.cell (hk23 0 _ rfl) (.prop ho24 (.prop hb39 .nil))))) fun a114 hf152=>?_
         obtain ⟨d6,hd17,hr81⟩:=bind_some hr80
         have hl19:=setI_len hd17
         refine p_setOwnI (i:=6) (j:=0) (ad:=ad24) (ix:=p17) (x':=(w64 (p18 + (1:Int)))) hS39 hf152 rfl ho24 (by kernel_rfl) hd17 fun ww31 a115 hS40 hf153=>?_
         have hf154:=Fr.conv (fl':=[(8, .slice e1 d6.length q1),(66, .slice e2 d5.length q1),(67,vI (d5.length:Int)),(68,vI y16),(76,vI (w64 (p18 + (1:Int)))),(77, .pointer (some (ad24.add (Int.toNat p17 * 1))))]) hf153 (by rw [hl19] <;> kernel_rfl)
         refine ⟨fun _=>trivial,?_⟩
         refine c_done ?_
         refine n_block ?_
         refine n_then ?_
         refine c_q [] [8,66,67,68] hf154 .nil fun a116 hf155=>?_
         refine n_then ?_
         exact ⟨n5,Nat.lt_succ_self n5,z14,d6,(w64 (y16 + (1:Int))),k24,hf155.to,hS40,(hl19.symm.trans hl18),hr81⟩
        ·have hr82:=cond_f hb36 hr76
         refine c_exit 4 ?_
         refine x_then ?_
         refine x_then ?_
         refine x_block ?_
         refine n_then ?_
         refine c_sq [] [4] hf150 .nil fun a117 hf157=>?_
         refine c_ret ?_
         obtain ⟨z15,k25,hS41,hx2⟩:=hS39.share (j:=0) rfl
         refine c_rt [] (.slice e1 y15.length q1) hf157 .nil ?_
         obtain rfl:=some_eq hr82
         exact ⟨_,rfl,z15,e1,q1,(zt (zt (zt (zt (zt (zt (zt k11 k12) k14) k15) k19) k22) k24) k25),rfl,(St.drop 5 hS41),hx2⟩
def F91_j1 (k1:(List Part)→(List Part)→Int→Option (List Part×List Part)) (y1:Int) (y2:List Part) (y3:List Part):Option (List Part×List Part) :=
  (k1 y2 y3 (w64 (y1 + (1:Int))))
def F91_j2 (k1:(List Part)→(List Part)→Int→Option (List Part×List Part)) (y4:List Part) (y1:Int) (p1:Int) (p2:Part) (y5:List Part):Option (List Part×List Part) :=
  (cond (decide (p1<p2.mass)) ((appC y4 ([⟨p2.lot,(w64 (p2.mass - p1))⟩])).bind fun d1=>(F91_j1 k1 y1 y5 d1)) (F91_j1 k1 y1 y5 y4))
def F91_l2 (x0:List Part) (r1:List Int):Nat→(List Part)→(List Part)→Int→Option (List Part×List Part)
  | 0,_,_,_=>none
  | n1 + 1,y6,y4,y1 =>
    let k1:(List Part)→(List Part)→Int→Option (List Part×List Part):=F91_l2 x0 r1 n1
    (cond (decide (y1<(r1.length:Int))) ((getI r1 y1).bind fun p1=>((getI x0 y1).bind fun p2=>(cond (decide (p1 > (0:Int))) ((appC y6 ([⟨p2.lot,p1⟩])).bind fun d2=>(F91_j2 k1 y4 y1 p1 p2 d2)) (F91_j2 k1 y4 y1 p1 p2 y6)))) (some (y6,y4)))
def F91_l1 (fuel:Nat) (x0:List Part) (x1:Int):Nat→(List Int)→Int→Option (List Part×List Part)
  | 0,_,_=>none
  | n2 + 1,y7,y8 =>
    let k2:(List Int)→Int→Option (List Part×List Part):=F91_l1 fuel x0 x1 n2
    (cond (decide (y8<(x0.length:Int))) ((getI x0 y8).bind fun p3=>((appC y7 ([p3.mass])).bind fun d3=>(k2 d3 (w64 (y8 + (1:Int)))))) ((F127 fuel x1 y7).bind fun r1=>(F91_l2 x0 r1 fuel ([]) ([]) 0)))
def F91 (fuel:Nat) (x0:List Part) (x1:Int):Option (List Part×List Part) :=
  (F91_l1 fuel x0 x1 fuel ([]) 0)
set_option maxRecDepth 100000 in
theorem f91_ok (fuel:Nat) (x0:List Part) (x1:Int) (r:List Part×List Part) (hr:F91 fuel x0 x1=some r) (h:Zone) (L:List Atom) (w:World) (hS:St h L w) (o_x0:Option Addr) (c_x0:Nat) (hx_x0:SliceR PartT h o_x0 c_x0 x0) :
    Calls Try.prog 91 #[.agg #[.slice o_x0 x0.length c_x0],vI x1] w fun e w'=>∃v,e= .returned v∧(∃h',∃o0:Option Addr,∃c0:Nat,∃o1:Option Addr,∃c1:Nat,Zone.le h h'∧v= .tuple #[.agg #[.slice o0 r.1.length c0], .agg #[.slice o1 r.2.length c1]]∧St h' L w'∧SliceR PartT h' o0 c0 r.1∧SliceR PartT h' o1 c1 r.2):=by
 refine calls_intro (N:=69) Try.func91 (by kernel_rfl) fun a hf=>?_
 refine c_sr ?_
 refine c_box [.slice o_x0 x0.length c_x0] 40 hS hf fun b1 ww1 a1 hS1 hf1=>⟨fun _=>trivial,?_⟩
 refine c_box [.slice none 0 0] 40 hS1 hf1 fun b2 ww2 a2 hS2 hf2=>⟨fun _=>trivial,?_⟩
 refine c_box [.slice none 0 0] 40 hS2 hf2 fun b3 ww3 a3 hS3 hf3=>⟨fun _=>trivial,?_⟩
 refine c_dt ?_
 refine c_sq [] [1,2,4,5,6] hf3 .nil fun a4 hf4=>?_
 refine c_seq ?_
 refine c_sq [.slice o_x0 x0.length c_x0] [1,2,4,5,6,13,14,15] hf4 (.cell (hS3.box (i:=2) rfl (j:=0) rfl) .nil) fun a5 hf5=>?_
 refine c_block 0 ?_
 have hS4:=hS3.ownNil Ty.int 3
 refine c_loop (fun n a w=>∃z1:Zone,∃y7:List Int,∃y8:Int,∃e1:Option Addr,∃q1:Nat,Zone.le h z1∧Fr a 69 [(1,vI x1),(2,pB b1 0),(4,pB b2 0),(5,pB b3 0),(6, .slice e1 y7.length q1),(13, .slice o_x0 x0.length c_x0),(14,vI (x0.length:Int)),(15,vI y8)]∧St z1 (ownS Ty.int 3 e1 q1 y7::box b3 [.slice none 0 0] 40::box b2 [.slice none 0 0] 40::box b1 [.slice o_x0 x0.length c_x0] 40::L) w∧(F91_l1 fuel x0 x1 n y7 y8)=some r) fuel ⟨h,[],0,none,0,zr,hf5.to,hS4,hr⟩ ?_
 rintro n3 a6 ww4 ⟨z1,y7,y8,e1,q1,k3,hf7,hS5,hr1⟩
 cases n3 with
 | zero=>cases hr1
 | succ n2 =>
 refine c_sq [] [1,2,4,5,6,13,14,15,16] hf7 .nil fun a7 hf8=>?_
 refine c_seq ?_
 refine c_if (decide (y8<(x0.length:Int))) hf8 (fun hb1=>?_) (fun hb1=>?_)
 ·have hr2:=cond_t hb1 hr1
  refine c_skip ?_
  refine n_then ?_
  refine c_seq ?_
  refine c_block 1 ?_
  refine c_sr ?_
  obtain ⟨p3,hp1016,hr3⟩:=bind_some hr2
  obtain ⟨ad1,ho1,hb2,cc1,hc1,hk1⟩:=SliceR.getI (SliceR.mono k3 hx_x0) hp1016
  subst hc1
  refine c_n 2 [.pointer (some ad1),vI p3.lot,vI p3.mass] [1,2,4,5,6,13,14,15,18] hf8 (.prop ho1 (.prop hb2 (.cell (hS5.cell (hk1 0 _ rfl)) (.cell (hS5.cell (hk1 1 _ rfl)) .nil)))) fun a8 hf9=>?_
  refine c_box [vI 0,vI 0] 56 hS5 hf9 fun b4 ww5 a9 hS6 hf10=>⟨fun _=>trivial,?_⟩
  refine c_st 0 [vI p3.lot,vI p3.mass] hS6 hf10 rfl fun ww6 a10 hS7 hf11=>⟨fun _=>trivial,?_⟩
  refine c_dt ?_
  refine c_reg ?_
  refine c_n 3 [vI p3.mass] [1,2,4,5,13,14,15,19,21] hf11 (.cell (hS7.box (i:=0) rfl (j:=1) rfl) .nil) fun a11 hf12=>?_
  refine p_box (i:=3) (d:=(some 22)) (cs:=[vI p3.mass]) (T:=3) (v:=fun b5=> .slice (some ⟨b5,0,none⟩) 1 1) hS7 hf12 (fun b=>by kernel_rfl) fun b5 ww7 a12 hS8 hf13=>⟨fun _=>trivial,?_⟩
  have hS9:=hS8.ownBox (T:=Ty.int) (E:=3) (n:=1) (xs:=[p3.mass]) (i:=0) rfl (Rows.cons (c:=[vI p3.mass]) rfl rfl) rfl (by decide)
  obtain ⟨d3,hd1,hr4⟩:=bind_some hr3
  refine p_append (T:=Ty.int) (i:=4) (j:=2) (d:=some 23) (o2:=(some ⟨b5,0,none⟩)) (c2:=1) (ys:=([p3.mass])) el53 hS9 hf13 rfl (by kernel_rfl) (hS9.ownSrc (j:=0) rfl) hd1 fun e2 q2 ww8 a13 hS10 hf14=>⟨fun _=>trivial,?_⟩
  refine c_z [] [1,2,4,5,6,13,14,15] hf14 .nil fun a14 hf15=>?_
  refine n_block ?_
  refine n_then ?_
  refine c_q [] [1,2,4,5,6,13,14,15] hf15 .nil fun a15 hf16=>?_
  refine n_then ?_
  exact ⟨n2,Nat.lt_succ_self n2,z1,d3,(w64 (y8 + (1:Int))),e2,q2,k3,hf16.to,(St.drop 2 hS10),hr4⟩
 ·have hr5:=cond_f hb1 hr1
  refine c_exit 0 ?_
  refine x_then ?_
  refine x_then ?_
  refine x_block ?_
  refine n_then ?_
  refine c_seq ?_
  refine c_sr ?_
  refine c_n 2 [] [2,4,5,25,26] hf8 .nil fun a16 hf18=>?_
  obtain ⟨z2,k4,hS11,hx1⟩:=hS5.share (j:=0) rfl
  obtain ⟨r1,hd2,hr6⟩:=bind_some hr5
  refine c_call hf18 (f127_ok fuel x1 y7 r1 hd2 z2 _ _ hS11 e1 q1 hx1) ?_
  rintro v1 ww9 a17 ⟨z3,e3,q3,k5,rfl,hS12,hx2⟩ hf19
  refine ⟨fun _=>trivial,?_⟩
  refine c_t [] [2,4,5,27,28,29] hf19 .nil fun a18 hf20=>?_
  refine c_block 2 ?_
  have hS13:=hS12.ownNil PartT 56
  have hS14:=hS13.ownNil PartT 56
  refine c_loop (fun n a w=>∃z4:Zone,∃y6:List Part,∃y4:List Part,∃y1:Int,∃e4:Option Addr,∃q4:Nat,∃e5:Option Addr,∃q5:Nat,Zone.le z3 z4∧Fr a 69 [(2,pB b1 0),(4,pB b2 0),(5,pB b3 0),(27, .slice e3 r1.length q3),(28,vI (r1.length:Int)),(29,vI y1)]∧St z4 (ownS PartT 56 e4 q4 y6::ownS PartT 56 e5 q5 y4::emp::box b3 [.slice e5 y4.length q5] 40::box b2 [.slice e4 y6.length q4] 40::box b1 [.slice o_x0 x0.length c_x0] 40::L) w∧(F91_l2 x0 r1 n y6 y4 y1)=some r) fuel ⟨z3,[],[],0,none,0,none,0,zr,hf20.to,hS14,hr6⟩ ?_
  rintro n4 a19 ww10 ⟨z4,y6,y4,y1,e4,q4,e5,q5,k6,hf22,hS15,hr7⟩
  cases n4 with
  | zero=>cases hr7
  | succ n1 =>
  refine c_sq [] [2,4,5,27,28,29,30] hf22 .nil fun a20 hf23=>?_
  refine c_seq ?_
  refine c_if (decide (y1<(r1.length:Int))) hf23 (fun hb3=>?_) (fun hb3=>?_)
  ·have hr8:=cond_t hb3 hr7
   refine c_skip ?_
   refine n_then ?_
   refine c_mid (fun a w=>∃z5:Zone,∃y2:List Part,∃y3:List Part,∃e6:Option Addr,∃q6:Nat,∃e7:Option Addr,∃q7:Nat,Zone.le z4 z5∧Fr a 69 [(2,pB b1 0),(4,pB b2 0),(5,pB b3 0),(27, .slice e3 r1.length q3),(28,vI (r1.length:Int)),(29,vI y1)]∧St z5 (ownS PartT 56 e6 q6 y2::ownS PartT 56 e7 q7 y3::emp::box b3 [.slice e7 y3.length q7] 40::box b2 [.slice e6 y2.length q6] 40::box b1 [.slice o_x0 x0.length c_x0] 40::L) w∧(F91_j1 (F91_l2 x0 r1 n1) y1 y2 y3)=some r) ?_ ?_
   ·skip
    refine c_block 3 ?_
    obtain ⟨p1,hp4513,hr9⟩:=bind_some hr8
    obtain ⟨ad2,ho2,hb4,cc2,hc2,hk2⟩:=SliceR.getI (SliceR.mono k6 hx2) hp4513
    subst hc2
    refine c_sq [.pointer (some ad2),vI p1] [2,4,5,9,10,27,28,29] hf23 (.prop ho2 (.prop hb4 (.cell (hS15.cell (hk2 0 _ rfl)) .nil))) fun a21 hf24=>?_
    refine c_sr ?_
    obtain ⟨p2,hp4524,hr10⟩:=bind_some hr9
    obtain ⟨ad3,ho3,hb5,cc3,hc3,hk3⟩:=SliceR.getI (SliceR.mono (zt (zt (zt k3 k4) k5) k6) hx_x0) hp4524
    subst hc3
    refine c_n 5 [.slice o_x0 x0.length c_x0, .pointer (some ad3),vI p2.lot,vI p2.mass] [2,4,5,10,27,28,29,38] hf24 (.cell (hS15.box (i:=5) rfl (j:=0) rfl) (.prop ho3 (.prop hb5 (.cell (hS15.cell (hk3 0 _ rfl)) (.cell (hS15.cell (hk3 1 _ rfl)) .nil))))) fun a22 hf25=>?_
    refine c_box [vI 0,vI 0] 56 hS15 hf25 fun b6 ww11 a23 hS16 hf26=>⟨fun _=>trivial,?_⟩
    refine c_st 0 [vI p2.lot,vI p2.mass] hS16 hf26 rfl fun ww12 a24 hS17 hf27=>⟨fun _=>trivial,?_⟩
    refine c_dt ?_
    refine c_mid (fun a w=>∃z6:Zone,∃y5:List Part,∃e8:Option Addr,∃q8:Nat,Zone.le z4 z6∧Fr a 69 [(2,pB b1 0),(4,pB b2 0),(5,pB b3 0),(10,vI p1),(11,pB b6 0),(27, .slice e3 r1.length q3),(28,vI (r1.length:Int)),(29,vI y1)]∧St z6 (box b6 [vI p2.lot,vI p2.mass] 56::ownS PartT 56 e8 q8 y5::ownS PartT 56 e5 q5 y4::emp::box b3 [.slice e5 y4.length q5] 40::box b2 [.slice e8 y5.length q8] 40::box b1 [.slice o_x0 x0.length c_x0] 40::L) w∧(F91_j2 (F91_l2 x0 r1 n1) y4 y1 p1 p2 y5)=some r) ?_ ?_
    ·skip
     refine c_sq [] [2,4,5,10,11,27,28,29,40] hf27 .nil fun a25 hf28=>?_
     refine c_if (decide (p1 > (0:Int))) hf28 (fun hb6=>?_) (fun hb6=>?_)
     ·have hr11:=cond_t hb6 hr10
      refine c_reg ?_
      refine c_n 6 [.slice e4 y6.length q4,vI p2.lot] [2,4,5,10,11,27,28,29,42,46] hf28 (.cell (hS17.box (i:=5) rfl (j:=0) rfl) (.cell (hS17.box (i:=0) rfl (j:=0) rfl) .nil)) fun a26 hf29=>?_
      refine p_box (i:=6) (d:=(some 47)) (cs:=[vI p2.lot,vI p1]) (T:=56) (v:=fun b7=> .slice (some ⟨b7,0,none⟩) 1 1) hS17 hf29 (fun b=>by kernel_rfl) fun b7 ww13 a27 hS18 hf30=>⟨fun _=>trivial,?_⟩
      have hS19:=hS18.ownBox (T:=PartT) (E:=56) (n:=1) (xs:=[⟨p2.lot,p1⟩]) (i:=0) rfl (Rows.cons (c:=[vI p2.lot,vI p1]) rfl rfl) rfl (by decide)
      obtain ⟨d2,hd3,hr12⟩:=bind_some hr11
      refine p_append (T:=PartT) (i:=7) (j:=2) (d:=some 48) (o2:=(some ⟨b7,0,none⟩)) (c2:=1) (ys:=([⟨p2.lot,p1⟩])) el38 hS19 hf30 rfl (by kernel_rfl) (hS19.ownSrc (j:=0) rfl) hd3 fun e9 q9 ww14 a28 hS20 hf31=>⟨fun _=>trivial,?_⟩
      refine c_n 1 [] [2,4,5,10,11,27,28,29,48,49] hf31 .nil fun a29 hf32=>?_
      refine c_st 6 [.slice e9 d2.length q9] hS20 hf32 rfl fun ww15 a30 hS21 hf33=>⟨fun _=>trivial,?_⟩
      refine c_dt ?_
      exact ⟨z4,d2,e9,q9,zr,hf33.to,(St.drop 1 hS21),hr12⟩
     ·have hr13:=cond_f hb6 hr10
      refine c_skip ?_
      refine n_then ?_
      exact ⟨z4,y6,e4,q4,zr,hf28.to,hS17,hr13⟩
    ·rintro a31 ww16 ⟨z6,y5,e8,q8,k7,hf36,hS22,hr14⟩
     refine c_sq [vI p2.mass] [2,4,5,10,11,27,28,29,53] hf36 (.cell (hS22.box (i:=0) rfl (j:=1) rfl) .nil) fun a32 hf37=>?_
     refine c_if (decide (p1<p2.mass)) hf37 (fun hb7=>?_) (fun hb7=>?_)
     ·have hr15:=cond_t hb7 hr14
      refine c_reg ?_
      refine c_n 9 [.slice e5 y4.length q5,vI p2.lot,vI p2.mass] [2,4,5,27,28,29,55,62] hf37 (.cell (hS22.box (i:=4) rfl (j:=0) rfl) (.cell (hS22.box (i:=0) rfl (j:=0) rfl) (.cell (hS22.box (i:=0) rfl (j:=1) rfl) .nil))) fun a33 hf38=>?_
      refine p_box (i:=9) (d:=(some 63)) (cs:=[vI p2.lot,vI (w64 (p2.mass - p1))]) (T:=56) (v:=fun b8=> .slice (some ⟨b8,0,none⟩) 1 1) hS22 hf38 (fun b=>by kernel_rfl) fun b8 ww17 a34 hS23 hf39=>⟨fun _=>trivial,?_⟩
      have hS24:=hS23.ownBox (T:=PartT) (E:=56) (n:=1) (xs:=[⟨p2.lot,(w64 (p2.mass - p1))⟩]) (i:=0) rfl (Rows.cons (c:=[vI p2.lot,vI (w64 (p2.mass - p1))]) rfl rfl) rfl (by decide)
      obtain ⟨d1,hd4,hr16⟩:=bind_some hr15
      refine p_append (T:=PartT) (i:=10) (j:=3) (d:=some 64) (o2:=(some ⟨b8,0,none⟩)) (c2:=1) (ys:=([⟨p2.lot,(w64 (p2.mass - p1))⟩])) el38 hS24 hf39 rfl (by kernel_rfl) (hS24.ownSrc (j:=0) rfl) hd4 fun e10 q10 ww18 a35 hS25 hf40=>⟨fun _=>trivial,?_⟩
      refine c_n 1 [] [2,4,5,27,28,29,64,65] hf40 .nil fun a36 hf41=>?_
      refine c_st 5 [.slice e10 d1.length q10] hS25 hf41 rfl fun ww19 a37 hS26 hf42=>⟨fun _=>trivial,?_⟩
      refine c_done ?_
      refine n_block ?_
      refine n_then ?_
      exact ⟨z6,y5,d1,e8,q8,e10,q10,k7,hf42.to,(St.drop 2 hS26),hr16⟩
     ·have hr17:=cond_f hb7 hr14
      refine c_skip ?_
      refine n_block ?_
      refine n_then ?_
      exact ⟨z6,y5,y4,e8,q8,e5,q5,k7,hf37.to,(St.drop 1 hS22),hr17⟩
   ·rintro a38 ww20 ⟨z5,y2,y3,e6,q6,e7,q7,k8,hf45,hS27,hr18⟩
    refine c_q [] [2,4,5,27,28,29] hf45 .nil fun a39 hf46=>?_
    refine n_then ?_
    exact ⟨n1,Nat.lt_succ_self n1,z5,y2,y3,(w64 (y1 + (1:Int))),e6,q6,e7,q7,(zt k6 k8),hf46.to,hS27,hr18⟩
  ·have hr19:=cond_f hb3 hr7
   refine c_exit 2 ?_
   refine x_then ?_
   refine x_then ?_
   refine x_block ?_
   refine n_then ?_
   refine c_seq ?_
   have hS28:=hS15.drew
   have s1:=Sub.of zr hS28
   refine c_regD [(0,true),(1,true),(2,false),(3,false)] [3] _ s1 ?_
   refine c_S 2 [.slice e4 y6.length q4, .slice e5 y4.length q5] [4,5,67,68] s1 hf23 (fun _ s=>(.cell (s.box (i:=4) rfl (j:=0) rfl) (.cell (s.box (i:=3) rfl (j:=0) rfl) .nil))) .nil fun a40 hf48=>?_
   refine c_st 4 [.slice e4 y6.length q4] hS28 hf48 rfl fun ww21 a41 hS29 hf49=>⟨fun _=>Sub.of zr hS29,?_⟩
   have s2:=Sub.of zr hS29
   refine c_st 3 [.slice e5 y4.length q5] hS29 hf49 rfl fun ww22 a42 hS30 hf50=>⟨fun e=>absurd e (by decide),?_⟩
   refine c_dt ?_
   refine c_ret ?_
   obtain ⟨z7,k9,hS31,hx3⟩:=hS30.share (j:=0) rfl
   obtain ⟨z8,k10,hS32,hx4⟩:=hS31.share (j:=1) rfl
   refine c_rt [.slice e4 y6.length q4, .slice e5 y4.length q5] (.tuple #[.agg #[.slice e4 y6.length q4], .agg #[.slice e5 y4.length q5]]) hf50 (.cell (hS32.box (i:=4) rfl (j:=0) rfl) (.cell (hS32.box (i:=3) rfl (j:=0) rfl) .nil)) ?_
   obtain rfl:=some_eq hr19
   exact ⟨_,rfl,z8,e4,q4,e5,q5,(zt (zt (zt (zt (zt k3 k4) k5) k6) k9) k10),rfl,(St.drop 6 hS32),(SliceR.mono k10 hx3),hx4⟩
def F30 (fuel:Nat) (x0:List Part) (x1:Int):Option (List Part×List Part×Int) :=
  ((F73 fuel x0).bind fun r1=>(cond (!r1) (some ([],[],62)) (cond (decide (x1<(0:Int))) (some ([],[],1)) ((F90 fuel x0).bind fun r2=>(cond (decide (x1 > r2)) (some ([],[],63)) ((F91 fuel x0 x1).bind fun r3=>(some (r3.1,r3.2,0))))))))
set_option maxRecDepth 100000 in
theorem f30_ok (fuel:Nat) (x0:List Part) (x1:Int) (r:List Part×List Part×Int) (hr:F30 fuel x0 x1=some r) (h:Zone) (L:List Atom) (w:World) (hS:St h L w) (o_x0:Option Addr) (c_x0:Nat) (hx_x0:SliceR PartT h o_x0 c_x0 x0) :
    Calls Try.prog 30 #[.agg #[.slice o_x0 x0.length c_x0],vI x1] w fun e w'=>∃v,e= .returned v∧(∃h',∃o0:Option Addr,∃c0:Nat,∃o1:Option Addr,∃c1:Nat,Zone.le h h'∧v= .tuple #[.agg #[.slice o0 r.1.length c0], .agg #[.slice o1 r.2.1.length c1],vI r.2.2]∧St h' L w'∧SliceR PartT h' o0 c0 r.1∧SliceR PartT h' o1 c1 r.2.1):=by
 refine calls_intro (N:=33) Try.func30 (by kernel_rfl) fun a hf=>?_
 refine c_sr ?_
 refine c_box [.slice o_x0 x0.length c_x0] 40 hS hf fun b1 ww1 a1 hS1 hf1=>⟨fun _=>trivial,?_⟩
 refine c_box [.slice none 0 0] 40 hS1 hf1 fun b2 ww2 a2 hS2 hf2=>⟨fun _=>trivial,?_⟩
 refine c_box [.slice none 0 0] 40 hS2 hf2 fun b3 ww3 a3 hS3 hf3=>⟨fun _=>trivial,?_⟩
 refine c_t [] [1,2,4,5] hf3 .nil fun a4 hf4=>?_
 refine c_seq ?_
 refine c_block 0 ?_
 refine c_sr ?_
 refine c_n 1 [.slice o_x0 x0.length c_x0] [1,2,4,5,8] hf4 (.cell (hS3.box (i:=2) rfl (j:=0) rfl) .nil) fun a5 hf5=>?_
 obtain ⟨r1,hd1,hr1⟩:=bind_some hr
 refine c_call hf5 (f73_ok fuel x0 r1 hd1 h _ _ hS3 o_x0 c_x0 hx_x0) ?_
 rintro v1 ww4 a6 ⟨z1,k1,rfl,hS4⟩ hf6
 refine ⟨fun _=>trivial,?_⟩
 refine c_t [] [1,2,4,5,7] hf6 .nil fun a7 hf7=>?_
 refine c_if (!r1) hf7 (fun hb1=>?_) (fun hb1=>?_)
 ·have hr2:=cond_t hb1 hr1
  refine c_sr ?_
  refine c_n 2 [] [4,5,11,12] hf7 .nil fun a8 hf8=>?_
  refine c_st 1 [.slice none 0 0] hS4 hf8 rfl fun ww5 a9 hS5 hf9=>⟨fun _=>trivial,?_⟩
  refine c_st 0 [.slice none 0 0] hS5 hf9 rfl fun ww6 a10 hS6 hf10=>⟨fun _=>trivial,?_⟩
  refine c_t [] [4,5,6] hf10 .nil fun a11 hf11=>?_
  refine c_ret ?_
  refine r_block ?_
  refine r_then ?_
  refine c_rt [.slice none 0 0, .slice none 0 0] (.tuple #[.agg #[.slice none 0 0], .agg #[.slice none 0 0],vI 62]) hf11 (.cell (hS6.box (i:=1) rfl (j:=0) rfl) (.cell (hS6.box (i:=0) rfl (j:=0) rfl) .nil)) ?_
  obtain rfl:=some_eq hr2
  exact ⟨_,rfl,z1,none,0,none,0,k1,rfl,(St.drop 3 hS6),SliceR.nil' _ _,SliceR.nil' _ _⟩
 ·have hr3:=cond_f hb1 hr1
  refine c_sq [] [1,2,4,5,13] hf7 .nil fun a12 hf12=>?_
  refine c_if (decide (x1<(0:Int))) hf12 (fun hb2=>?_) (fun hb2=>?_)
  ·have hr4:=cond_t hb2 hr3
   refine c_sr ?_
   refine c_n 2 [] [4,5,16,17] hf12 .nil fun a13 hf13=>?_
   refine c_st 1 [.slice none 0 0] hS4 hf13 rfl fun ww7 a14 hS7 hf14=>⟨fun _=>trivial,?_⟩
   refine c_st 0 [.slice none 0 0] hS7 hf14 rfl fun ww8 a15 hS8 hf15=>⟨fun _=>trivial,?_⟩
   refine c_t [] [4,5,6] hf15 .nil fun a16 hf16=>?_
   refine c_ret ?_
   refine r_block ?_
   refine r_then ?_
   refine c_rt [.slice none 0 0, .slice none 0 0] (.tuple #[.agg #[.slice none 0 0], .agg #[.slice none 0 0],vI 1]) hf16 (.cell (hS8.box (i:=1) rfl (j:=0) rfl) (.cell (hS8.box (i:=0) rfl (j:=0) rfl) .nil)) ?_
   obtain rfl:=some_eq hr4
   exact ⟨_,rfl,z1,none,0,none,0,k1,rfl,(St.drop 3 hS8),SliceR.nil' _ _,SliceR.nil' _ _⟩
  ·have hr5:=cond_f hb2 hr3
   refine c_sr ?_
   refine c_n 2 [.slice o_x0 x0.length c_x0] [1,2,4,5,19,20] hf12 (.cell (hS4.box (i:=2) rfl (j:=0) rfl) .nil) fun a17 hf17=>?_
   obtain ⟨r2,hd2,hr6⟩:=bind_some hr5
   refine c_call hf17 (f90_ok fuel x0 r2 hd2 z1 _ _ hS4 o_x0 c_x0 (SliceR.mono k1 hx_x0)) ?_
   rintro v2 ww9 a18 ⟨z2,k2,rfl,hS9⟩ hf18
   refine ⟨fun _=>trivial,?_⟩
   refine c_t [] [1,2,4,5,18] hf18 .nil fun a19 hf19=>?_
   refine c_if (decide (x1 > r2)) hf19 (fun hb3=>?_) (fun hb3=>?_)
   ·have hr7:=cond_t hb3 hr6
    refine c_sr ?_
    refine c_n 2 [] [4,5,23,24] hf19 .nil fun a20 hf20=>?_
    refine c_st 1 [.slice none 0 0] hS9 hf20 rfl fun ww10 a21 hS10 hf21=>⟨fun _=>trivial,?_⟩
    refine c_st 0 [.slice none 0 0] hS10 hf21 rfl fun ww11 a22 hS11 hf22=>⟨fun _=>trivial,?_⟩
    refine c_t [] [4,5,6] hf22 .nil fun a23 hf23=>?_
    refine c_ret ?_
    refine r_block ?_
    refine r_then ?_
    refine c_rt [.slice none 0 0, .slice none 0 0] (.tuple #[.agg #[.slice none 0 0], .agg #[.slice none 0 0],vI 63]) hf23 (.cell (hS11.box (i:=1) rfl (j:=0) rfl) (.cell (hS11.box (i:=0) rfl (j:=0) rfl) .nil)) ?_
    obtain rfl:=some_eq hr7
    exact ⟨_,rfl,z2,none,0,none,0,(zt k1 k2),rfl,(St.drop 3 hS11),SliceR.nil' _ _,SliceR.nil' _ _⟩
   ·have hr8:=cond_f hb3 hr6
    refine c_skip ?_
    refine n_block ?_
    refine n_then ?_
    refine c_sr ?_
    refine c_n 2 [.slice o_x0 x0.length c_x0] [4,5,26,27] hf19 (.cell (hS9.box (i:=2) rfl (j:=0) rfl) .nil) fun a24 hf24=>?_
    obtain ⟨r3,hd3,hr9⟩:=bind_some hr8
    refine c_call hf24 (f91_ok fuel x0 x1 r3 hd3 z2 _ _ hS9 o_x0 c_x0 (SliceR.mono (zt k1 k2) hx_x0)) ?_
    rintro v3 ww12 a25 ⟨z3,e1,q1,e2,q2,k3,rfl,hS12,hx1,hx2⟩ hf25
    refine ⟨fun _=>trivial,?_⟩
    refine c_n 3 [] [4,5,29,30] hf25 .nil fun a26 hf26=>?_
    refine c_st 1 [.slice e1 r3.1.length q1] hS12 hf26 rfl fun ww13 a27 hS13 hf27=>⟨fun _=>trivial,?_⟩
    refine c_st 0 [.slice e2 r3.2.length q2] hS13 hf27 rfl fun ww14 a28 hS14 hf28=>⟨fun _=>trivial,?_⟩
    refine c_dt ?_
    refine c_seq ?_
    have hS15:=hS14.drew
    have s1:=Sub.of zr hS15
    refine c_regD [(0,true),(1,true),(2,false),(3,false),(4,true)] [3] _ s1 ?_
    refine c_S 2 [.slice e1 r3.1.length q1, .slice e2 r3.2.length q2] [4,5,31,32] s1 hf28 (fun _ s=>(.cell (s.box (i:=1) rfl (j:=0) rfl) (.cell (s.box (i:=0) rfl (j:=0) rfl) .nil))) .nil fun a29 hf29=>?_
    refine c_st 1 [.slice e1 r3.1.length q1] hS15 hf29 rfl fun ww15 a30 hS16 hf30=>⟨fun _=>Sub.of zr hS16,?_⟩
    have s2:=Sub.of zr hS16
    refine c_st 0 [.slice e2 r3.2.length q2] hS16 hf30 rfl fun ww16 a31 hS17 hf31=>⟨fun e=>absurd e (by decide),?_⟩
    refine p_qP 1 [] [(4,pB b2 0),(5,pB b3 0),(6,vI 0)] [] hf31 (by kernel_rfl) (fun _=> .nil) fun a32 hf32=>?_
    refine c_dt ?_
    refine c_ret ?_
    refine c_rt [.slice e1 r3.1.length q1, .slice e2 r3.2.length q2] (.tuple #[.agg #[.slice e1 r3.1.length q1], .agg #[.slice e2 r3.2.length q2],vI 0]) hf32 (.cell (hS17.box (i:=1) rfl (j:=0) rfl) (.cell (hS17.box (i:=0) rfl (j:=0) rfl) .nil)) ?_
    obtain rfl:=some_eq hr9
    exact ⟨_,rfl,z3,e1,q1,e2,q2,(zt (zt k1 k2) k3),rfl,(St.drop 3 hS17),hx1,hx2⟩
def F19_j1 (k1:Int→Option (Int)) (y1:Int) (y2:Bool):Option (Int) :=
  (cond y2 (some (60)) (k1 (w64 (y1 + (1:Int)))))
def F19_l1 (fuel:Nat) (x0:List Lot):Nat→Int→Option (Int)
  | 0,_=>none
  | n1 + 1,y1 =>
    let k1:Int→Option (Int):=F19_l1 fuel x0 n1
    (cond (decide (y1<(x0.length:Int))) ((getI x0 y1).bind fun p1=>((F17 fuel p1.id p1.owner p1.grade p1.wet).bind fun r1=>(cond (r1 != (0:Int)) (F19_j1 k1 y1 true) (cond (decide (y1 > (0:Int))) ((getI x0 (w64 (y1 - (1:Int)))).bind fun p2=>(F19_j1 k1 y1 (decide (p2.id≥p1.id)))) (F19_j1 k1 y1 false))))) (some (0)))
def F19 (fuel:Nat) (x0:List Lot):Option (Int) :=
  (cond (decide ((x0.length:Int) > (40:Int))) (some (60)) (F19_l1 fuel x0 fuel 0))
set_option maxRecDepth 100000 in
theorem f19_ok (fuel:Nat) (x0:List Lot) (r:Int) (hr:F19 fuel x0=some r) (h:Zone) (L:List Atom) (w:World) (hS:St h L w) (o_x0:Option Addr) (c_x0:Nat) (hx_x0:SliceR LotT h o_x0 c_x0 x0) :
    Calls Try.prog 19 #[.slice o_x0 x0.length c_x0] w fun e w'=>∃v,e= .returned v∧(∃h',Zone.le h h'∧v=vI r∧St h' L w'):=by
 refine calls_intro (N:=34) Try.func19 (by kernel_rfl) fun a hf=>?_
 refine c_sq [] [0] hf .nil fun a1 hf1=>?_
 refine c_seq ?_
 refine c_sq [] [0,7] hf1 .nil fun a2 hf2=>?_
 refine c_if (decide ((x0.length:Int) > (40:Int))) hf2 (fun hb1=>?_) (fun hb1=>?_)
 ·have hr1:=cond_t hb1 hr
  refine c_sq [] [2] hf2 .nil fun a3 hf3=>?_
  refine c_ret ?_
  refine r_then ?_
  refine c_rt [] (vI 60) hf3 .nil ?_
  obtain rfl:=some_eq hr1
  exact ⟨_,rfl,h,zr,rfl,hS⟩
 ·have hr2:=cond_f hb1 hr
  refine c_skip ?_
  refine n_then ?_
  refine c_seq ?_
  refine c_sq [] [0,8,9,10] hf2 .nil fun a4 hf4=>?_
  refine c_block 0 ?_
  refine c_loop (fun n a w=>∃z1:Zone,∃y1:Int,Zone.le h z1∧Fr a 34 [(0, .slice o_x0 x0.length c_x0),(8, .slice o_x0 x0.length c_x0),(9,vI (x0.length:Int)),(10,vI y1)]∧St z1 (L) w∧(F19_l1 fuel x0 n y1)=some r) fuel ⟨h,0,zr,hf4.to,hS,hr2⟩ ?_
  rintro n2 a5 ww1 ⟨z1,y1,k2,hf6,hS1,hr3⟩
  cases n2 with
  | zero=>cases hr3
  | succ n1 =>
  refine c_sq [] [0,8,9,10,11] hf6 .nil fun a6 hf7=>?_
  refine c_seq ?_
  refine c_if (decide (y1<(x0.length:Int))) hf7 (fun hb2=>?_) (fun hb2=>?_)
  ·have hr4:=cond_t hb2 hr3
   refine c_skip ?_
   refine n_then ?_
   refine c_seq ?_
   refine c_block 1 ?_
   refine c_sr ?_
   obtain ⟨p1,hp1761,hr5⟩:=bind_some hr4
   obtain ⟨ad1,ho1,hb3,cc1,hc1,hk1⟩:=SliceR.getI (SliceR.mono k2 hx_x0) hp1761
   subst hc1
   refine c_n 3 [.pointer (some ad1),vI p1.id,vI p1.owner,vI p1.grade,vI p1.wet] [0,8,9,10,12,14] hf7 (.prop ho1 (.prop hb3 (.cell (hS1.cell (hk1 0 _ rfl)) (.cell (hS1.cell (hk1 1 _ rfl)) (.cell (hS1.cell (hk1 2 _ rfl)) (.cell (hS1.cell (hk1 3 _ rfl)) .nil)))))) fun a7 hf8=>?_
   refine c_box [vI 0,vI 0,vI 0,vI 0] 33 hS1 hf8 fun b1 ww2 a8 hS2 hf9=>⟨fun _=>trivial,?_⟩
   refine c_n 1 [] [0,3,4,8,9,10,14] hf9 .nil fun a9 hf10=>?_
   refine c_st 0 [vI p1.id,vI p1.owner,vI p1.grade,vI p1.wet] hS2 hf10 rfl fun ww3 a10 hS3 hf11=>⟨fun _=>trivial,?_⟩
   refine c_dt ?_
   refine c_mid (fun a w=>∃z2:Zone,∃y2:Bool,Zone.le z1 z2∧Fr a 34 [(0, .slice o_x0 x0.length c_x0),(8, .slice o_x0 x0.length c_x0),(9,vI (x0.length:Int)),(10,vI y1),(32, .bool y2)]∧St z2 (box b1 [vI p1.id,vI p1.owner,vI p1.grade,vI p1.wet] 33::L) w∧(F19_j1 (F19_l1 fuel x0 n1) y1 y2)=some r) ?_ ?_
   ·skip
    have hS4:=hS3.drew
    have s1:=Sub.of zr hS4
    refine c_regD [(0,true),(1,false),(2,true),(3,true),(4,true),(5,true),(6,true),(7,true),(8,true),(9,true),(10,true),(11,true),(12,true),(13,true),(14,true),(15,true),(16,true),(17,true)] [] _ s1 ?_
    refine c_S 1 [vI p1.id,vI p1.owner,vI p1.grade,vI p1.wet] [0,3,4,8,9,10,15] s1 hf11 (fun _ s=>(.cell (s.box (i:=0) rfl (j:=0) rfl) (.cell (s.box (i:=0) rfl (j:=1) rfl) (.cell (s.box (i:=0) rfl (j:=2) rfl) (.cell (s.box (i:=0) rfl (j:=3) rfl) .nil))))) .nil fun a11 hf12=>?_
    obtain ⟨r1,hd1,hr6⟩:=bind_some hr5
    refine c_call hf12 (f17_ok fuel p1.id p1.owner p1.grade p1.wet r1 hd1 z1 _ _ hS4 ) ?_
    rintro v1 ww4 a12 ⟨z3,k3,rfl,hS5⟩ hf13
    refine ⟨fun _=>Sub.of k3 hS5,?_⟩
    have s2:=Sub.of k3 hS5
    refine c_S 2 [] [0,3,4,8,9,10,18] s2 hf13 (fun _ s=> .nil) .nil fun a13 hf14=>?_
    rcases bft (r1 != (0:Int)) with hb4 | hb4
    ·have hr7:=cond_t hb4 hr6
     have hf15:=hf14.lit 18 hb4
     refine c_S 14 [] [0,8,9,10,19,20,21,22,23,24,25,26,27,28,29,30,31,32] s2 hf15 (fun _ s=> .nil) .nil fun a14 hf16=>?_
     refine c_dt ?_
     exact ⟨z3,true,k3,hf16.to,hS5,hr7⟩
    ·have hr8:=cond_f hb4 hr6
     have hf18:=hf14.lit 18 hb4
     refine c_S 3 [] [0,3,4,8,9,10,18,19,20,21] s2 hf18 (fun _ s=> .nil) .nil fun a15 hf19=>?_
     rcases bft (decide (y1 > (0:Int))) with hb5 | hb5
     ·have hr9:=cond_t hb5 hr8
      have hf20:=hf19.lit 21 hb5
      obtain ⟨p2,hp1924,hr10⟩:=bind_some hr9
      obtain ⟨ad2,ho2,hb6,cc2,hc2,hk2⟩:=SliceR.getI (SliceR.mono k2 hx_x0) hp1924
      subst hc2
      refine c_S 11 [.pointer (some ad2),vI p2.id,vI p1.id] [0,8,9,10,19,20,21,22,23,24,25,26,27,28,29,30,31,32] s2 hf20 (fun _ s=>(.prop ho2 (.prop hb6 (.cell (s.cell (hk2 0 _ rfl)) (.cell (s.box (i:=0) rfl (j:=0) rfl) .nil))))) .nil fun a16 hf21=>?_
      refine c_dt ?_
      exact ⟨z3,(decide (p2.id≥p1.id)),k3,hf21.to,hS5,hr10⟩
     ·have hr11:=cond_f hb5 hr8
      have hf23:=hf19.lit 21 hb5
      refine c_S 11 [] [0,8,9,10,19,20,21,22,23,24,25,26,27,28,29,30,31,32] s2 hf23 (fun _ s=> .nil) .nil fun a17 hf24=>?_
      refine c_dt ?_
      exact ⟨z3,false,k3,hf24.to,hS5,hr11⟩
   ·rintro a18 ww5 ⟨z2,y2,k4,hf26,hS6,hr12⟩
    refine c_if y2 hf26 (fun hb7=>?_) (fun hb7=>?_)
    ·have hr13:=cond_t hb7 hr12
     refine c_sq [] [2] hf26 .nil fun a19 hf27=>?_
     refine c_ret ?_
     refine r_block ?_
     refine r_then ?_
     refine r_then ?_
     refine r_block ?_
     refine r_then ?_
     refine c_rt [] (vI 60) hf27 .nil ?_
     obtain rfl:=some_eq hr13
     exact ⟨_,rfl,z2,(zt k2 k4),rfl,(St.drop 1 hS6)⟩
    ·have hr14:=cond_f hb7 hr12
     refine c_skip ?_
     refine n_block ?_
     refine n_then ?_
     refine c_q [] [0,8,9,10] hf26 .nil fun a20 hf28=>?_
     refine n_then ?_
     exact ⟨n1,Nat.lt_succ_self n1,z2,(w64 (y1 + (1:Int))),(zt k2 k4),hf28.to,(St.drop 1 hS6),hr14⟩
  ·have hr15:=cond_f hb2 hr3
   refine c_exit 0 ?_
   refine x_then ?_
   refine x_then ?_
   refine x_block ?_
   refine n_then ?_
   refine c_sq [] [2] hf7 .nil fun a21 hf30=>?_
   refine c_ret ?_
   refine c_rt [] (vI 0) hf30 .nil ?_
   obtain rfl:=some_eq hr15
   exact ⟨_,rfl,z1,k2,rfl,hS1⟩
def F110 (fuel:Nat) (x0:List Lot) (x1:List Deed):Option (Int) :=
  ((F19 fuel x0).bind fun r1=>(cond (r1 != (0:Int)) (some (r1)) (cond (decide ((x1.length:Int) > (60:Int))) (some (2)) (some (0)))))
set_option maxRecDepth 100000 in
theorem f110_ok (fuel:Nat) (x0:List Lot) (x1:List Deed) (r:Int) (hr:F110 fuel x0 x1=some r) (h:Zone) (L:List Atom) (w:World) (hS:St h L w) (o_x0:Option Addr) (c_x0:Nat) (hx_x0:SliceR LotT h o_x0 c_x0 x0) (o_x1:Option Addr) (c_x1:Nat) (hx_x1:SliceR DeedT h o_x1 c_x1 x1) :
    Calls Try.prog 110 #[.slice o_x0 x0.length c_x0, .slice o_x1 x1.length c_x1] w fun e w'=>∃v,e= .returned v∧(∃h',Zone.le h h'∧v=vI r∧St h' L w'):=by
 refine calls_intro (N:=14) Try.func110 (by kernel_rfl) fun a hf=>?_
 refine c_sq [] [0,1] hf .nil fun a1 hf1=>?_
 refine c_seq ?_
 refine c_sr ?_
 refine c_n 1 [] [1,6] hf1 .nil fun a2 hf2=>?_
 obtain ⟨r1,hd1,hr1⟩:=bind_some hr
 refine c_call hf2 (f19_ok fuel x0 r1 hd1 h _ _ hS o_x0 c_x0 hx_x0) ?_
 rintro v1 ww1 a3 ⟨z1,k1,rfl,hS1⟩ hf3
 refine ⟨fun _=>trivial,?_⟩
 refine c_t [] [1,5] hf3 .nil fun a4 hf4=>?_
 refine c_sq [] [1,5,9] hf4 .nil fun a5 hf5=>?_
 refine c_if (r1 != (0:Int)) hf5 (fun hb1=>?_) (fun hb1=>?_)
 ·have hr2:=cond_t hb1 hr1
  refine c_sq [] [4] hf5 .nil fun a6 hf6=>?_
  refine c_ret ?_
  refine r_then ?_
  refine c_rt [] (vI r1) hf6 .nil ?_
  obtain rfl:=some_eq hr2
  exact ⟨_,rfl,z1,k1,rfl,hS1⟩
 ·have hr3:=cond_f hb1 hr1
  refine c_skip ?_
  refine n_then ?_
  refine c_seq ?_
  refine c_sq [] [13] hf5 .nil fun a7 hf7=>?_
  refine c_if (decide ((x1.length:Int) > (60:Int))) hf7 (fun hb2=>?_) (fun hb2=>?_)
  ·have hr4:=cond_t hb2 hr3
   refine c_sq [] [4] hf7 .nil fun a8 hf8=>?_
   refine c_ret ?_
   refine r_then ?_
   refine c_rt [] (vI 2) hf8 .nil ?_
   obtain rfl:=some_eq hr4
   exact ⟨_,rfl,z1,k1,rfl,hS1⟩
  ·have hr5:=cond_f hb2 hr3
   refine c_skip ?_
   refine n_then ?_
   refine c_sq [] [4] hf7 .nil fun a9 hf9=>?_
   refine c_ret ?_
   refine c_rt [] (vI 0) hf9 .nil ?_
   obtain rfl:=some_eq hr5
   exact ⟨_,rfl,z1,k1,rfl,hS1⟩
def F84 (fuel:Nat) (x0:List Part):Option (List Part) :=
  ((appC ([]) x0).bind fun d1=>(some (d1)))
set_option maxRecDepth 100000 in
theorem f84_ok (fuel:Nat) (x0:List Part) (r:List Part) (hr:F84 fuel x0=some r) (h:Zone) (L:List Atom) (w:World) (hS:St h L w) (o_x0:Option Addr) (c_x0:Nat) (hx_x0:SliceR PartT h o_x0 c_x0 x0) :
    Calls Try.prog 84 #[.slice o_x0 x0.length c_x0] w fun e w'=>∃v,e= .returned v∧(∃h',∃o0:Option Addr,∃c0:Nat,Zone.le h h'∧v= .slice o0 r.length c0∧St h' L w'∧SliceR PartT h' o0 c0 r):=by
 cases o_x0 with
 | none =>
  obtain ⟨hn1,hn2⟩:=hx_x0.hnil rfl
  subst hn1 hn2
  have hr:some ([]:List Part)=some r:=by simpa [F84,appC] using hr
  refine calls_intro (N:=8) Try.func84 (by kernel_rfl) fun a hf=>?_
  refine c_sq [] [0] hf .nil fun a1 hf1=>?_
  refine c_seq ?_
  refine c_sq [] [0,4] hf1 .nil fun a2 hf2=>?_
  refine w_if_true hf2 (by kernel_rfl) ?_
  refine c_sq [] [2] hf2 .nil fun a3 hf3=>?_
  refine c_ret ?_
  refine r_then ?_
  refine c_rt [] (.slice none 0 0) hf3 .nil ?_
  obtain rfl:=some_eq hr
  exact ⟨_,rfl,h,none,0,zr,rfl,hS,SliceR.nil' _ _⟩
 | some oa =>
  refine calls_intro (N:=8) Try.func84 (by kernel_rfl) fun a hf=>?_
  refine c_sq [] [0] hf .nil fun a1 hf1=>?_
  refine c_seq ?_
  refine c_sq [] [0,4] hf1 .nil fun a2 hf2=>?_
  refine w_if_false hf2 (by kernel_rfl) ?_
  refine c_skip ?_
  refine n_then ?_
  refine c_sr ?_
  refine p_box (i:=0) (d:=(some 5)) (cs:=[]) (T:=56) (v:=fun b1=> .slice (some ⟨b1,0,none⟩) 0 0) hS hf2 (fun b=>by kernel_rfl) fun b1 ww1 a3 hS1 hf3=>⟨fun _=>trivial,?_⟩
  have hS2:=hS1.ownBox (T:=PartT) (E:=56) (n:=0) (xs:=[]) (i:=0) rfl rfl rfl (by decide)
  refine c_n 1 [] [5,6] hf3 .nil fun a4 hf4=>?_
  obtain ⟨d1,hd1,hr1⟩:=bind_some hr
  refine p_append (T:=PartT) (i:=2) (j:=0) (d:=some 7) (o2:=(some oa)) (c2:=c_x0) (ys:=x0) el38 hS2 hf4 rfl (by kernel_rfl) (SliceR.src hx_x0 hS2) hd1 fun e1 q1 ww2 a5 hS3 hf5=>⟨fun _=>trivial,?_⟩
  refine c_t [] [2] hf5 .nil fun a6 hf6=>?_
  refine c_ret ?_
  obtain ⟨z1,k1,hS4,hx1⟩:=hS3.share (j:=0) rfl
  refine c_rt [] (.slice e1 d1.length q1) hf6 .nil ?_
  obtain rfl:=some_eq hr1
  exact ⟨_,rfl,z1,e1,q1,k1,rfl,(St.drop 1 hS4),hx1⟩
def F83_l2 (fuel:Nat) (k1:(List (Option (List (List Part))))→Int→Option (List Lot×List (List (List Part)))) (y1:Int) (p1:List (List Part)):Nat→(List (Option (List (List Part))))→Int→Option (List Lot×List (List (List Part)))
  | 0,_,_=>none
  | n1 + 1,y2,y3 =>
    let k2:(List (Option (List (List Part))))→Int→Option (List Lot×List (List (List Part))):=F83_l2 fuel k1 y1 p1 n1
    (cond (decide (y3<(p1.length:Int))) ((getI p1 y3).bind fun p2=>((getO y2 y1).bind fun p3=>((F84 fuel p2).bind fun r1=>((appC p3 ([r1])).bind fun d1=>(k2 (y2.set (Int.toNat y1) (some d1)) (w64 (y3 + (1:Int)))))))) (k1 y2 (w64 (y1 + (1:Int)))))
def F83_l1 (fuel:Nat) (x0l:List Lot) (x0h:List (List (List Part))):Nat→(List (Option (List (List Part))))→Int→Option (List Lot×List (List (List Part)))
  | 0,_,_=>none
  | n2 + 1,y4,y1 =>
    let k1:(List (Option (List (List Part))))→Int→Option (List Lot×List (List (List Part))):=F83_l1 fuel x0l x0h n2
    (cond (decide (y1<(9:Int))) ((getI x0h y1).bind fun p1=>((getI y4 y1).bind fun p4=>(F83_l2 fuel k1 y1 p1 fuel (y4.set (Int.toNat y1) (some ([]))) 0))) ((allS y4).bind fun d2=>(some (x0l,d2))))
def F83 (fuel:Nat) (x0l:List Lot) (x0h:List (List (List Part))):Option (List Lot×List (List (List Part))) :=
  ((mkC (x0l.length:Int) (⟨0,0,0,0⟩:Lot)).bind fun d3=>((cpC d3 x0l).bind fun _=>(F83_l1 fuel x0l x0h fuel (List.replicate 9 none) 0)))
set_option maxRecDepth 100000 in
theorem f83_ok (fuel:Nat) (x0l:List Lot) (x0h:List (List (List Part))) (r:List Lot×List (List (List Part))) (hr:F83 fuel x0l x0h=some r) (h:Zone) (L:List Atom) (w:World) (hS:St h L w) (o_x0l:Option Addr) (c_x0l:Nat) (hx_x0l:SliceR LotT h o_x0l c_x0l x0l) (V00 V01 V02 V03 V04 V05 V06 V07 V08:Value) (hx_x0h:(Ty.arr 9 (Ty.slice (Ty.slice PartT))).rep h [V00,V01,V02,V03,V04,V05,V06,V07,V08] x0h) :
    Calls Try.prog 83 #[.agg #[.slice o_x0l x0l.length c_x0l,V00,V01,V02,V03,V04,V05,V06,V07,V08]] w fun e w'=>∃v,e= .returned v∧(∃h',∃o0:Option Addr,∃c0:Nat,∃v1_0:Value,∃v1_1:Value,∃v1_2:Value,∃v1_3:Value,∃v1_4:Value,∃v1_5:Value,∃v1_6:Value,∃v1_7:Value,∃v1_8:Value,Zone.le h h'∧v= .agg #[.slice o0 r.1.length c0,v1_0,v1_1,v1_2,v1_3,v1_4,v1_5,v1_6,v1_7,v1_8]∧St h' (ownA (Ty.slice PartT) 40 [v1_0,v1_1,v1_2,v1_3,v1_4,v1_5,v1_6,v1_7,v1_8] r.2::L) w'∧SliceR LotT h' o0 c0 r.1):=by
 refine calls_intro (N:=49) Try.func83 (by kernel_rfl) fun a hf=>?_
 refine c_sr ?_
 refine c_box [.slice o_x0l x0l.length c_x0l,V00,V01,V02,V03,V04,V05,V06,V07,V08] 26 hS hf fun b1 ww1 a1 hS1 hf1=>⟨fun _=>trivial,?_⟩
 refine c_box [.slice none 0 0, .slice none 0 0, .slice none 0 0, .slice none 0 0, .slice none 0 0, .slice none 0 0, .slice none 0 0, .slice none 0 0, .slice none 0 0, .slice none 0 0] 26 hS1 hf1 fun b2 ww2 a2 hS2 hf2=>⟨fun _=>trivial,?_⟩
 refine c_dt ?_
 refine c_sr ?_
 refine c_n 3 [.slice o_x0l x0l.length c_x0l] [1,2,10] hf2 (.cell (hS2.box (i:=1) rfl (j:=0) rfl) .nil) fun a3 hf3=>?_
 obtain ⟨d3,hd1,hr1⟩:=bind_some hr
 refine p_make (T:=LotT) (i:=3) (d:=some 11) (x0:=(⟨0,0,0,0⟩:Lot)) el22 hS2 hf3 (by kernel_rfl) rfl hd1 fun e1 ww3 a4 hS3 hf4=>⟨fun _=>trivial,?_⟩
 refine c_t [] [1,2,3] hf4 .nil fun a5 hf5=>?_
 refine c_sr ?_
 refine c_n 3 [.slice o_x0l x0l.length c_x0l] [1,2,3,12,14] hf5 (.cell (hS3.box (i:=2) rfl (j:=0) rfl) .nil) fun a6 hf6=>?_
 obtain ⟨u1,hd2,hr2⟩:=bind_some hr1
 refine p_copy (T:=LotT) (i:=3) (j:=0) (d:=some 15) (o2:=o_x0l) (c2:=c_x0l) (ys:=x0l) el22 hS3 hf6 rfl (by kernel_rfl) (SliceR.src hx_x0l hS3) hd2 fun ww4 a7 hS4 hf7=>?_
 have hl1:=cpC_spec hd2
 have hf8:=Fr.conv (fl':=[(15,vI (x0l.length:Int)),(1,pB b1 0),(2,pB b2 0),(3, .slice (some e1) x0l.length d3.length),(12, .slice (some e1) x0l.length d3.length),(14, .slice o_x0l x0l.length c_x0l)]) hf7 (by rw [hl1] <;> kernel_rfl)
 refine ⟨fun _=>trivial,?_⟩
 refine c_dt ?_
 refine c_sr ?_
 refine c_n 2 [] [1,2,16,17] hf8 .nil fun a8 hf9=>?_
 refine c_st 2 [.slice (some e1) x0l.length d3.length,V00,V01,V02,V03,V04,V05,V06,V07,V08] hS4 hf9 rfl fun ww5 a9 hS5 hf10=>⟨fun _=>trivial,?_⟩
 refine c_dt ?_
 refine c_seq ?_
 refine c_sq [V00,V01,V02,V03,V04,V05,V06,V07,V08] [1,2,19,20] hf10 (.cell (hS5.box (i:=2) rfl (j:=1) rfl) (.cell (hS5.box (i:=2) rfl (j:=2) rfl) (.cell (hS5.box (i:=2) rfl (j:=3) rfl) (.cell (hS5.box (i:=2) rfl (j:=4) rfl) (.cell (hS5.box (i:=2) rfl (j:=5) rfl) (.cell (hS5.box (i:=2) rfl (j:=6) rfl) (.cell (hS5.box (i:=2) rfl (j:=7) rfl) (.cell (hS5.box (i:=2) rfl (j:=8) rfl) (.cell (hS5.box (i:=2) rfl (j:=9) rfl) .nil))))))))) fun a10 hf11=>?_
 refine c_block 0 ?_
 have hS6:=hS5.ownNewO (Ty.slice PartT) 40 (n:=9) (vs:=[V00,V01,V02,V03,V04,V05,V06,V07,V08]) rfl (oneCells_of (Ty.one _ (Ty.mono _ zr hx_x0h)))
 have hS6:=hS6
 refine c_loop (fun n a w=>∃z1:Zone,∃y4:List (Option (List (List Part))),∃y1:Int,∃v1:Value,∃v2:Value,∃v3:Value,∃v4:Value,∃v5:Value,∃v6:Value,∃v7:Value,∃v8:Value,∃v9:Value,Zone.le h z1∧Fr a 49 [(1,pB b1 0),(2,pB b2 0),(19, .agg #[V00,V01,V02,V03,V04,V05,V06,V07,V08]),(20,vI y1)]∧St z1 (ownO (Ty.slice PartT) 40 [v1,v2,v3,v4,v5,v6,v7,v8,v9] y4::ownS LotT 33 (some e1) d3.length x0l::box b2 [.slice none 0 0, .slice none 0 0, .slice none 0 0, .slice none 0 0, .slice none 0 0, .slice none 0 0, .slice none 0 0, .slice none 0 0, .slice none 0 0, .slice none 0 0] 26::box b1 [.slice (some e1) x0l.length d3.length,v1,v2,v3,v4,v5,v6,v7,v8,v9] 26::L) w∧(F83_l1 fuel x0l x0h n y4 y1)=some r) fuel ⟨h,(List.replicate 9 none),0,V00,V01,V02,V03,V04,V05,V06,V07,V08,zr,hf11.to,hS6,hr2⟩ ?_
 rintro n3 a11 ww6 ⟨z1,y4,y1,v1,v2,v3,v4,v5,v6,v7,v8,v9,k3,hf13,hS7,hr3⟩
 cases n3 with
 | zero=>cases hr3
 | succ n2 =>
 refine c_sq [] [1,2,19,20,21] hf13 .nil fun a12 hf14=>?_
 refine c_seq ?_
 refine c_if (decide (y1<(9:Int))) hf14 (fun hb1=>?_) (fun hb1=>?_)
 ·have hr4:=cond_t hb1 hr3
  refine c_skip ?_
  refine n_then ?_
  refine c_seq ?_
  refine c_block 1 ?_
  obtain ⟨p1,hp17332,hr5⟩:=bind_some hr4
  obtain ⟨hb2,_,hv1,e2,q1,hehv17336,hx1⟩:=arrGet (Ty.mono _ k3 hx_x0h) rfl hp17332
  obtain rfl:=List.head_eq_of_cons_eq hehv17336
  have hk1:=arrIdx hv1
  refine c_sq [.slice e2 p1.length q1] [1,2,4,5,19,20] hf14 (.prop hb2 (.prop hk1 .nil)) fun a13 hf15=>?_
  obtain ⟨p4,hp17344,hr6⟩:=bind_some hr5
  obtain ⟨hb3,hS8⟩:=hS7.ownOpenS (j:=0) rfl hp17344
  refine c_sr ?_
  refine c_n 3 [] [1,2,4,5,19,20,26] hf15 (.prop hb3 .nil) fun a14 hf16=>?_
  have hS9:=hS8.ownNil (Ty.slice PartT) 40
  refine p_storeA (i:=3) (j:=4) (b:=b1) (ix:=y1) (pre:=[.slice (some e1) x0l.length d3.length]) (vs:=[v1,v2,v3,v4,v5,v6,v7,v8,v9]) (post:=[]) (v:= .slice none 0 0) hS9 hf16 rfl (by have z2:=hb3.1; have z3:=hb3.2; simp at z3 ⊢; omega) (by kernel_rfl) rfl fun ww7 a15 hS10 hf17=>⟨fun _=>trivial,?_⟩
  obtain ⟨v10,v11,v12,v13,v14,v15,v16,v17,v18,hu17356⟩:=nine (vs:=[v1,v2,v3,v4,v5,v6,v7,v8,v9].set (Int.toNat y1) (.slice none 0 0)) (by simp)
  rw [hu17356] at hS10
  have hv2:[v10,v11,v12,v13,v14,v15,v16,v17,v18][Int.toNat y1]? =some (.slice none 0 0):=by rw [← hu17356]; exact List.getElem?_set_self (by have z2:=hb3.1; have z3:=hb3.2; simp at z3 ⊢; omega)
  have hS11:=hS10
  refine c_done ?_
  have hS12:=hS11.ownCloseO (j:=1) (k:=0) rfl rfl (by decide) (List.getElem?_eq_some_iff.1 (getI_spec hp17344).2).1
  simp only [List.length_nil] at hS12
  rw [hu17356] at hS12
  refine n_then ?_
  refine c_sq [] [1,2,4,19,20,27,28,29] hf17 .nil fun a16 hf18=>?_
  refine c_block 2 ?_
  refine c_loop (fun n a w=>∃z4:Zone,∃y2:List (Option (List (List Part))),∃y3:Int,∃v19:Value,∃v20:Value,∃v21:Value,∃v22:Value,∃v23:Value,∃v24:Value,∃v25:Value,∃v26:Value,∃v27:Value,Zone.le z1 z4∧Fr a 49 [(1,pB b1 0),(2,pB b2 0),(4,vI y1),(19, .agg #[V00,V01,V02,V03,V04,V05,V06,V07,V08]),(20,vI y1),(27, .slice e2 p1.length q1),(28,vI (p1.length:Int)),(29,vI y3)]∧St z4 (emp::ownO (Ty.slice PartT) 40 [v19,v20,v21,v22,v23,v24,v25,v26,v27] y2::ownS LotT 33 (some e1) d3.length x0l::box b2 [.slice none 0 0, .slice none 0 0, .slice none 0 0, .slice none 0 0, .slice none 0 0, .slice none 0 0, .slice none 0 0, .slice none 0 0, .slice none 0 0, .slice none 0 0] 26::box b1 [.slice (some e1) x0l.length d3.length,v19,v20,v21,v22,v23,v24,v25,v26,v27] 26::L) w∧(F83_l2 fuel (F83_l1 fuel x0l x0h n2) y1 p1 n y2 y3)=some r) fuel ⟨z1,(y4.set (Int.toNat y1) (some ([]))),0,v10,v11,v12,v13,v14,v15,v16,v17,v18,zr,hf18.to,hS12,hr6⟩ ?_
  rintro n4 a17 ww8 ⟨z4,y2,y3,v19,v20,v21,v22,v23,v24,v25,v26,v27,k4,hf20,hS13,hr7⟩
  cases n4 with
  | zero=>cases hr7
  | succ n1 =>
  refine c_sq [] [1,2,4,19,20,27,28,29,30] hf20 .nil fun a18 hf21=>?_
  refine c_seq ?_
  refine c_if (decide (y3<(p1.length:Int))) hf21 (fun hb4=>?_) (fun hb4=>?_)
  ·have hr8:=cond_t hb4 hr7
   refine c_skip ?_
   refine n_then ?_
   refine c_seq ?_
   refine c_block 3 ?_
   refine c_sr ?_
   obtain ⟨p2,hp18133,hr9⟩:=bind_some hr8
   obtain ⟨ad1,ho1,hb5,cc1,hc1,hk2⟩:=SliceR.getI (SliceR.mono k4 hx1) hp18133
   obtain ⟨e3,q2,rfl,hx2⟩:=hc1
   refine c_n 2 [.pointer (some ad1), .slice e3 p2.length q2] [1,2,4,19,20,27,28,29,32] hf21 (.prop ho1 (.prop hb5 (.cell (hS13.cell (hk2 0 _ rfl)) .nil))) fun a19 hf22=>?_
   refine c_box [.slice none 0 0] 40 hS13 hf22 fun b3 ww9 a20 hS14 hf23=>⟨fun _=>trivial,?_⟩
   refine c_st 0 [.slice e3 p2.length q2] hS14 hf23 rfl fun ww10 a21 hS15 hf24=>⟨fun _=>trivial,?_⟩
   refine c_dt ?_
   obtain ⟨p3,hp18156,hr10⟩:=bind_some hr9
   obtain ⟨e4,q3,hv3,hb6,hS16⟩:=hS15.ownOpenO (j:=2) rfl hp18156
   have hS17:=hS16.drew
   have s1:=Sub.of zr hS17
   refine c_regD [(0,true),(1,true),(2,true),(3,true),(4,true),(5,true),(6,true),(11,true),(7,false),(8,true),(9,false),(10,false),(12,true),(13,false)] [10,13] _ s1 ?_
   refine c_S 8 [.slice e4 p3.length q3, .slice e3 p2.length q2] [1,2,4,19,20,27,28,29,33,37,39,44] s1 hf24 (fun _ s=>(.prop hb6 (.cell ((arrAddr b1 1 (Int.toNat y1)) ▸ (s.box (i:=6) rfl (getElem?_app_right [.slice (some e1) x0l.length d3.length] _ _ hv3 []))) (.cell (s.box (i:=1) rfl (j:=0) rfl) .nil)))) .nil fun a22 hf25=>?_
   obtain ⟨r1,hd3,hr11⟩:=bind_some hr10
   refine c_call hf25 (f84_ok fuel p2 r1 hd3 z4 _ _ hS17 e3 q2 hx2) ?_
   rintro v28 ww11 a23 ⟨z5,e5,q4,k5,rfl,hS18,hx3⟩ hf26
   refine ⟨fun _=>Sub.of k5 hS18,?_⟩
   have s2:=Sub.of k5 hS18
   refine c_S 1 [] [1,2,4,19,20,27,28,29,33,37,41,44] s2 hf26 (fun _ s=> .nil) .nil fun a24 hf27=>?_
   refine p_box (i:=9) (d:=(some 42)) (cs:=[.slice e5 r1.length q4]) (T:=40) (v:=fun b4=> .slice (some ⟨b4,0,none⟩) 1 1) hS18 hf27 (fun b=>by kernel_rfl) fun b4 ww12 a25 hS19 hf28=>⟨fun _=>Sub.of k5 (St.drop 1 hS19),?_⟩
   have hS20:=hS19.ownBox (T:=(Ty.slice PartT)) (E:=40) (n:=1) (xs:=[r1]) (i:=0) rfl (Rows.cons (c:=[.slice e5 r1.length q4]) (sliceRep (hx3)) rfl) rfl (by decide)
   have s3:=Sub.of k5 (St.drop 1 hS20)
   obtain ⟨d1,hd4,hr12⟩:=bind_some hr11
   refine p_append (T:=(Ty.slice PartT)) (i:=10) (j:=1) (d:=some 43) (o2:=(some ⟨b4,0,none⟩)) (c2:=1) (ys:=([r1])) el23 hS20 hf28 rfl (by kernel_rfl) (hS20.ownSrc (j:=0) rfl) hd4 fun e6 q5 ww13 a26 hS21 hf29=>⟨fun e=>absurd e (by decide),?_⟩
   refine p_qP 1 [] [(1,pB b1 0),(2,pB b2 0),(4,vI y1),(19, .agg #[V00,V01,V02,V03,V04,V05,V06,V07,V08]),(20,vI y1),(27, .slice e2 p1.length q1),(28,vI (p1.length:Int)),(29,vI y3),(43, .slice e6 d1.length q5),(45, .pointer (some ((⟨b1,1,none⟩:Addr).add (Int.toNat y1 * 1))))] [.prop (0≤y1∧y1<(9:Nat))] hf29 (by kernel_rfl) (fun _=>(.prop hb6 .nil)) fun a27 hf30=>?_
   refine p_storeA (i:=13) (j:=7) (b:=b1) (ix:=y1) (pre:=[.slice (some e1) x0l.length d3.length]) (vs:=[v19,v20,v21,v22,v23,v24,v25,v26,v27]) (post:=[]) (v:= .slice e6 d1.length q5) hS21 hf30 rfl (by have z2:=hb6.1; have z3:=hb6.2; simp at z3 ⊢; omega) (by kernel_rfl) rfl fun ww14 a28 hS22 hf31=>⟨fun e=>absurd e (by decide),?_⟩
   obtain ⟨v29,v30,v31,v32,v33,v34,v35,v36,v37,hu18216⟩:=nine (vs:=[v19,v20,v21,v22,v23,v24,v25,v26,v27].set (Int.toNat y1) (.slice e6 d1.length q5)) (by simp)
   rw [hu18216] at hS22
   have hv4:[v29,v30,v31,v32,v33,v34,v35,v36,v37][Int.toNat y1]? =some (.slice e6 d1.length q5):=by rw [← hu18216]; exact List.getElem?_set_self (by have z2:=hb6.1; have z3:=hb6.2; simp at z3 ⊢; omega)
   have hS23:=hS22
   refine c_done ?_
   have hS24:=hS23.ownCloseO (j:=4) (k:=1) rfl rfl (by decide) (getO_spec hp18156).1
   rw [hu18216] at hS24
   refine n_block ?_
   refine n_then ?_
   refine c_q [] [1,2,4,19,20,27,28,29] hf31 .nil fun a29 hf32=>?_
   refine n_then ?_
   exact ⟨n1,Nat.lt_succ_self n1,z5,(y2.set (Int.toNat y1) (some d1)),(w64 (y3 + (1:Int))),v29,v30,v31,v32,v33,v34,v35,v36,v37,(zt k4 k5),hf32.to,(St.drop 3 hS24),hr12⟩
  ·have hr13:=cond_f hb4 hr7
   refine c_exit 2 ?_
   refine x_then ?_
   refine x_then ?_
   refine x_block ?_
   refine n_block ?_
   refine n_then ?_
   refine c_q [] [1,2,19,20] hf21 .nil fun a30 hf34=>?_
   refine n_then ?_
   exact ⟨n2,Nat.lt_succ_self n2,z4,y2,(w64 (y1 + (1:Int))),v19,v20,v21,v22,v23,v24,v25,v26,v27,(zt k3 k4),hf34.to,(St.drop 1 hS13),hr13⟩
 ·have hr14:=cond_f hb1 hr3
  refine c_exit 0 ?_
  refine x_then ?_
  refine x_then ?_
  refine x_block ?_
  refine n_then ?_
  refine c_sr ?_
  refine c_n 1 [.slice (some e1) x0l.length d3.length,v1,v2,v3,v4,v5,v6,v7,v8,v9] [2,48] hf14 (.cell (hS7.box (i:=3) rfl (j:=0) rfl) (.cell (hS7.box (i:=3) rfl (j:=1) rfl) (.cell (hS7.box (i:=3) rfl (j:=2) rfl) (.cell (hS7.box (i:=3) rfl (j:=3) rfl) (.cell (hS7.box (i:=3) rfl (j:=4) rfl) (.cell (hS7.box (i:=3) rfl (j:=5) rfl) (.cell (hS7.box (i:=3) rfl (j:=6) rfl) (.cell (hS7.box (i:=3) rfl (j:=7) rfl) (.cell (hS7.box (i:=3) rfl (j:=8) rfl) (.cell (hS7.box (i:=3) rfl (j:=9) rfl) .nil)))))))))) fun a31 hf36=>?_
  have hq1:=hS7.ownOnesO (j:=0) rfl
  refine p_store_eq (i:=1) (j:=2) (b:=b2) (off:=0) (vs:=[.slice (some e1) x0l.length d3.length,v1,v2,v3,v4,v5,v6,v7,v8,v9]) (cs':=[.slice (some e1) x0l.length d3.length,v1,v2,v3,v4,v5,v6,v7,v8,v9]) hS7 hf36 rfl (by kernel_rfl) hq1 rfl fun ww15 a32 hS25 hf37=>⟨fun _=>trivial,?_⟩
  refine c_dt ?_
  refine c_ret ?_
  obtain ⟨z6,k6,hS26,hx4⟩:=hS25.share (j:=1) rfl
  obtain ⟨d2,hd5,hr15⟩:=bind_some hr14
  have hS27:=hS26.ownAll (j:=0) rfl hd5
  refine c_rt [.slice (some e1) x0l.length d3.length,v1,v2,v3,v4,v5,v6,v7,v8,v9] (.agg #[.slice (some e1) x0l.length d3.length,v1,v2,v3,v4,v5,v6,v7,v8,v9]) hf37 (.cell (hS27.box (i:=2) rfl (j:=0) rfl) (.cell (hS27.box (i:=2) rfl (j:=1) rfl) (.cell (hS27.box (i:=2) rfl (j:=2) rfl) (.cell (hS27.box (i:=2) rfl (j:=3) rfl) (.cell (hS27.box (i:=2) rfl (j:=4) rfl) (.cell (hS27.box (i:=2) rfl (j:=5) rfl) (.cell (hS27.box (i:=2) rfl (j:=6) rfl) (.cell (hS27.box (i:=2) rfl (j:=7) rfl) (.cell (hS27.box (i:=2) rfl (j:=8) rfl) (.cell (hS27.box (i:=2) rfl (j:=9) rfl) .nil)))))))))) ?_
  obtain rfl:=some_eq hr15
  exact ⟨_,rfl,z6,(some e1),d3.length,v1,v2,v3,v4,v5,v6,v7,v8,v9,(zt k3 k6),rfl,(St.pick 4 [0] hS27 (by kernel_rfl)),hx4⟩
def F81_l3 (k1:Pl→Int→Option (Pl)) (y1:Int) (y2:Pl) (y3:Int) (p1:List Part):Nat→(List (Int×Bool))→Int→Option (Pl)
  | 0,_,_=>none
  | n1 + 1,y4,y5 =>
    let k2:(List (Int×Bool))→Int→Option (Pl):=F81_l3 k1 y1 y2 y3 p1 n1
    (cond (decide (y5<(p1.length:Int))) ((getI p1 y5).bind fun p2=>(k2 (putK y4 p2.lot true) (w64 (y5 + (1:Int))))) ((getI y2.may y1).bind fun p3=>((appC p3 ([y4])).bind fun d1=>(k1 (⟨y2.lots,y2.holds,(y2.may.set (Int.toNat y1) d1)⟩:Pl) (w64 (y3 + (1:Int)))))))
def F81_l2 (fuel:Nat) (k3:Pl→Int→Option (Pl)) (y1:Int) (p4:List (List Part)):Nat→Pl→Int→Option (Pl)
  | 0,_,_=>none
  | n2 + 1,y2,y3 =>
    let k1:Pl→Int→Option (Pl):=F81_l2 fuel k3 y1 p4 n2
    (cond (decide (y3<(p4.length:Int))) ((getI p4 y3).bind fun p1=>(F81_l3 k1 y1 y2 y3 p1 fuel ([]) 0)) (k3 y2 (w64 (y1 + (1:Int)))))
def F81_l1 (fuel:Nat) (x0h:List (List (List Part))):Nat→Pl→Int→Option (Pl)
  | 0,_,_=>none
  | n3 + 1,y6,y1 =>
    let k3:Pl→Int→Option (Pl):=F81_l1 fuel x0h n3
    (cond (decide (y1<(9:Int))) ((getI x0h y1).bind fun p4=>(F81_l2 fuel k3 y1 p4 fuel y6 0)) (some (y6)))
def F81 (fuel:Nat) (x0l:List Lot) (x0h:List (List (List Part))):Option (Pl) :=
  ((F83 fuel x0l x0h).bind fun r1=>(F81_l1 fuel x0h fuel (⟨r1.1,r1.2,[[],[],[],[],[],[],[],[],[]]⟩:Pl) 0))
set_option maxRecDepth 100000 in
theorem f81_ok (fuel:Nat) (x0l:List Lot) (x0h:List (List (List Part))) (r:Pl) (hr:F81 fuel x0l x0h=some r) (h:Zone) (L:List Atom) (w:World) (hS:St h L w) (o_x0l:Option Addr) (c_x0l:Nat) (hx_x0l:SliceR LotT h o_x0l c_x0l x0l) (V00 V01 V02 V03 V04 V05 V06 V07 V08:Value) (hx_x0h:(Ty.arr 9 (Ty.slice (Ty.slice PartT))).rep h [V00,V01,V02,V03,V04,V05,V06,V07,V08] x0h) :
    Calls Try.prog 81 #[.agg #[.slice o_x0l x0l.length c_x0l,V00,V01,V02,V03,V04,V05,V06,V07,V08]] w fun e w'=>∃v,e= .returned v∧(∃h',∃b1:Nat,Zone.le h h'∧v=pB b1 0∧St h' (plA 126 40 117 b1 r::L) w'):=by
 refine calls_intro (N:=56) Try.func81 (by kernel_rfl) fun a hf=>?_
 refine c_sr ?_
 refine c_box [.slice o_x0l x0l.length c_x0l,V00,V01,V02,V03,V04,V05,V06,V07,V08] 26 hS hf fun b2 ww1 a1 hS1 hf1=>⟨fun _=>trivial,?_⟩
 refine c_t [] [1] hf1 .nil fun a2 hf2=>?_
 refine c_sr ?_
 refine c_n 1 [.slice o_x0l x0l.length c_x0l,V00,V01,V02,V03,V04,V05,V06,V07,V08] [1,11] hf2 (.cell (hS1.box (i:=0) rfl (j:=0) rfl) (.cell (hS1.box (i:=0) rfl (j:=1) rfl) (.cell (hS1.box (i:=0) rfl (j:=2) rfl) (.cell (hS1.box (i:=0) rfl (j:=3) rfl) (.cell (hS1.box (i:=0) rfl (j:=4) rfl) (.cell (hS1.box (i:=0) rfl (j:=5) rfl) (.cell (hS1.box (i:=0) rfl (j:=6) rfl) (.cell (hS1.box (i:=0) rfl (j:=7) rfl) (.cell (hS1.box (i:=0) rfl (j:=8) rfl) (.cell (hS1.box (i:=0) rfl (j:=9) rfl) .nil)))))))))) fun a3 hf3=>?_
 obtain ⟨r1,hd1,hr1⟩:=bind_some hr
 refine c_call hf3 (f83_ok fuel x0l x0h r1 hd1 h _ _ hS1 o_x0l c_x0l hx_x0l V00 V01 V02 V03 V04 V05 V06 V07 V08 (Ty.mono _ zr hx_x0h)) ?_
 rintro v1 ww2 a4 ⟨z1,e1,q1,v2,v3,v4,v5,v6,v7,v8,v9,v10,k4,rfl,hS2,hx1⟩ hf4
 refine ⟨fun _=>trivial,?_⟩
 refine c_n 1 [] [1,13] hf4 .nil fun a5 hf5=>?_
 refine c_box [.slice e1 r1.1.length q1,v2,v3,v4,v5,v6,v7,v8,v9,v10, .slice none 0 0, .slice none 0 0, .slice none 0 0, .slice none 0 0, .slice none 0 0, .slice none 0 0, .slice none 0 0, .slice none 0 0, .slice none 0 0] 126 hS2 hf5 fun b3 ww3 a6 hS3 hf6=>⟨fun _=>trivial,?_⟩
 refine c_z [] [1,3] hf6 .nil fun a7 hf7=>?_
 have hS4:=hS3.ownNew (Ty.map Value.bool) 117 9
 have hS4:=hS4
 have hS5:=hS4.plClose (i:=1) (j:=2) (k:=0) rfl hx1 rfl rfl (by decide) (by decide) (by decide)
 refine n_then ?_
 refine c_seq ?_
 refine c_sq [V00,V01,V02,V03,V04,V05,V06,V07,V08] [3,16,17] hf7 (.cell (hS5.box (i:=3) rfl (j:=1) rfl) (.cell (hS5.box (i:=3) rfl (j:=2) rfl) (.cell (hS5.box (i:=3) rfl (j:=3) rfl) (.cell (hS5.box (i:=3) rfl (j:=4) rfl) (.cell (hS5.box (i:=3) rfl (j:=5) rfl) (.cell (hS5.box (i:=3) rfl (j:=6) rfl) (.cell (hS5.box (i:=3) rfl (j:=7) rfl) (.cell (hS5.box (i:=3) rfl (j:=8) rfl) (.cell (hS5.box (i:=3) rfl (j:=9) rfl) .nil))))))))) fun a8 hf8=>?_
 refine c_block 0 ?_
 refine c_loop (fun n a w=>∃z2:Zone,∃y6:Pl,∃y1:Int,Zone.le z1 z2∧Fr a 56 [(3,pB b3 0),(16, .agg #[V00,V01,V02,V03,V04,V05,V06,V07,V08]),(17,vI y1)]∧St z2 (emp::plA 126 40 117 b3 y6::emp::box b2 [.slice o_x0l x0l.length c_x0l,V00,V01,V02,V03,V04,V05,V06,V07,V08] 26::L) w∧(F81_l1 fuel x0h n y6 y1)=some r) fuel ⟨z1,(⟨r1.1,r1.2,[[],[],[],[],[],[],[],[],[]]⟩:Pl),0,zr,hf8.to,hS5,hr1⟩ ?_
 rintro n4 a9 ww4 ⟨z2,y6,y1,k5,hf10,hS6,hr2⟩
 cases n4 with
 | zero=>cases hr2
 | succ n3 =>
 refine c_sq [] [3,16,17,18] hf10 .nil fun a10 hf11=>?_
 refine c_seq ?_
 refine c_if (decide (y1<(9:Int))) hf11 (fun hb1=>?_) (fun hb1=>?_)
 ·have hr3:=cond_t hb1 hr2
  refine c_skip ?_
  refine n_then ?_
  refine c_seq ?_
  refine c_block 1 ?_
  obtain ⟨p4,hp87264,hr4⟩:=bind_some hr3
  obtain ⟨hb2,_,hv1,e2,q2,hehv87268,hx2⟩:=arrGet (Ty.mono _ (zt k4 k5) hx_x0h) rfl hp87264
  obtain rfl:=List.head_eq_of_cons_eq hehv87268
  have hk1:=arrIdx hv1
  refine c_sq [.slice e2 p4.length q2] [3,4,5,16,17] hf11 (.prop hb2 (.prop hk1 .nil)) fun a11 hf12=>?_
  refine c_sq [] [3,4,16,17,21,22,23] hf12 .nil fun a12 hf13=>?_
  refine c_block 2 ?_
  refine c_loop (fun n a w=>∃z3:Zone,∃y2:Pl,∃y3:Int,Zone.le z2 z3∧Fr a 56 [(3,pB b3 0),(4,vI y1),(16, .agg #[V00,V01,V02,V03,V04,V05,V06,V07,V08]),(17,vI y1),(21, .slice e2 p4.length q2),(22,vI (p4.length:Int)),(23,vI y3)]∧St z3 (emp::plA 126 40 117 b3 y2::emp::box b2 [.slice o_x0l x0l.length c_x0l,V00,V01,V02,V03,V04,V05,V06,V07,V08] 26::L) w∧(F81_l2 fuel (F81_l1 fuel x0h n3) y1 p4 n y2 y3)=some r) fuel ⟨z2,y6,0,zr,hf13.to,hS6,hr4⟩ ?_
  rintro n5 a13 ww5 ⟨z3,y2,y3,k6,hf15,hS7,hr5⟩
  cases n5 with
  | zero=>cases hr5
  | succ n2 =>
  refine c_sq [] [3,4,16,17,21,22,23,24] hf15 .nil fun a14 hf16=>?_
  refine c_seq ?_
  refine c_if (decide (y3<(p4.length:Int))) hf16 (fun hb3=>?_) (fun hb3=>?_)
  ·have hr6:=cond_t hb3 hr5
   refine c_skip ?_
   refine n_then ?_
   refine c_seq ?_
   refine c_block 3 ?_
   refine c_sr ?_
   obtain ⟨p1,hp92352,hr7⟩:=bind_some hr6
   obtain ⟨ad1,ho1,hb4,cc1,hc1,hk2⟩:=SliceR.getI (SliceR.mono k6 hx2) hp92352
   obtain ⟨e3,q3,rfl,hx3⟩:=hc1
   refine c_n 2 [.pointer (some ad1), .slice e3 p1.length q3] [3,4,16,17,21,22,23,26] hf16 (.prop ho1 (.prop hb4 (.cell (hS7.cell (hk2 0 _ rfl)) .nil))) fun a15 hf17=>?_
   refine c_box [.slice none 0 0] 40 hS7 hf17 fun b4 ww6 a16 hS8 hf18=>⟨fun _=>trivial,?_⟩
   refine c_st 0 [.slice e3 p1.length q3] hS8 hf18 rfl fun ww7 a17 hS9 hf19=>⟨fun _=>trivial,?_⟩
   refine c_dt ?_
   refine c_sr ?_
   refine p_makeMap (i:=0) (d:=(some 27)) Value.bool hS9 hf19 (fun b=>by kernel_rfl) fun b5 ww8 a18 hS10 hf20=>⟨fun _=>trivial,?_⟩
   refine c_t [] [3,4,7,8,16,17,21,22,23] hf20 .nil fun a19 hf21=>?_
   refine c_seq ?_
   refine c_sq [.slice e3 p1.length q3] [3,4,8,16,17,21,22,23,29,30,31] hf21 (.cell (hS10.box (i:=1) rfl (j:=0) rfl) .nil) fun a20 hf22=>?_
   refine c_block 4 ?_
   refine c_loop (fun n a w=>∃z4:Zone,∃y4:List (Int×Bool),∃y5:Int,Zone.le z3 z4∧Fr a 56 [(3,pB b3 0),(4,vI y1),(8, .map (some b5)),(16, .agg #[V00,V01,V02,V03,V04,V05,V06,V07,V08]),(17,vI y1),(21, .slice e2 p4.length q2),(22,vI (p4.length:Int)),(23,vI y3),(29, .slice e3 p1.length q3),(30,vI (p1.length:Int)),(31,vI y5)]∧St z4 (mapA Value.bool b5 y4::box b4 [.slice e3 p1.length q3] 40::emp::plA 126 40 117 b3 y2::emp::box b2 [.slice o_x0l x0l.length c_x0l,V00,V01,V02,V03,V04,V05,V06,V07,V08] 26::L) w∧(F81_l3 (F81_l2 fuel (F81_l1 fuel x0h n3) y1 p4 n2) y1 y2 y3 p1 n y4 y5)=some r) fuel ⟨z3,[],0,zr,hf22.to,hS10,hr7⟩ ?_
   rintro n6 a21 ww9 ⟨z4,y4,y5,k7,hf24,hS11,hr8⟩
   cases n6 with
   | zero=>cases hr8
   | succ n1 =>
   refine c_sq [] [3,4,8,16,17,21,22,23,29,30,31,32] hf24 .nil fun a22 hf25=>?_
   refine c_seq ?_
   refine c_if (decide (y5<(p1.length:Int))) hf25 (fun hb5=>?_) (fun hb5=>?_)
   ·have hr9:=cond_t hb5 hr8
    refine c_skip ?_
    refine n_then ?_
    refine c_seq ?_
    refine c_block 5 ?_
    refine c_sr ?_
    obtain ⟨p2,hp92954,hr10⟩:=bind_some hr9
    obtain ⟨ad2,ho2,hb6,cc2,hc2,hk3⟩:=SliceR.getI (SliceR.mono k7 hx3) hp92954
    subst hc2
    refine c_n 2 [.pointer (some ad2),vI p2.lot,vI p2.mass] [3,4,8,16,17,21,22,23,29,30,31,34] hf25 (.prop ho2 (.prop hb6 (.cell (hS11.cell (hk3 0 _ rfl)) (.cell (hS11.cell (hk3 1 _ rfl)) .nil)))) fun a23 hf26=>?_
    refine c_box [vI 0,vI 0] 56 hS11 hf26 fun b6 ww10 a24 hS12 hf27=>⟨fun _=>trivial,?_⟩
    refine c_st 0 [vI p2.lot,vI p2.mass] hS12 hf27 rfl fun ww11 a25 hS13 hf28=>⟨fun _=>trivial,?_⟩
    refine c_dt ?_
    refine c_reg ?_
    refine c_n 3 [vI p2.lot] [3,4,8,16,17,21,22,23,29,30,31,35,37] hf28 (.cell (hS13.box (i:=0) rfl (j:=0) rfl) .nil) fun a26 hf29=>?_
    refine p_put (i:=3) (j:=1) (t:=117) (r:=b5) (k:=p2.lot) (v:=true) hS13 hf29 rfl (by kernel_rfl) mp117 fun ww12 a27 hS14 hf30=>⟨fun _=>trivial,?_⟩
    refine c_done ?_
    refine n_block ?_
    refine n_then ?_
    refine c_q [] [3,4,8,16,17,21,22,23,29,30,31] hf30 .nil fun a28 hf31=>?_
    refine n_then ?_
    exact ⟨n1,Nat.lt_succ_self n1,z4,(putK y4 p2.lot true),(w64 (y5 + (1:Int))),k7,hf31.to,(St.drop 1 hS14),hr10⟩
   ·have hr11:=cond_f hb5 hr8
    refine c_exit 4 ?_
    refine x_then ?_
    refine x_then ?_
    refine x_block ?_
    refine n_then ?_
    obtain ⟨e4,q4,v11,v12,v13,v14,v15,v16,v17,v18,v19,v20,v21,v22,v23,v24,v25,v26,v27,v28,hx4,hS15⟩:=hS11.plOpen (i:=3) rfl
    obtain ⟨p3,hp93011,hr12⟩:=bind_some hr11
    obtain ⟨e5,q5,hv2,hb7,hS16⟩:=hS15.ownOpen (j:=1) rfl hp93011
    have hS17:=hS16.drew
    have s1:=Sub.of zr (hS17.mask (i:=3) rfl)
    refine c_regD [(0,true),(1,true),(2,true),(3,true),(4,true),(5,true),(6,true),(7,true),(8,true),(11,true),(12,true),(9,false),(10,false),(13,true),(14,false)] [10,14] _ s1 ?_
    refine c_S 11 [.slice e5 p3.length q5] [3,4,16,17,21,22,23,40,46,47,51] s1 hf25 (fun _ s=>(.prop hb7 (.cell ((arrAddr b3 10 (Int.toNat y1)) ▸ (s.box (i:=6) rfl (getElem?_app_right [.slice e4 y2.lots.length q4,v11,v12,v13,v14,v15,v16,v17,v18,v19] _ _ hv2 []))) .nil))) .nil fun a29 hf33=>?_
    obtain ⟨z5,k8,hS18,hx5⟩:=hS17.mapShare (j:=3) rfl
    refine p_box (i:=9) (d:=(some 48)) (cs:=[.map (some b5)]) (T:=117) (v:=fun b7=> .slice (some ⟨b7,0,none⟩) 1 1) hS18 hf33 (fun b=>by kernel_rfl) fun b7 ww13 a30 hS19 hf34=>⟨fun _=>Sub.of k8 ((St.drop 1 hS19).mask (i:=3) rfl),?_⟩
    have hS20:=hS19.ownBox (T:=(Ty.map Value.bool)) (E:=117) (n:=1) (xs:=[y4]) (i:=0) rfl (Rows.cons (c:=[.map (some b5)]) (mapRep hx5) rfl) rfl (by decide)
    have s2:=Sub.of k8 ((St.drop 1 hS20).mask (i:=3) rfl)
    obtain ⟨d1,hd2,hr13⟩:=bind_some hr12
    refine p_append (T:=(Ty.map Value.bool)) (i:=10) (j:=1) (d:=some 49) (o2:=(some ⟨b7,0,none⟩)) (c2:=1) (ys:=([y4])) el123 hS20 hf34 rfl (by kernel_rfl) (hS20.ownSrc (j:=0) rfl) hd2 fun e6 q6 ww14 a31 hS21 hf35=>⟨fun e=>absurd e (by decide),?_⟩
    refine p_qP 1 [] [(3,pB b3 0),(4,vI y1),(16, .agg #[V00,V01,V02,V03,V04,V05,V06,V07,V08]),(17,vI y1),(21, .slice e2 p4.length q2),(22,vI (p4.length:Int)),(23,vI y3),(49, .slice e6 d1.length q6),(52, .pointer (some ((⟨b3,10,none⟩:Addr).add (Int.toNat y1 * 1))))] [.prop (0≤y1∧y1<(9:Nat))] hf35 (by kernel_rfl) (fun _=>(.prop hb7 .nil)) fun a32 hf36=>?_
    refine p_storeA (i:=14) (j:=7) (b:=b3) (ix:=y1) (pre:=[.slice e4 y2.lots.length q4,v11,v12,v13,v14,v15,v16,v17,v18,v19]) (vs:=[v20,v21,v22,v23,v24,v25,v26,v27,v28]) (post:=[]) (v:= .slice e6 d1.length q6) hS21 hf36 rfl (by have z6:=hb7.1; have z7:=hb7.2; simp at z7 ⊢; omega) (by kernel_rfl) rfl fun ww15 a33 hS22 hf37=>⟨fun e=>absurd e (by decide),?_⟩
    obtain ⟨v29,v30,v31,v32,v33,v34,v35,v36,v37,hu93054⟩:=nine (vs:=[v20,v21,v22,v23,v24,v25,v26,v27,v28].set (Int.toNat y1) (.slice e6 d1.length q6)) (by simp)
    rw [hu93054] at hS22
    have hv3:[v29,v30,v31,v32,v33,v34,v35,v36,v37][Int.toNat y1]? =some (.slice e6 d1.length q6):=by rw [← hu93054]; exact List.getElem?_set_self (by have z6:=hb7.1; have z7:=hb7.2; simp at z7 ⊢; omega)
    have hS23:=hS22
    refine c_done ?_
    have hS24:=hS23.ownClose (j:=3) (k:=1) rfl rfl (by decide) (List.getElem?_eq_some_iff.1 (getI_spec hp93011).2).1
    rw [hu93054] at hS24
    have hS25:=hS24.plClose (i:=7) (j:=2) (k:=3) rfl (SliceR.mono k8 hx4) rfl rfl (by decide) (by decide) (by decide)
    refine n_block ?_
    refine n_then ?_
    refine c_q [] [3,4,16,17,21,22,23] hf37 .nil fun a34 hf38=>?_
    refine n_then ?_
    exact ⟨n2,Nat.lt_succ_self n2,z5,(⟨y2.lots,y2.holds,(y2.may.set (Int.toNat y1) d1)⟩:Pl),(w64 (y3 + (1:Int))),(zt (zt k6 k7) k8),hf38.to,(St.drop 6 hS25),hr13⟩
  ·have hr14:=cond_f hb3 hr5
   refine c_exit 2 ?_
   refine x_then ?_
   refine x_then ?_
   refine x_block ?_
   refine n_block ?_
   refine n_then ?_
   refine c_q [] [3,16,17] hf16 .nil fun a35 hf40=>?_
   refine n_then ?_
   exact ⟨n3,Nat.lt_succ_self n3,z3,y2,(w64 (y1 + (1:Int))),(zt k5 k6),hf40.to,hS7,hr14⟩
 ·have hr15:=cond_f hb1 hr2
  refine c_exit 0 ?_
  refine x_then ?_
  refine x_then ?_
  refine x_block ?_
  refine n_then ?_
  refine c_sq [] [2] hf11 .nil fun a36 hf42=>?_
  refine c_ret ?_
  refine c_rt [] (pB b3 0) hf42 .nil ?_
  obtain rfl:=some_eq hr15
  exact ⟨_,rfl,z2,b3,(zt k4 k5),rfl,(St.pick 4 [1] hS6 (by kernel_rfl))⟩
def F125 (fuel:Nat):Option (List (Int×DRow)) :=
  (some ((putK (putK (putK (putK (putK (putK ([]) 1 (⟨true,false,true,true,(some 138)⟩:DRow)) 2 (⟨true,false,true,true,(some 139)⟩:DRow)) 3 (⟨false,true,false,true,(some 140)⟩:DRow)) 4 (⟨false,true,true,true,(some 141)⟩:DRow)) 5 (⟨false,true,false,true,(some 142)⟩:DRow)) 6 (⟨false,true,false,false,(some 143)⟩:DRow))))
set_option maxRecDepth 100000 in
theorem f125_ok (fuel:Nat)  (r:List (Int×DRow)) (hr:F125 fuel=some r) (h:Zone) (L:List Atom) (w:World) (hS:St h L w)  :
    Calls Try.prog 125 #[] w fun e w'=>∃v,e= .returned v∧(∃h',∃o0:Option Nat,Zone.le h h'∧v= .map o0∧St h' L w'∧MapR rowV h' o0 r):=by
 refine calls_intro (N:=15) Try.func125 (by kernel_rfl) fun a hf=>?_
 refine c_sq [] [] hf .nil fun a1 hf1=>?_
 refine c_sr ?_
 refine p_makeMap (i:=0) (d:=(some 1)) rowV hS hf1 (fun b=>by kernel_rfl) fun b1 ww1 a2 hS1 hf2=>⟨fun _=>trivial,?_⟩
 refine c_n 2 [] [1,3] hf2 .nil fun a3 hf3=>?_
 refine p_put (i:=3) (j:=0) (t:=164) (r:=b1) (k:=1) (v:=(⟨true,false,true,true,(some 138)⟩:DRow)) hS1 hf3 rfl (by kernel_rfl) mp164 fun ww2 a4 hS2 hf4=>⟨fun _=>trivial,?_⟩
 refine c_n 2 [] [1,5] hf4 .nil fun a5 hf5=>?_
 refine p_put (i:=6) (j:=0) (t:=164) (r:=b1) (k:=2) (v:=(⟨true,false,true,true,(some 139)⟩:DRow)) hS2 hf5 rfl (by kernel_rfl) mp164 fun ww3 a6 hS3 hf6=>⟨fun _=>trivial,?_⟩
 refine c_n 2 [] [1,7] hf6 .nil fun a7 hf7=>?_
 refine p_put (i:=9) (j:=0) (t:=164) (r:=b1) (k:=3) (v:=(⟨false,true,false,true,(some 140)⟩:DRow)) hS3 hf7 rfl (by kernel_rfl) mp164 fun ww4 a8 hS4 hf8=>⟨fun _=>trivial,?_⟩
 refine c_n 2 [] [1,9] hf8 .nil fun a9 hf9=>?_
 refine p_put (i:=12) (j:=0) (t:=164) (r:=b1) (k:=4) (v:=(⟨false,true,true,true,(some 141)⟩:DRow)) hS4 hf9 rfl (by kernel_rfl) mp164 fun ww5 a10 hS5 hf10=>⟨fun _=>trivial,?_⟩
 refine c_n 2 [] [1,11] hf10 .nil fun a11 hf11=>?_
 refine p_put (i:=15) (j:=0) (t:=164) (r:=b1) (k:=5) (v:=(⟨false,true,false,true,(some 142)⟩:DRow)) hS5 hf11 rfl (by kernel_rfl) mp164 fun ww6 a12 hS6 hf12=>⟨fun _=>trivial,?_⟩
 refine c_n 2 [] [1,13] hf12 .nil fun a13 hf13=>?_
 refine p_put (i:=18) (j:=0) (t:=164) (r:=b1) (k:=6) (v:=(⟨false,true,false,false,(some 143)⟩:DRow)) hS6 hf13 rfl (by kernel_rfl) mp164 fun ww7 a14 hS7 hf14=>⟨fun _=>trivial,?_⟩
 refine c_t [] [0] hf14 .nil fun a15 hf15=>?_
 refine c_ret ?_
 obtain ⟨z1,k1,hS8,hx1⟩:=hS7.mapShare (j:=0) rfl
 refine c_rt [] (.map (some b1)) hf15 .nil ?_
 obtain rfl:=some_eq hr
 exact ⟨_,rfl,z1,(some b1),k1,rfl,(St.drop 1 hS8),hx1⟩
def F148 (fuel:Nat) (x0:Pl) (x1:Int) (x2p:List Part) (x2y:List (Int×Bool)):Option (Pl) :=
  (cond (decide ((x2p.length:Int) > (0:Int))) ((getI x0.holds x1).bind fun p1=>((getI x0.may x1).bind fun p2=>((appC p1 ([x2p])).bind fun d1=>((appC p2 ([x2y])).bind fun d2=>(some ((⟨x0.lots,(x0.holds.set (Int.toNat x1) d1),(x0.may.set (Int.toNat x1) d2)⟩:Pl))))))) (some (x0)))
set_option maxRecDepth 100000 in
theorem f148_ok (fuel:Nat) (x0:Pl) (x1:Int) (x2p:List Part) (x2y:List (Int×Bool)) (r:Pl) (hr:F148 fuel x0 x1 x2p x2y=some r) (h:Zone) (L:List Atom) (w:World) (b_x0:Nat) (hS:St h (plA 126 40 117 b_x0 x0::L) w) (o_x2p:Option Addr) (c_x2p:Nat) (hx_x2p:SliceR PartT h o_x2p c_x2p x2p) (o_x2y:Option Nat) (hx_x2y:MapR Value.bool h o_x2y x2y) :
    Calls Try.prog 148 #[pB b_x0 0,vI x1, .agg #[.slice o_x2p x2p.length c_x2p, .map o_x2y]] w fun e w'=>∃v,e= .returned v∧(∃h',Zone.le h h'∧v= .tuple #[]∧St h' (plA 126 40 117 b_x0 r::L) w'):=by
 refine calls_intro (N:=43) Try.func148 (by kernel_rfl) fun a hf=>?_
 refine c_sr ?_
 refine c_box [.slice o_x2p x2p.length c_x2p, .map o_x2y] 119 hS hf fun b1 ww1 a1 hS1 hf1=>⟨fun _=>trivial,?_⟩
 refine c_dt ?_
 refine c_sq [.slice o_x2p x2p.length c_x2p] [0,1,5,10] hf1 (.cell (hS1.box (i:=0) rfl (j:=0) rfl) .nil) fun a2 hf2=>?_
 refine c_if (decide ((x2p.length:Int) > (0:Int))) hf2 (fun hb1=>?_) (fun hb1=>?_)
 ·have hr1:=cond_t hb1 hr
  obtain ⟨e1,q1,v1,v2,v3,v4,v5,v6,v7,v8,v9,v10,v11,v12,v13,v14,v15,v16,v17,v18,hx1,hS2⟩:=hS1.plOpen (i:=1) rfl
  obtain ⟨p1,hp36,hr2⟩:=bind_some hr1
  obtain ⟨e2,q2,hv1,hb2,hS3⟩:=hS2.ownOpen (j:=0) rfl hp36
  obtain ⟨p2,hp45,hr3⟩:=bind_some hr2
  obtain ⟨e3,q3,hv2,hb3,hS4⟩:=hS3.ownOpen (j:=2) rfl hp45
  have hS5:=hS4.drew
  have s1:=Sub.of zr (hS5.mask (i:=1) rfl)
  refine w_regB (by kernel_rfl) [24,29,33] (Sub h (ownS (Ty.map Value.bool) 117 e3 q3 p2::anyA::ownH (Ty.slice PartT) 40 [v1,v2,v3,v4,v5,v6,v7,v8,v9] x0.holds (Int.toNat x1)::ownH (Ty.map Value.bool) 117 [v10,v11,v12,v13,v14,v15,v16,v17,v18] x0.may (Int.toNat x1)::box b1 [.slice o_x2p x2p.length c_x2p, .map o_x2y] 119::box b_x0 [.slice e1 x0.lots.length q1,v1,v2,v3,v4,v5,v6,v7,v8,v9,v10,v11,v12,v13,v14,v15,v16,v17,v18] 126::L)) (by kernel_rfl) ?_
  refine k_seg' 8 [(0,true),(1,true),(2,true),(3,true),(4,true),(5,true),(6,true),(7,true),(8,true),(9,true),(10,true),(11,true),(12,true),(15,true),(16,true),(17,true),(18,true),(19,true),(20,true),(21,true),(22,true),(25,true),(26,true),(27,true),(30,true),(31,true)] (by kernel_rfl) (by kernel_rfl) (At.start s1) (by kernel_rfl) ?_
  refine c_S 26 [.slice e2 p1.length q2, .slice o_x2p x2p.length c_x2p, .slice e3 p2.length q3, .map o_x2y] [12,14,21,23,31,33,38,41] s1 hf2 (fun _ s=>(.prop hb2 (.cell ((arrAddr b_x0 1 (Int.toNat x1)) ▸ (s.box (i:=5) rfl (getElem?_app_right [.slice e1 x0.lots.length q1] _ _ hv1 [v10,v11,v12,v13,v14,v15,v16,v17,v18]))) (.cell (s.box (i:=4) rfl (j:=0) rfl) (.prop hb3 (.cell ((arrAddr b_x0 10 (Int.toNat x1)) ▸ (s.box (i:=5) rfl (getElem?_app_right [.slice e1 x0.lots.length q1,v1,v2,v3,v4,v5,v6,v7,v8,v9] _ _ hv2 []))) (.cell (s.box (i:=4) rfl (j:=1) rfl) .nil))))))) .nil fun a3 hf3=>?_
  refine c_done ?_
  intro hA1
  refine k_any' 7 [13,23] (by kernel_rfl) hA1 (by kernel_rfl) (by kernel_rfl) ?_
  refine (all_cons ?_ (all_cons ?_ all_nil))
  ·skip
   refine p_box (i:=13) (d:=(some 24)) (cs:=[.slice o_x2p x2p.length c_x2p]) (T:=40) (v:=fun b2=> .slice (some ⟨b2,0,none⟩) 1 1) hS5 hf3 (fun b=>by kernel_rfl) fun b2 ww2 a4 hS6 hf4=>⟨fun _=>Sub.of zr ((St.drop 1 hS6).mask (i:=1) rfl),?_⟩
   have hS7:=hS6.ownBox (T:=(Ty.slice PartT)) (E:=40) (n:=1) (xs:=[x2p]) (i:=0) rfl (Rows.cons (c:=[.slice o_x2p x2p.length c_x2p]) (sliceRep (hx_x2p)) rfl) rfl (by decide)
   refine c_done ?_
   intro hA2
   have s2:=Sub.of zr ((St.drop 1 hS7).mask (i:=1) rfl)
   refine k_seg' 7 [] (by kernel_rfl) (by kernel_rfl) hA2 (by kernel_rfl) ?_
   refine c_done ?_
   intro hA3
   refine k_any' 6 [14,23] (by kernel_rfl) hA3 (by kernel_rfl) (by kernel_rfl) ?_
   refine (all_cons ?_ (all_cons ?_ all_nil))
   ·skip
    obtain ⟨d1,hd1,hr4⟩:=bind_some hr3
    refine p_append (T:=(Ty.slice PartT)) (i:=14) (j:=2) (d:=some 25) (o2:=(some ⟨b2,0,none⟩)) (c2:=1) (ys:=([x2p])) el23 hS7 hf4 rfl (by kernel_rfl) (hS7.ownSrc (j:=0) rfl) hd1 fun e4 q4 ww3 a5 hS8 hf5=>⟨fun _=>Sub.of zr ((St.drop 1 hS8).mask (i:=1) rfl),?_⟩
    refine c_done ?_
    intro hA4
    have s3:=Sub.of zr ((St.drop 1 hS8).mask (i:=1) rfl)
    refine k_seg' 0 [(23,false),(24,false),(28,true),(29,false),(32,true),(33,false)] (by kernel_rfl) (by kernel_rfl) hA4 (by kernel_rfl) ?_
    refine p_box (i:=23) (d:=(some 34)) (cs:=[.map o_x2y]) (T:=117) (v:=fun b3=> .slice (some ⟨b3,0,none⟩) 1 1) hS8 hf5 (fun b=>by kernel_rfl) fun b3 ww4 a6 hS9 hf6=>⟨fun _=>Sub.of zr ((St.drop 2 hS9).mask (i:=1) rfl),?_⟩
    have hS10:=hS9.ownBox (T:=(Ty.map Value.bool)) (E:=117) (n:=1) (xs:=[x2y]) (i:=0) rfl (Rows.cons (c:=[.map o_x2y]) (mapRep hx_x2y) rfl) rfl (by decide)
    have s4:=Sub.of zr ((St.drop 2 hS10).mask (i:=1) rfl)
    obtain ⟨d2,hd2,hr5⟩:=bind_some hr4
    refine p_append (T:=(Ty.map Value.bool)) (i:=24) (j:=2) (d:=some 35) (o2:=(some ⟨b3,0,none⟩)) (c2:=1) (ys:=([x2y])) el123 hS10 hf6 rfl (by kernel_rfl) (hS10.ownSrc (j:=0) rfl) hd2 fun e5 q5 ww5 a7 hS11 hf7=>⟨fun e=>absurd e (by decide),?_⟩
    refine p_qP 1 [] [(14,vI x1),(25, .slice e4 d1.length q4),(35, .slice e5 d2.length q5),(39, .pointer (some ((⟨b_x0,1,none⟩:Addr).add (Int.toNat x1 * 1)))),(41,pB b_x0 10)] [.prop (0≤x1∧x1<(9:Nat))] hf7 (by kernel_rfl) (fun _=>(.prop hb2 .nil)) fun a8 hf8=>?_
    refine p_storeA (i:=29) (j:=7) (b:=b_x0) (ix:=x1) (pre:=[.slice e1 x0.lots.length q1]) (vs:=[v1,v2,v3,v4,v5,v6,v7,v8,v9]) (post:=[v10,v11,v12,v13,v14,v15,v16,v17,v18]) (v:= .slice e4 d1.length q4) hS11 hf8 rfl (by have z1:=hb2.1; have z2:=hb2.2; simp at z2 ⊢; omega) (by kernel_rfl) rfl fun ww6 a9 hS12 hf9=>⟨fun e=>absurd e (by decide),?_⟩
    obtain ⟨v19,v20,v21,v22,v23,v24,v25,v26,v27,hu110⟩:=nine (vs:=[v1,v2,v3,v4,v5,v6,v7,v8,v9].set (Int.toNat x1) (.slice e4 d1.length q4)) (by simp)
    rw [hu110] at hS12
    have hv3:[v19,v20,v21,v22,v23,v24,v25,v26,v27][Int.toNat x1]? =some (.slice e4 d1.length q4):=by rw [← hu110]; exact List.getElem?_set_self (by have z1:=hb2.1; have z2:=hb2.2; simp at z2 ⊢; omega)
    have hS13:=hS12
    refine p_qP 1 [] [(35, .slice e5 d2.length q5),(42, .pointer (some ((⟨b_x0,10,none⟩:Addr).add (Int.toNat x1 * 1))))] [.prop (0≤x1∧x1<(9:Nat))] hf9 (by kernel_rfl) (fun _=>(.prop hb3 .nil)) fun a10 hf10=>?_
    refine p_storeA (i:=33) (j:=7) (b:=b_x0) (ix:=x1) (pre:=[.slice e1 x0.lots.length q1,v19,v20,v21,v22,v23,v24,v25,v26,v27]) (vs:=[v10,v11,v12,v13,v14,v15,v16,v17,v18]) (post:=[]) (v:= .slice e5 d2.length q5) hS13 hf10 rfl (by have z1:=hb3.1; have z2:=hb3.2; simp at z2 ⊢; omega) (by kernel_rfl) rfl fun ww7 a11 hS14 hf11=>⟨fun e=>absurd e (by decide),?_⟩
    obtain ⟨v28,v29,v30,v31,v32,v33,v34,v35,v36,hu128⟩:=nine (vs:=[v10,v11,v12,v13,v14,v15,v16,v17,v18].set (Int.toNat x1) (.slice e5 d2.length q5)) (by simp)
    rw [hu128] at hS14
    have hv4:[v28,v29,v30,v31,v32,v33,v34,v35,v36][Int.toNat x1]? =some (.slice e5 d2.length q5):=by rw [← hu128]; exact List.getElem?_set_self (by have z1:=hb3.1; have z2:=hb3.2; simp at z2 ⊢; omega)
    have hS15:=hS14
    refine c_done ?_
    intro hA5
    refine k_done' (by kernel_rfl) (by kernel_rfl) ?_
    have hS16:=hS15.ownClose (j:=4) (k:=3) rfl rfl (by decide) (List.getElem?_eq_some_iff.1 (getI_spec hp36).2).1
    rw [hu110] at hS16
    have hS17:=hS16.ownClose (j:=5) (k:=2) rfl rfl (by decide) (List.getElem?_eq_some_iff.1 (getI_spec hp45).2).1
    rw [hu128] at hS17
    have hS18:=hS17.plClose (i:=7) (j:=4) (k:=5) rfl hx1 rfl rfl (by decide) (by decide) (by decide)
    refine c_fall [] (.tuple #[]) hf11 .nil ?_
    obtain rfl:=some_eq hr5
    exact ⟨_,rfl,h,zr,rfl,(St.pick 8 [7] hS18 (by kernel_rfl))⟩
   ·skip
    refine p_box (i:=23) (d:=(some 34)) (cs:=[.map o_x2y]) (T:=117) (v:=fun b4=> .slice (some ⟨b4,0,none⟩) 1 1) hS7 hf4 (fun b=>by kernel_rfl) fun b4 ww8 a12 hS19 hf12=>⟨fun _=>Sub.of zr ((St.drop 2 hS19).mask (i:=1) rfl),?_⟩
    have hS20:=hS19.ownBox (T:=(Ty.map Value.bool)) (E:=117) (n:=1) (xs:=[x2y]) (i:=0) rfl (Rows.cons (c:=[.map o_x2y]) (mapRep hx_x2y) rfl) rfl (by decide)
    refine c_done ?_
    intro hA6
    have s5:=Sub.of zr ((St.drop 2 hS20).mask (i:=1) rfl)
    refine k_seg' 0 [(14,false),(24,false),(28,true),(29,false),(32,true),(33,false)] (by kernel_rfl) (by kernel_rfl) hA6 (by kernel_rfl) ?_
    obtain ⟨d3,hd3,hr6⟩:=bind_some hr3
    refine p_append (T:=(Ty.slice PartT)) (i:=14) (j:=3) (d:=some 25) (o2:=(some ⟨b2,0,none⟩)) (c2:=1) (ys:=([x2p])) el23 hS20 hf12 rfl (by kernel_rfl) (hS20.ownSrc (j:=1) rfl) hd3 fun e6 q6 ww9 a13 hS21 hf13=>⟨fun _=>Sub.of zr ((St.drop 2 hS21).mask (i:=1) rfl),?_⟩
    have s6:=Sub.of zr ((St.drop 2 hS21).mask (i:=1) rfl)
    obtain ⟨d4,hd4,hr7⟩:=bind_some hr6
    refine p_append (T:=(Ty.map Value.bool)) (i:=24) (j:=2) (d:=some 35) (o2:=(some ⟨b4,0,none⟩)) (c2:=1) (ys:=([x2y])) el123 hS21 hf13 rfl (by kernel_rfl) (hS21.ownSrc (j:=0) rfl) hd4 fun e7 q7 ww10 a14 hS22 hf14=>⟨fun e=>absurd e (by decide),?_⟩
    refine p_qP 1 [] [(14,vI x1),(25, .slice e6 d3.length q6),(35, .slice e7 d4.length q7),(39, .pointer (some ((⟨b_x0,1,none⟩:Addr).add (Int.toNat x1 * 1)))),(41,pB b_x0 10)] [.prop (0≤x1∧x1<(9:Nat))] hf14 (by kernel_rfl) (fun _=>(.prop hb2 .nil)) fun a15 hf15=>?_
    refine p_storeA (i:=29) (j:=7) (b:=b_x0) (ix:=x1) (pre:=[.slice e1 x0.lots.length q1]) (vs:=[v1,v2,v3,v4,v5,v6,v7,v8,v9]) (post:=[v10,v11,v12,v13,v14,v15,v16,v17,v18]) (v:= .slice e6 d3.length q6) hS22 hf15 rfl (by have z1:=hb2.1; have z2:=hb2.2; simp at z2 ⊢; omega) (by kernel_rfl) rfl fun ww11 a16 hS23 hf16=>⟨fun e=>absurd e (by decide),?_⟩
    obtain ⟨v37,v38,v39,v40,v41,v42,v43,v44,v45,hu186⟩:=nine (vs:=[v1,v2,v3,v4,v5,v6,v7,v8,v9].set (Int.toNat x1) (.slice e6 d3.length q6)) (by simp)
    rw [hu186] at hS23
    have hv5:[v37,v38,v39,v40,v41,v42,v43,v44,v45][Int.toNat x1]? =some (.slice e6 d3.length q6):=by rw [← hu186]; exact List.getElem?_set_self (by have z1:=hb2.1; have z2:=hb2.2; simp at z2 ⊢; omega)
    have hS24:=hS23
    refine p_qP 1 [] [(35, .slice e7 d4.length q7),(42, .pointer (some ((⟨b_x0,10,none⟩:Addr).add (Int.toNat x1 * 1))))] [.prop (0≤x1∧x1<(9:Nat))] hf16 (by kernel_rfl) (fun _=>(.prop hb3 .nil)) fun a17 hf17=>?_
    refine p_storeA (i:=33) (j:=7) (b:=b_x0) (ix:=x1) (pre:=[.slice e1 x0.lots.length q1,v37,v38,v39,v40,v41,v42,v43,v44,v45]) (vs:=[v10,v11,v12,v13,v14,v15,v16,v17,v18]) (post:=[]) (v:= .slice e7 d4.length q7) hS24 hf17 rfl (by have z1:=hb3.1; have z2:=hb3.2; simp at z2 ⊢; omega) (by kernel_rfl) rfl fun ww12 a18 hS25 hf18=>⟨fun e=>absurd e (by decide),?_⟩
    obtain ⟨v46,v47,v48,v49,v50,v51,v52,v53,v54,hu204⟩:=nine (vs:=[v10,v11,v12,v13,v14,v15,v16,v17,v18].set (Int.toNat x1) (.slice e7 d4.length q7)) (by simp)
    rw [hu204] at hS25
    have hv6:[v46,v47,v48,v49,v50,v51,v52,v53,v54][Int.toNat x1]? =some (.slice e7 d4.length q7):=by rw [← hu204]; exact List.getElem?_set_self (by have z1:=hb3.1; have z2:=hb3.2; simp at z2 ⊢; omega)
    have hS26:=hS25
    refine c_done ?_
    intro hA7
    refine k_done' (by kernel_rfl) (by kernel_rfl) ?_
    have hS27:=hS26.ownClose (j:=4) (k:=3) rfl rfl (by decide) (List.getElem?_eq_some_iff.1 (getI_spec hp36).2).1
    rw [hu186] at hS27
    have hS28:=hS27.ownClose (j:=5) (k:=2) rfl rfl (by decide) (List.getElem?_eq_some_iff.1 (getI_spec hp45).2).1
    rw [hu204] at hS28
    have hS29:=hS28.plClose (i:=7) (j:=4) (k:=5) rfl hx1 rfl rfl (by decide) (by decide) (by decide)
    refine c_fall [] (.tuple #[]) hf18 .nil ?_
    obtain rfl:=some_eq hr7
    exact ⟨_,rfl,h,zr,rfl,(St.pick 8 [7] hS29 (by kernel_rfl))⟩
  ·skip
   refine p_box (i:=23) (d:=(some 34)) (cs:=[.map o_x2y]) (T:=117) (v:=fun b5=> .slice (some ⟨b5,0,none⟩) 1 1) hS5 hf3 (fun b=>by kernel_rfl) fun b5 ww13 a19 hS30 hf19=>⟨fun _=>Sub.of zr ((St.drop 1 hS30).mask (i:=1) rfl),?_⟩
   have hS31:=hS30.ownBox (T:=(Ty.map Value.bool)) (E:=117) (n:=1) (xs:=[x2y]) (i:=0) rfl (Rows.cons (c:=[.map o_x2y]) (mapRep hx_x2y) rfl) rfl (by decide)
   refine c_done ?_
   intro hA8
   have s7:=Sub.of zr ((St.drop 1 hS31).mask (i:=1) rfl)
   refine k_seg' 0 [(13,false),(14,false),(24,false),(28,true),(29,false),(32,true),(33,false)] (by kernel_rfl) (by kernel_rfl) hA8 (by kernel_rfl) ?_
   refine p_box (i:=13) (d:=(some 24)) (cs:=[.slice o_x2p x2p.length c_x2p]) (T:=40) (v:=fun b6=> .slice (some ⟨b6,0,none⟩) 1 1) hS31 hf19 (fun b=>by kernel_rfl) fun b6 ww14 a20 hS32 hf20=>⟨fun _=>Sub.of zr ((St.drop 2 hS32).mask (i:=1) rfl),?_⟩
   have hS33:=hS32.ownBox (T:=(Ty.slice PartT)) (E:=40) (n:=1) (xs:=[x2p]) (i:=0) rfl (Rows.cons (c:=[.slice o_x2p x2p.length c_x2p]) (sliceRep (hx_x2p)) rfl) rfl (by decide)
   have s8:=Sub.of zr ((St.drop 2 hS33).mask (i:=1) rfl)
   obtain ⟨d5,hd5,hr8⟩:=bind_some hr3
   refine p_append (T:=(Ty.slice PartT)) (i:=14) (j:=3) (d:=some 25) (o2:=(some ⟨b6,0,none⟩)) (c2:=1) (ys:=([x2p])) el23 hS33 hf20 rfl (by kernel_rfl) (hS33.ownSrc (j:=0) rfl) hd5 fun e8 q8 ww15 a21 hS34 hf21=>⟨fun _=>Sub.of zr ((St.drop 2 hS34).mask (i:=1) rfl),?_⟩
   have s9:=Sub.of zr ((St.drop 2 hS34).mask (i:=1) rfl)
   obtain ⟨d6,hd6,hr9⟩:=bind_some hr8
   refine p_append (T:=(Ty.map Value.bool)) (i:=24) (j:=2) (d:=some 35) (o2:=(some ⟨b5,0,none⟩)) (c2:=1) (ys:=([x2y])) el123 hS34 hf21 rfl (by kernel_rfl) (hS34.ownSrc (j:=1) rfl) hd6 fun e9 q9 ww16 a22 hS35 hf22=>⟨fun e=>absurd e (by decide),?_⟩
   refine p_qP 1 [] [(14,vI x1),(25, .slice e8 d5.length q8),(35, .slice e9 d6.length q9),(39, .pointer (some ((⟨b_x0,1,none⟩:Addr).add (Int.toNat x1 * 1)))),(41,pB b_x0 10)] [.prop (0≤x1∧x1<(9:Nat))] hf22 (by kernel_rfl) (fun _=>(.prop hb2 .nil)) fun a23 hf23=>?_
   refine p_storeA (i:=29) (j:=7) (b:=b_x0) (ix:=x1) (pre:=[.slice e1 x0.lots.length q1]) (vs:=[v1,v2,v3,v4,v5,v6,v7,v8,v9]) (post:=[v10,v11,v12,v13,v14,v15,v16,v17,v18]) (v:= .slice e8 d5.length q8) hS35 hf23 rfl (by have z1:=hb2.1; have z2:=hb2.2; simp at z2 ⊢; omega) (by kernel_rfl) rfl fun ww17 a24 hS36 hf24=>⟨fun e=>absurd e (by decide),?_⟩
   obtain ⟨v55,v56,v57,v58,v59,v60,v61,v62,v63,hu270⟩:=nine (vs:=[v1,v2,v3,v4,v5,v6,v7,v8,v9].set (Int.toNat x1) (.slice e8 d5.length q8)) (by simp)
   rw [hu270] at hS36
   have hv7:[v55,v56,v57,v58,v59,v60,v61,v62,v63][Int.toNat x1]? =some (.slice e8 d5.length q8):=by rw [← hu270]; exact List.getElem?_set_self (by have z1:=hb2.1; have z2:=hb2.2; simp at z2 ⊢; omega)
   have hS37:=hS36
   refine p_qP 1 [] [(35, .slice e9 d6.length q9),(42, .pointer (some ((⟨b_x0,10,none⟩:Addr).add (Int.toNat x1 * 1))))] [.prop (0≤x1∧x1<(9:Nat))] hf24 (by kernel_rfl) (fun _=>(.prop hb3 .nil)) fun a25 hf25=>?_
   refine p_storeA (i:=33) (j:=7) (b:=b_x0) (ix:=x1) (pre:=[.slice e1 x0.lots.length q1,v55,v56,v57,v58,v59,v60,v61,v62,v63]) (vs:=[v10,v11,v12,v13,v14,v15,v16,v17,v18]) (post:=[]) (v:= .slice e9 d6.length q9) hS37 hf25 rfl (by have z1:=hb3.1; have z2:=hb3.2; simp at z2 ⊢; omega) (by kernel_rfl) rfl fun ww18 a26 hS38 hf26=>⟨fun e=>absurd e (by decide),?_⟩
   obtain ⟨v64,v65,v66,v67,v68,v69,v70,v71,v72,hu288⟩:=nine (vs:=[v10,v11,v12,v13,v14,v15,v16,v17,v18].set (Int.toNat x1) (.slice e9 d6.length q9)) (by simp)
   rw [hu288] at hS38
   have hv8:[v64,v65,v66,v67,v68,v69,v70,v71,v72][Int.toNat x1]? =some (.slice e9 d6.length q9):=by rw [← hu288]; exact List.getElem?_set_self (by have z1:=hb3.1; have z2:=hb3.2; simp at z2 ⊢; omega)
   have hS39:=hS38
   refine c_done ?_
   intro hA9
   refine k_done' (by kernel_rfl) (by kernel_rfl) ?_
   have hS40:=hS39.ownClose (j:=4) (k:=3) rfl rfl (by decide) (List.getElem?_eq_some_iff.1 (getI_spec hp36).2).1
   rw [hu270] at hS40
   have hS41:=hS40.ownClose (j:=5) (k:=2) rfl rfl (by decide) (List.getElem?_eq_some_iff.1 (getI_spec hp45).2).1
   rw [hu288] at hS41
   have hS42:=hS41.plClose (i:=7) (j:=4) (k:=5) rfl hx1 rfl rfl (by decide) (by decide) (by decide)
   refine c_fall [] (.tuple #[]) hf26 .nil ?_
   obtain rfl:=some_eq hr9
   exact ⟨_,rfl,h,zr,rfl,(St.pick 8 [7] hS42 (by kernel_rfl))⟩
 ·have hr10:=cond_f hb1 hr
  refine c_skip ?_
  refine c_fall [] (.tuple #[]) hf2 .nil ?_
  obtain rfl:=some_eq hr10
  exact ⟨_,rfl,h,zr,rfl,(St.pick 2 [1] hS1 (by kernel_rfl))⟩
def F80_j3 (k1:(List Part)→Int→Int→Option (List Part)) (x0:List Part) (x1:List Part) (y1:List Part) (y2:Int) (y3:Int) (y4:Bool):Option (List Part) :=
  (cond y4 ((getI x1 y3).bind fun p1=>((appC y1 ([⟨p1.lot,p1.mass⟩])).bind fun d1=>(k1 d1 y2 (w64 (y3 + (1:Int)))))) ((getI x0 y2).bind fun p2=>((getI x0 y2).bind fun p3=>((getI x1 y3).bind fun p4=>((appC y1 ([⟨p2.lot,(w64 (p3.mass + p4.mass))⟩])).bind fun d2=>(k1 d2 (w64 (y2 + (1:Int))) (w64 (y3 + (1:Int)))))))))
def F80_j2 (k1:(List Part)→Int→Int→Option (List Part)) (x0:List Part) (x1:List Part) (y1:List Part) (y2:Int) (y3:Int) (y5:Bool):Option (List Part) :=
  (cond y5 ((getI x0 y2).bind fun p5=>((appC y1 ([⟨p5.lot,p5.mass⟩])).bind fun d3=>(k1 d3 (w64 (y2 + (1:Int))) y3))) (cond (y2 == (x0.length:Int)) (F80_j3 k1 x0 x1 y1 y2 y3 true) ((getI x1 y3).bind fun p6=>((getI x0 y2).bind fun p7=>(F80_j3 k1 x0 x1 y1 y2 y3 (decide (p6.lot<p7.lot)))))))
def F80_j1 (k1:(List Part)→Int→Int→Option (List Part)) (x0:List Part) (x1:List Part) (y1:List Part) (y2:Int) (y3:Int) (y6:Bool):Option (List Part) :=
  (cond y6 (cond (y3 == (x1.length:Int)) (F80_j2 k1 x0 x1 y1 y2 y3 true) (cond (decide (y2<(x0.length:Int))) ((getI x0 y2).bind fun p8=>((getI x1 y3).bind fun p9=>(F80_j2 k1 x0 x1 y1 y2 y3 (decide (p8.lot<p9.lot))))) (F80_j2 k1 x0 x1 y1 y2 y3 false))) (some (y1)))
def F80_l1 (x0:List Part) (x1:List Part):Nat→(List Part)→Int→Int→Option (List Part)
  | 0,_,_,_=>none
  | n1 + 1,y1,y2,y3 =>
    let k1:(List Part)→Int→Int→Option (List Part):=F80_l1 x0 x1 n1
    (cond (decide (y2<(x0.length:Int))) (F80_j1 k1 x0 x1 y1 y2 y3 true) (F80_j1 k1 x0 x1 y1 y2 y3 (decide (y3<(x1.length:Int)))))
def F80 (fuel:Nat) (x0:List Part) (x1:List Part):Option (List Part) :=
  (F80_l1 x0 x1 fuel ([]) 0 0)
set_option maxRecDepth 100000 in
theorem f80_ok (fuel:Nat) (x0:List Part) (x1:List Part) (r:List Part) (hr:F80 fuel x0 x1=some r) (h:Zone) (L:List Atom) (w:World) (hS:St h L w) (o_x0:Option Addr) (c_x0:Nat) (hx_x0:SliceR PartT h o_x0 c_x0 x0) (o_x1:Option Addr) (c_x1:Nat) (hx_x1:SliceR PartT h o_x1 c_x1 x1) :
    Calls Try.prog 80 #[.agg #[.slice o_x0 x0.length c_x0], .agg #[.slice o_x1 x1.length c_x1]] w fun e w'=>∃v,e= .returned v∧(∃h',∃o0:Option Addr,∃c0:Nat,Zone.le h h'∧v= .agg #[.slice o0 r.length c0]∧St h' L w'∧SliceR PartT h' o0 c0 r):=by
 refine calls_intro (N:=123) Try.func80 (by kernel_rfl) fun a hf=>?_
 refine c_sr ?_
 refine c_box [.slice o_x0 x0.length c_x0] 40 hS hf fun b1 ww1 a1 hS1 hf1=>⟨fun _=>trivial,?_⟩
 refine c_box [.slice o_x1 x1.length c_x1] 40 hS1 hf1 fun b2 ww2 a2 hS2 hf2=>⟨fun _=>trivial,?_⟩
 refine c_box [.slice none 0 0] 40 hS2 hf2 fun b3 ww3 a3 hS3 hf3=>⟨fun _=>trivial,?_⟩
 refine c_dt ?_
 refine c_sr ?_
 refine c_box [.slice none 0 0] 40 hS3 hf3 fun b4 ww4 a4 hS4 hf4=>⟨fun _=>trivial,?_⟩
 refine c_dt ?_
 refine c_sq [] [2,3,4,5,6,7] hf4 .nil fun a5 hf5=>?_
 refine c_seq ?_
 refine c_block 0 ?_
 have hS5:=hS4.ownNil PartT 56
 refine c_loop (fun n a w=>∃z1:Zone,∃y1:List Part,∃y2:Int,∃y3:Int,∃e1:Option Addr,∃q1:Nat,Zone.le h z1∧Fr a 123 [(2,pB b1 0),(3,pB b2 0),(4,pB b3 0),(5,pB b4 0),(6,vI y2),(7,vI y3)]∧St z1 (ownS PartT 56 e1 q1 y1::box b4 [.slice e1 y1.length q1] 40::box b3 [.slice none 0 0] 40::box b2 [.slice o_x1 x1.length c_x1] 40::box b1 [.slice o_x0 x0.length c_x0] 40::L) w∧(F80_l1 x0 x1 n y1 y2 y3)=some r) fuel ⟨h,[],0,0,none,0,zr,hf5.to,hS5,hr⟩ ?_
 rintro n2 a6 ww5 ⟨z1,y1,y2,y3,e1,q1,k2,hf7,hS6,hr1⟩
 cases n2 with
 | zero=>cases hr1
 | succ n1 =>
 refine c_seq ?_
 refine c_mid (fun a w=>∃z2:Zone,∃y6:Bool,Zone.le z1 z2∧Fr a 123 [(2,pB b1 0),(3,pB b2 0),(4,pB b3 0),(5,pB b4 0),(6,vI y2),(7,vI y3),(19, .bool y6)]∧St z2 (ownS PartT 56 e1 q1 y1::box b4 [.slice e1 y1.length q1] 40::box b3 [.slice none 0 0] 40::box b2 [.slice o_x1 x1.length c_x1] 40::box b1 [.slice o_x0 x0.length c_x0] 40::L) w∧(F80_j1 (F80_l1 x0 x1 n1) x0 x1 y1 y2 y3 y6)=some r) ?_ ?_
 ·skip
  refine c_reg ?_
  refine c_n 6 [.slice o_x0 x0.length c_x0] [2,3,4,5,6,7,13] hf7 (.cell (hS6.box (i:=4) rfl (j:=0) rfl) .nil) fun a7 hf8=>?_
  rcases bft (decide (y2<(x0.length:Int))) with hb1 | hb1
  ·have hr2:=cond_t hb1 hr1
   have hf9:=hf8.lit 13 hb1
   refine c_t [] [2,3,4,5,6,7,14,15,16,17,18,19] hf9 .nil fun a8 hf10=>?_
   exact ⟨z1,true,zr,hf10.to,hS6,hr2⟩
  ·have hr3:=cond_f hb1 hr1
   have hf12:=hf8.lit 13 hb1
   refine c_t [.slice o_x1 x1.length c_x1] [2,3,4,5,6,7,14,15,16,17,18,19] hf12 (.cell (hS6.box (i:=3) rfl (j:=0) rfl) .nil) fun a9 hf13=>?_
   exact ⟨z1,(decide (y3<(x1.length:Int))),zr,hf13.to,hS6,hr3⟩
 ·rintro a10 ww6 ⟨z2,y6,k3,hf15,hS7,hr4⟩
  refine c_if y6 hf15 (fun hb2=>?_) (fun hb2=>?_)
  ·have hr5:=cond_t hb2 hr4
   refine c_skip ?_
   refine n_then ?_
   refine c_block 1 ?_
   refine c_block 2 ?_
   refine c_mid (fun a w=>∃z3:Zone,∃y5:Bool,Zone.le z2 z3∧Fr a 123 [(2,pB b1 0),(3,pB b2 0),(4,pB b3 0),(5,pB b4 0),(6,vI y2),(7,vI y3),(49, .bool y5)]∧St z3 (ownS PartT 56 e1 q1 y1::box b4 [.slice e1 y1.length q1] 40::box b3 [.slice none 0 0] 40::box b2 [.slice o_x1 x1.length c_x1] 40::box b1 [.slice o_x0 x0.length c_x0] 40::L) w∧(F80_j2 (F80_l1 x0 x1 n1) x0 x1 y1 y2 y3 y5)=some r) ?_ ?_
   ·skip
    have hS8:=hS7.drew
    refine c_regD [(0,true),(1,true),(2,true),(3,true),(4,true),(5,true),(6,true),(7,true),(8,true),(9,true),(10,true),(11,true),(12,true),(13,true),(14,true),(15,true),(16,true),(17,true),(18,true),(19,true),(20,true),(21,true),(22,true),(23,true),(24,true),(25,true),(26,true),(27,true)] [] (fun x=>x=ww6.drew) rfl ?_
    refine c_E 6 [.slice o_x1 x1.length c_x1] [2,3,4,5,6,7,55] hf15 (.cell (hS8.box (i:=3) rfl (j:=0) rfl) .nil) .nil fun a11 hf16=>?_
    rcases bft (y3 == (x1.length:Int)) with hb3 | hb3
    ·have hr6:=cond_t hb3 hr5
     have hf17:=hf16.lit 55 hb3
     refine c_tE [] [2,3,4,5,6,7,49,56,57,58,59,60,61,62,63,64,65,66,67,68,69,70,71,72,73,74,75] hf17 .nil .nil fun a12 hf18=>?_
     exact ⟨z2,true,zr,hf18.to,hS8,hr6⟩
    ·have hr7:=cond_f hb3 hr5
     have hf20:=hf16.lit 55 hb3
     refine c_E 6 [.slice o_x0 x0.length c_x0] [2,3,4,5,6,7,55,56,57,58,59,60,61] hf20 (.cell (hS8.box (i:=4) rfl (j:=0) rfl) .nil) .nil fun a13 hf21=>?_
     rcases bft (decide (y2<(x0.length:Int))) with hb4 | hb4
     ·have hr8:=cond_t hb4 hr7
      have hf22:=hf21.lit 61 hb4
      obtain ⟨p8,hp4251,hr9⟩:=bind_some hr8
      obtain ⟨ad1,ho1,hb5,cc1,hc1,hk1⟩:=SliceR.getI (SliceR.mono (zt k2 k3) hx_x0) hp4251
      subst hc1
      obtain ⟨p9,hp4260,hr10⟩:=bind_some hr9
      obtain ⟨ad2,ho2,hb6,cc2,hc2,hk2⟩:=SliceR.getI (SliceR.mono (zt k2 k3) hx_x1) hp4260
      subst hc2
      refine c_tE [.slice o_x0 x0.length c_x0, .pointer (some ad1),vI p8.lot, .slice o_x1 x1.length c_x1, .pointer (some ad2),vI p9.lot] [2,3,4,5,6,7,49,56,57,58,59,60,61,62,63,64,65,66,67,68,69,70,71,72,73,74,75] hf22 (.cell (hS8.box (i:=4) rfl (j:=0) rfl) (.prop ho1 (.prop hb5 (.cell (hS8.cell (hk1 0 _ rfl)) (.cell (hS8.box (i:=3) rfl (j:=0) rfl) (.prop ho2 (.prop hb6 (.cell (hS8.cell (hk2 0 _ rfl)) .nil)))))))) .nil fun a14 hf23=>?_
      exact ⟨z2,(decide (p8.lot<p9.lot)),zr,hf23.to,hS8,hr10⟩
     ·have hr11:=cond_f hb4 hr7
      have hf25:=hf21.lit 61 hb4
      refine c_tE [] [2,3,4,5,6,7,49,56,57,58,59,60,61,62,63,64,65,66,67,68,69,70,71,72,73,74,75] hf25 .nil .nil fun a15 hf26=>?_
      exact ⟨z2,false,zr,hf26.to,hS8,hr11⟩
   ·rintro a16 ww7 ⟨z3,y5,k4,hf28,hS9,hr12⟩
    refine c_if y5 hf28 (fun hb7=>?_) (fun hb7=>?_)
    ·have hr13:=cond_t hb7 hr12
     refine c_seq ?_
     have hS10:=hS9.drew
     have s1:=Sub.of zr hS10
     refine c_regD [(0,true),(1,true),(2,true),(3,true),(4,true),(5,true),(6,true),(7,false),(8,false),(9,true),(10,false)] [8,10] _ s1 ?_
     obtain ⟨p5,hp4282,hr14⟩:=bind_some hr13
     obtain ⟨ad3,ho3,hb8,cc3,hc3,hk3⟩:=SliceR.getI (SliceR.mono (zt (zt k2 k3) k4) hx_x0) hp4282
     subst hc3
     refine c_S 7 [.slice e1 y1.length q1, .slice o_x0 x0.length c_x0, .pointer (some ad3),vI p5.lot,vI p5.mass] [2,3,4,5,6,7,78,83] s1 hf28 (fun _ s=>(.cell (s.box (i:=1) rfl (j:=0) rfl) (.cell (s.box (i:=4) rfl (j:=0) rfl) (.prop ho3 (.prop hb8 (.cell (s.cell (hk3 0 _ rfl)) (.cell (s.cell (hk3 1 _ rfl)) .nil))))))) .nil fun a17 hf29=>?_
     refine p_box (i:=7) (d:=(some 84)) (cs:=[vI p5.lot,vI p5.mass]) (T:=56) (v:=fun b5=> .slice (some ⟨b5,0,none⟩) 1 1) hS10 hf29 (fun b=>by kernel_rfl) fun b5 ww8 a18 hS11 hf30=>⟨fun _=>Sub.of zr (St.drop 1 hS11),?_⟩
     have hS12:=hS11.ownBox (T:=PartT) (E:=56) (n:=1) (xs:=[⟨p5.lot,p5.mass⟩]) (i:=0) rfl (Rows.cons (c:=[vI p5.lot,vI p5.mass]) rfl rfl) rfl (by decide)
     have s2:=Sub.of zr (St.drop 1 hS12)
     obtain ⟨d3,hd1,hr15⟩:=bind_some hr14
     refine p_append (T:=PartT) (i:=8) (j:=1) (d:=some 85) (o2:=(some ⟨b5,0,none⟩)) (c2:=1) (ys:=([⟨p5.lot,p5.mass⟩])) el38 hS12 hf30 rfl (by kernel_rfl) (hS12.ownSrc (j:=0) rfl) hd1 fun e2 q2 ww9 a19 hS13 hf31=>⟨fun e=>absurd e (by decide),?_⟩
     refine p_qP 1 [] [(2,pB b1 0),(3,pB b2 0),(4,pB b3 0),(5,pB b4 0),(6,vI y2),(7,vI y3),(85, .slice e2 d3.length q2),(86,pB b4 0)] [] hf31 (by kernel_rfl) (fun _=> .nil) fun a20 hf32=>?_
     refine c_st 2 [.slice e2 d3.length q2] hS13 hf32 rfl fun ww10 a21 hS14 hf33=>⟨fun e=>absurd e (by decide),?_⟩
     refine c_dt ?_
     refine c_q [] [2,3,4,5,6,7] hf33 .nil fun a22 hf34=>?_
     refine n_block ?_
     refine n_block ?_
     refine n_then ?_
     exact ⟨n1,Nat.lt_succ_self n1,z3,d3,(w64 (y2 + (1:Int))),y3,e2,q2,(zt (zt k2 k3) k4),hf34.to,(St.drop 1 hS14),hr15⟩
    ·have hr16:=cond_f hb7 hr12
     refine c_mid (fun a w=>∃z4:Zone,∃y4:Bool,Zone.le z3 z4∧Fr a 123 [(2,pB b1 0),(3,pB b2 0),(4,pB b3 0),(5,pB b4 0),(6,vI y2),(7,vI y3),(89, .bool y4)]∧St z4 (ownS PartT 56 e1 q1 y1::box b4 [.slice e1 y1.length q1] 40::box b3 [.slice none 0 0] 40::box b2 [.slice o_x1 x1.length c_x1] 40::box b1 [.slice o_x0 x0.length c_x0] 40::L) w∧(F80_j3 (F80_l1 x0 x1 n1) x0 x1 y1 y2 y3 y4)=some r) ?_ ?_
     ·skip
      have hS15:=hS9.drew
      refine c_regD [(0,true),(1,true),(2,true),(3,true),(4,true),(5,true),(6,true),(7,true),(8,true),(9,true),(10,true),(11,true),(12,true),(13,true),(14,true),(15,true),(16,true),(17,true),(18,true),(19,true),(20,true)] [] (fun x=>x=ww7.drew) rfl ?_
      refine c_E 6 [.slice o_x0 x0.length c_x0] [2,3,4,5,6,7,95] hf28 (.cell (hS15.box (i:=4) rfl (j:=0) rfl) .nil) .nil fun a23 hf36=>?_
      rcases bft (y2 == (x0.length:Int)) with hb9 | hb9
      ·have hr17:=cond_t hb9 hr16
       have hf37:=hf36.lit 95 hb9
       refine c_tE [] [2,3,4,5,6,7,89,96,97,98,99,100,101,102,103,104,105,106,107,108] hf37 .nil .nil fun a24 hf38=>?_
       exact ⟨z3,true,zr,hf38.to,hS15,hr17⟩
      ·have hr18:=cond_f hb9 hr16
       have hf40:=hf36.lit 95 hb9
       obtain ⟨p6,hp4402,hr19⟩:=bind_some hr18
       obtain ⟨ad4,ho4,hb10,cc4,hc4,hk4⟩:=SliceR.getI (SliceR.mono (zt (zt k2 k3) k4) hx_x1) hp4402
       subst hc4
       obtain ⟨p7,hp4411,hr20⟩:=bind_some hr19
       obtain ⟨ad5,ho5,hb11,cc5,hc5,hk5⟩:=SliceR.getI (SliceR.mono (zt (zt k2 k3) k4) hx_x0) hp4411
       subst hc5
       refine c_tE [.slice o_x1 x1.length c_x1, .pointer (some ad4),vI p6.lot, .slice o_x0 x0.length c_x0, .pointer (some ad5),vI p7.lot] [2,3,4,5,6,7,89,96,97,98,99,100,101,102,103,104,105,106,107,108] hf40 (.cell (hS15.box (i:=3) rfl (j:=0) rfl) (.prop ho4 (.prop hb10 (.cell (hS15.cell (hk4 0 _ rfl)) (.cell (hS15.box (i:=4) rfl (j:=0) rfl) (.prop ho5 (.prop hb11 (.cell (hS15.cell (hk5 0 _ rfl)) .nil)))))))) .nil fun a25 hf41=>?_
       exact ⟨z3,(decide (p6.lot<p7.lot)),zr,hf41.to,hS15,hr20⟩
     ·rintro a26 ww11 ⟨z4,y4,k5,hf43,hS16,hr21⟩
      refine c_if y4 hf43 (fun hb12=>?_) (fun hb12=>?_)
      ·have hr22:=cond_t hb12 hr21
       refine c_seq ?_
       have hS17:=hS16.drew
       have s3:=Sub.of zr hS17
       refine c_regD [(0,true),(1,true),(2,true),(3,true),(4,true),(5,true),(6,true),(7,false),(8,false),(9,true),(10,false)] [8,10] _ s3 ?_
       obtain ⟨p1,hp4428,hr23⟩:=bind_some hr22
       obtain ⟨ad6,ho6,hb13,cc6,hc6,hk6⟩:=SliceR.getI (SliceR.mono (zt (zt (zt k2 k3) k4) k5) hx_x1) hp4428
       subst hc6
       refine c_S 7 [.slice e1 y1.length q1, .slice o_x1 x1.length c_x1, .pointer (some ad6),vI p1.lot,vI p1.mass] [2,3,4,5,6,7,111,116] s3 hf43 (fun _ s=>(.cell (s.box (i:=1) rfl (j:=0) rfl) (.cell (s.box (i:=3) rfl (j:=0) rfl) (.prop ho6 (.prop hb13 (.cell (s.cell (hk6 0 _ rfl)) (.cell (s.cell (hk6 1 _ rfl)) .nil))))))) .nil fun a27 hf44=>?_
       refine p_box (i:=7) (d:=(some 117)) (cs:=[vI p1.lot,vI p1.mass]) (T:=56) (v:=fun b6=> .slice (some ⟨b6,0,none⟩) 1 1) hS17 hf44 (fun b=>by kernel_rfl) fun b6 ww12 a28 hS18 hf45=>⟨fun _=>Sub.of zr (St.drop 1 hS18),?_⟩
       have hS19:=hS18.ownBox (T:=PartT) (E:=56) (n:=1) (xs:=[⟨p1.lot,p1.mass⟩]) (i:=0) rfl (Rows.cons (c:=[vI p1.lot,vI p1.mass]) rfl rfl) rfl (by decide)
       have s4:=Sub.of zr (St.drop 1 hS19)
       obtain ⟨d1,hd2,hr24⟩:=bind_some hr23
       refine p_append (T:=PartT) (i:=8) (j:=1) (d:=some 118) (o2:=(some ⟨b6,0,none⟩)) (c2:=1) (ys:=([⟨p1.lot,p1.mass⟩])) el38 hS19 hf45 rfl (by kernel_rfl) (hS19.ownSrc (j:=0) rfl) hd2 fun e3 q3 ww13 a29 hS20 hf46=>⟨fun e=>absurd e (by decide),?_⟩
       refine p_qP 1 [] [(2,pB b1 0),(3,pB b2 0),(4,pB b3 0),(5,pB b4 0),(6,vI y2),(7,vI y3),(118, .slice e3 d1.length q3),(119,pB b4 0)] [] hf46 (by kernel_rfl) (fun _=> .nil) fun a30 hf47=>?_
       refine c_st 2 [.slice e3 d1.length q3] hS20 hf47 rfl fun ww14 a31 hS21 hf48=>⟨fun e=>absurd e (by decide),?_⟩
       refine c_dt ?_
       refine c_q [] [2,3,4,5,6,7] hf48 .nil fun a32 hf49=>?_
       refine n_block ?_
       refine n_block ?_
       refine n_then ?_
       exact ⟨n1,Nat.lt_succ_self n1,z4,d1,y2,(w64 (y3 + (1:Int))),e3,q3,(zt (zt (zt k2 k3) k4) k5),hf49.to,(St.drop 1 hS21),hr24⟩
      ·have hr25:=cond_f hb12 hr21
       refine c_seq ?_
       have hS22:=hS16.drew
       have s5:=Sub.of zr hS22
       refine c_regD [(0,true),(1,true),(2,true),(3,true),(4,true),(5,true),(6,true),(7,true),(8,true),(9,true),(10,true),(11,true),(12,true),(13,true),(14,true),(15,true),(16,true),(17,true),(18,true),(19,true),(20,true),(21,true),(22,false),(23,false),(24,true),(25,false)] [23,25] _ s5 ?_
       obtain ⟨p2,hp4471,hr26⟩:=bind_some hr25
       obtain ⟨ad7,ho7,hb14,cc7,hc7,hk7⟩:=SliceR.getI (SliceR.mono (zt (zt (zt k2 k3) k4) k5) hx_x0) hp4471
       subst hc7
       obtain ⟨p3,hp4480,hr27⟩:=bind_some hr26
       obtain ⟨ad8,ho8,hb15,cc8,hc8,hk8⟩:=SliceR.getI (SliceR.mono (zt (zt (zt k2 k3) k4) k5) hx_x0) hp4480
       subst hc8
       obtain ⟨p4,hp4489,hr28⟩:=bind_some hr27
       obtain ⟨ad9,ho9,hb16,cc9,hc9,hk9⟩:=SliceR.getI (SliceR.mono (zt (zt (zt k2 k3) k4) k5) hx_x1) hp4489
       subst hc9
       refine c_S 22 [.slice e1 y1.length q1, .slice o_x0 x0.length c_x0, .pointer (some ad7),vI p2.lot, .slice o_x0 x0.length c_x0, .pointer (some ad8),vI p3.mass, .slice o_x1 x1.length c_x1, .pointer (some ad9),vI p4.mass] [2,3,4,5,6,7,21,41] s5 hf43 (fun _ s=>(.cell (s.box (i:=1) rfl (j:=0) rfl) (.cell (s.box (i:=4) rfl (j:=0) rfl) (.prop ho7 (.prop hb14 (.cell (s.cell (hk7 0 _ rfl)) (.cell (s.box (i:=4) rfl (j:=0) rfl) (.prop ho8 (.prop hb15 (.cell (s.cell (hk8 1 _ rfl)) (.cell (s.box (i:=3) rfl (j:=0) rfl) (.prop ho9 (.prop hb16 (.cell (s.cell (hk9 1 _ rfl)) .nil)))))))))))))) .nil fun a33 hf51=>?_
       refine p_box (i:=22) (d:=(some 42)) (cs:=[vI p2.lot,vI (w64 (p3.mass + p4.mass))]) (T:=56) (v:=fun b7=> .slice (some ⟨b7,0,none⟩) 1 1) hS22 hf51 (fun b=>by kernel_rfl) fun b7 ww15 a34 hS23 hf52=>⟨fun _=>Sub.of zr (St.drop 1 hS23),?_⟩
       have hS24:=hS23.ownBox (T:=PartT) (E:=56) (n:=1) (xs:=[⟨p2.lot,(w64 (p3.mass + p4.mass))⟩]) (i:=0) rfl (Rows.cons (c:=[vI p2.lot,vI (w64 (p3.mass + p4.mass))]) rfl rfl) rfl (by decide)
       have s6:=Sub.of zr (St.drop 1 hS24)
       obtain ⟨d2,hd3,hr29⟩:=bind_some hr28
       refine p_append (T:=PartT) (i:=23) (j:=1) (d:=some 43) (o2:=(some ⟨b7,0,none⟩)) (c2:=1) (ys:=([⟨p2.lot,(w64 (p3.mass + p4.mass))⟩])) el38 hS24 hf52 rfl (by kernel_rfl) (hS24.ownSrc (j:=0) rfl) hd3 fun e4 q4 ww16 a35 hS25 hf53=>⟨fun e=>absurd e (by decide),?_⟩
       refine p_qP 1 [] [(2,pB b1 0),(3,pB b2 0),(4,pB b3 0),(5,pB b4 0),(6,vI y2),(7,vI y3),(43, .slice e4 d2.length q4),(44,pB b4 0)] [] hf53 (by kernel_rfl) (fun _=> .nil) fun a36 hf54=>?_
       refine c_st 2 [.slice e4 d2.length q4] hS25 hf54 rfl fun ww17 a37 hS26 hf55=>⟨fun e=>absurd e (by decide),?_⟩
       refine c_dt ?_
       refine c_q [] [2,3,4,5,6,7] hf55 .nil fun a38 hf56=>?_
       refine n_block ?_
       refine n_block ?_
       refine n_then ?_
       exact ⟨n1,Nat.lt_succ_self n1,z4,d2,(w64 (y2 + (1:Int))),(w64 (y3 + (1:Int))),e4,q4,(zt (zt (zt k2 k3) k4) k5),hf56.to,(St.drop 1 hS26),hr29⟩
  ·have hr30:=cond_f hb2 hr4
   refine c_exit 0 ?_
   refine x_then ?_
   refine x_then ?_
   refine x_block ?_
   refine n_then ?_
   refine c_sr ?_
   refine c_n 1 [.slice e1 y1.length q1] [4,122] hf15 (.cell (hS7.box (i:=1) rfl (j:=0) rfl) .nil) fun a39 hf58=>?_
   refine c_st 2 [.slice e1 y1.length q1] hS7 hf58 rfl fun ww18 a40 hS27 hf59=>⟨fun _=>trivial,?_⟩
   refine c_dt ?_
   refine c_ret ?_
   obtain ⟨z5,k6,hS28,hx1⟩:=hS27.share (j:=0) rfl
   refine c_rt [.slice e1 y1.length q1] (.agg #[.slice e1 y1.length q1]) hf59 (.cell (hS28.box (i:=2) rfl (j:=0) rfl) .nil) ?_
   obtain rfl:=some_eq hr30
   exact ⟨_,rfl,z5,e1,q1,(zt (zt k2 k3) k6),rfl,(St.drop 5 hS28),hx1⟩
def F150_l1 (x0p:List Part) (x0y:List (Int×Bool)) (x1p:List Part) (x1y:List (Int×Bool)) (r1:List Part):Nat→(List (Int×Bool))→Int→Option (List Part×List (Int×Bool))
  | 0,_,_=>none
  | n1 + 1,y1,y2 =>
    let k1:(List (Int×Bool))→Int→Option (List Part×List (Int×Bool)):=F150_l1 x0p x0y x1p x1y r1 n1
    (cond (decide (y2<(2:Int))) ((getI ([(⟨x0p,x0y⟩:Bag),(⟨x1p,x1y⟩:Bag)]) y2).bind fun p1=>(k1 (uniK y1 p1.may) (w64 (y2 + (1:Int))))) (some (r1,y1)))
def F150 (fuel:Nat) (x0p:List Part) (x0y:List (Int×Bool)) (x1p:List Part) (x1y:List (Int×Bool)):Option (List Part×List (Int×Bool)) :=
  ((F80 fuel x0p x1p).bind fun r1=>(F150_l1 x0p x0y x1p x1y r1 fuel ([]) 0))
set_option maxRecDepth 100000 in
theorem f150_ok (fuel:Nat) (x0p:List Part) (x0y:List (Int×Bool)) (x1p:List Part) (x1y:List (Int×Bool)) (r:List Part×List (Int×Bool)) (hr:F150 fuel x0p x0y x1p x1y=some r) (h:Zone) (L:List Atom) (w:World) (hS:St h L w) (o_x0p:Option Addr) (c_x0p:Nat) (hx_x0p:SliceR PartT h o_x0p c_x0p x0p) (o_x0y:Option Nat) (hx_x0y:MapR Value.bool h o_x0y x0y) (o_x1p:Option Addr) (c_x1p:Nat) (hx_x1p:SliceR PartT h o_x1p c_x1p x1p) (o_x1y:Option Nat) (hx_x1y:MapR Value.bool h o_x1y x1y) :
    Calls Try.prog 150 #[.agg #[.slice o_x0p x0p.length c_x0p, .map o_x0y], .agg #[.slice o_x1p x1p.length c_x1p, .map o_x1y]] w fun e w'=>∃v,e= .returned v∧(∃h',∃o0:Option Addr,∃c0:Nat,∃o1:Option Nat,Zone.le h h'∧v= .agg #[.slice o0 r.1.length c0, .map o1]∧St h' L w'∧SliceR PartT h' o0 c0 r.1∧MapR Value.bool h' o1 r.2):=by
 refine calls_intro (N:=36) Try.func150 (by kernel_rfl) fun a hf=>?_
 refine c_sr ?_
 refine c_box [.slice o_x0p x0p.length c_x0p, .map o_x0y] 119 hS hf fun b1 ww1 a1 hS1 hf1=>⟨fun _=>trivial,?_⟩
 refine c_box [.slice o_x1p x1p.length c_x1p, .map o_x1y] 119 hS1 hf1 fun b2 ww2 a2 hS2 hf2=>⟨fun _=>trivial,?_⟩
 refine c_box [.slice none 0 0, .map none] 119 hS2 hf2 fun b3 ww3 a3 hS3 hf3=>⟨fun _=>trivial,?_⟩
 refine c_dt ?_
 refine c_sr ?_
 refine c_n 4 [.slice o_x0p x0p.length c_x0p, .slice o_x1p x1p.length c_x1p] [2,3,4,10,12] hf3 (.cell (hS3.box (i:=2) rfl (j:=0) rfl) (.cell (hS3.box (i:=1) rfl (j:=0) rfl) .nil)) fun a4 hf4=>?_
 obtain ⟨r1,hd1,hr1⟩:=bind_some hr
 refine c_call hf4 (f80_ok fuel x0p x1p r1 hd1 h _ _ hS3 o_x0p c_x0p hx_x0p o_x1p c_x1p hx_x1p) ?_
 rintro v1 ww4 a5 ⟨z1,e1,q1,k2,rfl,hS4,hx1⟩ hf5
 refine ⟨fun _=>trivial,?_⟩
 refine p_makeMap (i:=5) (d:=(some 14)) Value.bool hS4 hf5 (fun b=>by kernel_rfl) fun b4 ww5 a6 hS5 hf6=>⟨fun _=>trivial,?_⟩
 refine c_n 1 [] [2,3,4,15] hf6 .nil fun a7 hf7=>?_
 refine c_box [.slice none 0 0, .map none] 119 hS5 hf7 fun b5 ww6 a8 hS6 hf8=>⟨fun _=>trivial,?_⟩
 refine c_st 0 [.slice e1 r1.length q1, .map (some b4)] hS6 hf8 rfl fun ww7 a9 hS7 hf9=>⟨fun _=>trivial,?_⟩
 refine c_dt ?_
 refine c_seq ?_
 refine c_sr ?_
 refine c_n 2 [.slice o_x0p x0p.length c_x0p, .map o_x0y, .slice o_x1p x1p.length c_x1p, .map o_x1y] [4,5,16,17] hf9 (.cell (hS7.box (i:=4) rfl (j:=0) rfl) (.cell (hS7.box (i:=4) rfl (j:=1) rfl) (.cell (hS7.box (i:=3) rfl (j:=0) rfl) (.cell (hS7.box (i:=3) rfl (j:=1) rfl) .nil)))) fun a10 hf10=>?_
 refine p_box (i:=2) (d:=(some 18)) (cs:=[.slice o_x0p x0p.length c_x0p, .map o_x0y, .slice o_x1p x1p.length c_x1p, .map o_x1y]) (T:=119) (v:=fun b6=> .slice (some ⟨b6,0,none⟩) 2 2) hS7 hf10 (fun b=>by kernel_rfl) fun b6 ww8 a11 hS8 hf11=>⟨fun _=>trivial,?_⟩
 have hS9:=hS8.ownBox (T:=BagT) (E:=119) (n:=2) (xs:=[(⟨x0p,x0y⟩:Bag),(⟨x1p,x1y⟩:Bag)]) (i:=0) rfl (Rows.cons (c:=[.slice o_x0p x0p.length c_x0p, .map o_x0y]) (bagRep (x:=⟨x0p,x0y⟩) ((SliceR.mono k2 hx_x0p)) (MapR.mono k2 hx_x0y)) (Rows.cons (c:=[.slice o_x1p x1p.length c_x1p, .map o_x1y]) (bagRep (x:=⟨x1p,x1y⟩) ((SliceR.mono k2 hx_x1p)) (MapR.mono k2 hx_x1y)) rfl)) rfl (by decide)
 refine c_t [] [4,5,18,19,20] hf11 .nil fun a12 hf12=>?_
 refine c_block 0 ?_
 refine c_loop (fun n a w=>∃z2:Zone,∃y1:List (Int×Bool),∃y2:Int,Zone.le z1 z2∧Fr a 36 [(4,pB b3 0),(5,pB b5 0),(18, .slice (some ⟨b6,0,none⟩) ([(⟨x0p,x0y⟩:Bag),(⟨x1p,x1y⟩:Bag)].length) 2),(19,vI 2),(20,vI y2)]∧St z2 (ownS BagT 119 (some ⟨b6,0,none⟩) 2 ([(⟨x0p,x0y⟩:Bag),(⟨x1p,x1y⟩:Bag)])::box b5 [.slice e1 r1.length q1, .map (some b4)] 119::mapA Value.bool b4 y1::box b3 [.slice none 0 0, .map none] 119::box b2 [.slice o_x1p x1p.length c_x1p, .map o_x1y] 119::box b1 [.slice o_x0p x0p.length c_x0p, .map o_x0y] 119::L) w∧(F150_l1 x0p x0y x1p x1y r1 n y1 y2)=some r) fuel ⟨z1,[],0,zr,hf12.to,hS9,hr1⟩ ?_
 rintro n2 a13 ww9 ⟨z2,y1,y2,k3,hf14,hS10,hr2⟩
 cases n2 with
 | zero=>cases hr2
 | succ n1 =>
 refine c_sq [] [4,5,18,19,20,21] hf14 .nil fun a14 hf15=>?_
 refine c_seq ?_
 refine c_if (decide (y2<(2:Int))) hf15 (fun hb1=>?_) (fun hb1=>?_)
 ·have hr3:=cond_t hb1 hr2
  refine c_skip ?_
  refine n_then ?_
  refine c_seq ?_
  refine c_block 1 ?_
  refine c_sr ?_
  obtain ⟨p1,hp2104,hr4⟩:=bind_some hr3
  obtain ⟨ad1,ho1,hb2,cc1,hc1,hk1⟩:=hS10.ownGet (j:=0) rfl hp2104
  obtain ⟨e2,q2,e3,rfl,hx2,hx3⟩:=hc1
  refine c_n 2 [.pointer (some ad1), .slice e2 p1.parts.length q2, .map e3] [4,5,18,19,20,23] hf15 (.prop ho1 (.prop hb2 (.cell (hk1 0 _ rfl) (.cell (hk1 1 _ rfl) .nil)))) fun a15 hf16=>?_
  refine c_box [.slice none 0 0, .map none] 119 hS10 hf16 fun b7 ww10 a16 hS11 hf17=>⟨fun _=>trivial,?_⟩
  refine c_st 0 [.slice e2 p1.parts.length q2, .map e3] hS11 hf17 rfl fun ww11 a17 hS12 hf18=>⟨fun _=>trivial,?_⟩
  refine c_dt ?_
  refine c_sr ?_
  refine c_n 2 [.map e3] [4,5,18,19,20,25] hf18 (.cell (hS12.box (i:=0) rfl (j:=1) rfl) .nil) fun a18 hf19=>?_
  refine p_range (i:=2) (d:=(some 26)) (t:=117) (o:=e3) hS12 hf19 (by kernel_rfl) mp117 hx3 fun b8 ww12 a19 l1 hl1 hS13 hf20=>⟨fun _=>trivial,?_⟩
  refine c_dt ?_
  refine c_block 2 ?_
  have hU2181:=uniK_same (hS13.mapRise (j:=4) rfl) hl1
  refine c_loop (fun n a w=>∃l2 d1,l2.length=n∧uniK d1 l2=(uniK y1 p1.may)∧Fr a 36 [(4,pB b3 0),(5,pB b5 0),(18, .slice (some ⟨b6,0,none⟩) ([(⟨x0p,x0y⟩:Bag),(⟨x1p,x1y⟩:Bag)].length) 2),(19,vI 2),(20,vI y2),(26,pB b8 0)]∧St z2 (iterA Value.bool b8 l2::box b7 [.slice e2 p1.parts.length q2, .map e3] 119::ownS BagT 119 (some ⟨b6,0,none⟩) 2 ([(⟨x0p,x0y⟩:Bag),(⟨x1p,x1y⟩:Bag)])::box b5 [.slice e1 r1.length q1, .map (some b4)] 119::mapA Value.bool b4 d1::box b3 [.slice none 0 0, .map none] 119::box b2 [.slice o_x1p x1p.length c_x1p, .map o_x1y] 119::box b1 [.slice o_x0p x0p.length c_x0p, .map o_x0y] 119::L) w) l1.length ⟨l1,_,rfl,hU2181,hf20.to,hS13⟩ ?_
  rintro n3 a20 ww13 ⟨l2,d1,hn2184,hu2185,hf22,hS14⟩
  refine c_sr ?_
  refine p_next (i:=0) (j:=0) (d:=(some 27)) (b:=b8) hS14 hf22 (by kernel_rfl) rfl (fun e2199 a21 hf23=>⟨fun _=>trivial,?_⟩) (fun k4 v2 l3 ww14 a21 hm2200 hlt2201 hS15 hf23=>⟨fun _=>trivial,?_⟩)
  ·skip
   subst e2199
   obtain rfl:=(show d1=(uniK y1 p1.may) from hu2185)
   have hS16:=hS14.dropAt (i:=0) rfl
   refine c_t [] [4,5,18,19,20,26,28] hf23 .nil fun a22 hf24=>?_
   refine c_seq ?_
   refine w_if_false hf24 (by kernel_rfl) ?_
   refine c_exit 2 ?_
   refine x_then ?_
   refine x_then ?_
   refine x_block ?_
   refine n_block ?_
   refine n_then ?_
   refine c_q [] [4,5,18,19,20] hf24 .nil fun a23 hf25=>?_
   refine n_then ?_
   exact ⟨n1,Nat.lt_succ_self n1,z2,(uniK y1 p1.may),(w64 (y2 + (1:Int))),k3,hf25.to,(St.drop 2 hS16),hr4⟩
  ·skip
   refine c_t [] [4,5,18,19,20,26,28] hf23 .nil fun a24 hf27=>?_
   refine c_seq ?_
   refine w_if_true hf27 (by kernel_rfl) ?_
   refine c_skip ?_
   refine n_then ?_
   refine c_block 3 ?_
   refine c_sr ?_
   refine p_entry (i:=0) (j:=0) (d:=(some 29)) (b:=b8) hS15 hf27 (by kernel_rfl) rfl fun a25 hf28=>⟨fun _=>trivial,?_⟩
   refine c_t [] [4,5,8,18,19,20,26] hf28 .nil fun a26 hf29=>?_
   refine c_reg ?_
   refine c_n 3 [.map (some b4)] [4,5,18,19,20,26,32,33] hf29 (.cell (hS15.box (i:=3) rfl (j:=1) rfl) .nil) fun a27 hf30=>?_
   refine p_put (i:=3) (j:=4) (t:=117) (r:=b4) (k:=k4) (v:=true) hS15 hf30 rfl (by kernel_rfl) mp117 fun ww15 a28 hS17 hf31=>⟨fun _=>trivial,?_⟩
   refine c_done ?_
   refine n_block ?_
   refine n_then ?_
   have hS18:=(hS17).conv (i:=0) rfl iterE_A
   exact ⟨l3.length,by omega,l3,_,rfl,(uniK_step (hS14.mapRise (j:=4) rfl) hm2200).symm.trans hu2185,hf31.to,hS18⟩
 ·have hr5:=cond_f hb1 hr2
  refine c_exit 0 ?_
  refine x_then ?_
  refine x_then ?_
  refine x_block ?_
  refine n_then ?_
  refine c_sr ?_
  refine c_n 1 [.slice e1 r1.length q1, .map (some b4)] [4,35] hf15 (.cell (hS10.box (i:=1) rfl (j:=0) rfl) (.cell (hS10.box (i:=1) rfl (j:=1) rfl) .nil)) fun a29 hf33=>?_
  refine c_st 3 [.slice e1 r1.length q1, .map (some b4)] hS10 hf33 rfl fun ww16 a30 hS19 hf34=>⟨fun _=>trivial,?_⟩
  refine c_dt ?_
  refine c_ret ?_
  obtain ⟨z3,k5,hS20,hx4⟩:=hS19.mapShare (j:=2) rfl
  refine c_rt [.slice e1 r1.length q1, .map (some b4)] (.agg #[.slice e1 r1.length q1, .map (some b4)]) hf34 (.cell (hS20.box (i:=3) rfl (j:=0) rfl) (.cell (hS20.box (i:=3) rfl (j:=1) rfl) .nil)) ?_
  obtain rfl:=some_eq hr5
  exact ⟨_,rfl,z3,e1,q1,(some b4),(zt (zt k2 k3) k5),rfl,(St.drop 6 hS20),(SliceR.mono (zt k3 k5) hx1),hx4⟩
def F151 (fuel:Nat) (x0:Pl) (x1:Int):Option (List Part×List (Int×Bool)×Pl) :=
  ((getI x0.holds x1).bind fun p1=>(cond (decide ((w64 ((p1.length:Int) - (1:Int)))<(0:Int))) (some ([],[],x0)) ((getI x0.holds x1).bind fun p2=>((getI x0.may x1).bind fun p3=>((getI p2 (w64 ((p1.length:Int) - (1:Int)))).bind fun p4=>((getI p3 (w64 ((p1.length:Int) - (1:Int)))).bind fun p5=>(some (p4,p5,x0))))))))
set_option maxRecDepth 100000 in
theorem f151_ok (fuel:Nat) (x0:Pl) (x1:Int) (r:List Part×List (Int×Bool)×Pl) (hr:F151 fuel x0 x1=some r) (h:Zone) (L:List Atom) (w:World) (b_x0:Nat) (hS:St h (plA 126 40 117 b_x0 x0::L) w)  :
    Calls Try.prog 151 #[pB b_x0 0,vI x1] w fun e w'=>∃v,e= .returned v∧(∃h',∃o0:Option Addr,∃c0:Nat,∃o1:Option Nat,Zone.le h h'∧v= .agg #[.slice o0 r.1.length c0, .map o1]∧St h' (plA 126 40 117 b_x0 r.2.2::L) w'∧SliceR PartT h' o0 c0 r.1∧MapR Value.bool h' o1 r.2.1):=by
 refine calls_intro (N:=38) Try.func151 (by kernel_rfl) fun a hf=>?_
 refine c_sr ?_
 refine c_box [.slice none 0 0, .map none] 119 hS hf fun b1 ww1 a1 hS1 hf1=>⟨fun _=>trivial,?_⟩
 refine c_dt ?_
 obtain ⟨o6,c7,v1,v2,v3,v4,v5,v6,v7,v8,v9,v10,v11,v12,v13,v14,v15,v16,v17,v18,hx1,hS2⟩:=hS1.plOpen (i:=1) rfl
 obtain ⟨p1,hp31,hr1⟩:=bind_some hr
 obtain ⟨e1,q1,hv1,hb1,hS3⟩:=hS2.ownOpen (j:=0) rfl hp31
 refine c_seq ?_
 refine c_q [.slice e1 p1.length q1] [0,1,4,5] hf1 (.prop hb1 (.cell ((arrAddr b_x0 1 (Int.toNat x1)) ▸ (hS3.box (i:=4) rfl (getElem?_app_right [.slice o6 x0.lots.length c7] _ _ hv1 [v10,v11,v12,v13,v14,v15,v16,v17,v18]))) .nil)) fun a2 hf2=>?_
 have hS4:=hS3.ownClose' (j:=1) (k:=0) rfl rfl (by decide) hv1 (getI_spec hp31).2
 have hS5:=hS4.plClose (i:=4) (j:=1) (k:=2) rfl hx1 rfl rfl (by decide) (by decide) (by decide)
 refine n_then ?_
 refine c_seq ?_
 refine c_sq [] [0,1,4,5,16] hf2 .nil fun a3 hf3=>?_
 refine c_if (decide ((w64 ((p1.length:Int) - (1:Int)))<(0:Int))) hf3 (fun hb2=>?_) (fun hb2=>?_)
 ·have hr2:=cond_t hb2 hr1
  refine c_sr ?_
  refine c_n 1 [] [4,17] hf3 .nil fun a4 hf4=>?_
  refine c_st 3 [.slice none 0 0, .map none] hS5 hf4 rfl fun ww2 a5 hS6 hf5=>⟨fun _=>trivial,?_⟩
  refine c_dt ?_
  refine c_ret ?_
  refine r_then ?_
  refine c_rt [.slice none 0 0, .map none] (.agg #[.slice none 0 0, .map none]) hf5 (.cell (hS6.box (i:=3) rfl (j:=0) rfl) (.cell (hS6.box (i:=3) rfl (j:=1) rfl) .nil)) ?_
  obtain rfl:=some_eq hr2
  exact ⟨_,rfl,h,none,0,none,zr,rfl,(St.pick 5 [4] hS6 (by kernel_rfl)),SliceR.nil' _ _,(MapR.nil' _ _)⟩
 ·have hr3:=cond_f hb2 hr1
  refine c_skip ?_
  refine n_then ?_
  refine c_seq ?_
  obtain ⟨e2,q2,v19,v20,v21,v22,v23,v24,v25,v26,v27,v28,v29,v30,v31,v32,v33,v34,v35,v36,hx2,hS7⟩:=hS5.plOpen (i:=4) rfl
  obtain ⟨p2,hp90,hr4⟩:=bind_some hr3
  obtain ⟨e3,q3,hv2,hb3,hS8⟩:=hS7.ownOpen (j:=0) rfl hp90
  obtain ⟨p3,hp99,hr5⟩:=bind_some hr4
  obtain ⟨e4,q4,hv3,hb4,hS9⟩:=hS8.ownOpen (j:=2) rfl hp99
  have hS10:=hS9.drew
  refine c_regD [(0,true),(1,true),(2,true),(3,true),(4,true),(5,true),(6,true),(7,true),(8,true),(9,true),(10,true),(11,true),(12,true),(13,true),(14,true),(15,true),(16,true),(17,true),(18,true),(19,true),(20,false)] [20] (fun x=>x=ww1.drew) rfl ?_
  obtain ⟨p4,hp109,hr6⟩:=bind_some hr5
  obtain ⟨ad1,ho1,hb5,cc1,hc1,hk1⟩:=hS10.ownGet (j:=1) rfl hp109
  obtain ⟨e5,q5,rfl,hx3⟩:=hc1
  obtain ⟨p5,hp121,hr7⟩:=bind_some hr6
  obtain ⟨ad2,ho2,hb6,cc2,hc2,hk2⟩:=hS10.ownGet (j:=0) rfl hp121
  obtain ⟨e6,rfl,hx4⟩:=hc2
  refine c_E 20 [.slice e3 p2.length q3, .pointer (some ad1), .slice e5 p4.length q5, .slice e4 p3.length q4, .pointer (some ad2), .map e6] [4,37] hf3 (.prop hb3 (.cell ((arrAddr b_x0 1 (Int.toNat x1)) ▸ (hS10.box (i:=8) rfl (getElem?_app_right [.slice e2 x0.lots.length q2] _ _ hv2 [v28,v29,v30,v31,v32,v33,v34,v35,v36]))) (.prop ho1 (.prop hb5 (.cell (hk1 0 _ rfl) (.prop hb4 (.cell ((arrAddr b_x0 10 (Int.toNat x1)) ▸ (hS10.box (i:=8) rfl (getElem?_app_right [.slice e2 x0.lots.length q2,v19,v20,v21,v22,v23,v24,v25,v26,v27] _ _ hv3 []))) (.prop ho2 (.prop hb6 (.cell (hk2 0 _ rfl) .nil)))))))))) .nil fun a6 hf6=>?_
  refine c_st 7 [.slice e5 p4.length q5, .map e6] hS10 hf6 rfl fun ww3 a7 hS11 hf7=>⟨fun e=>absurd e (by decide),?_⟩
  refine c_done ?_
  have hS12:=hS11.ownClose' (j:=2) (k:=1) rfl rfl (by decide) hv2 (getI_spec hp90).2
  have hS13:=hS12.ownClose' (j:=3) (k:=0) rfl rfl (by decide) hv3 (getI_spec hp99).2
  have hS14:=hS13.plClose (i:=8) (j:=2) (k:=3) rfl hx2 rfl rfl (by decide) (by decide) (by decide)
  refine n_then ?_
  refine c_ret ?_
  refine c_rt [.slice e5 p4.length q5, .map e6] (.agg #[.slice e5 p4.length q5, .map e6]) hf7 (.cell (hS14.box (i:=7) rfl (j:=0) rfl) (.cell (hS14.box (i:=7) rfl (j:=1) rfl) .nil)) ?_
  obtain rfl:=some_eq hr7
  exact ⟨_,rfl,h,e5,q5,e6,zr,rfl,(St.pick 9 [8] hS14 (by kernel_rfl)),hx3,hx4⟩
def F152 (fuel:Nat) (x0:Pl) (x1:Int):Option (Pl) :=
  ((getI x0.holds x1).bind fun p1=>(cond (decide ((w64 ((p1.length:Int) - (1:Int)))≥(0:Int))) ((getI x0.holds x1).bind fun p2=>((getI x0.may x1).bind fun p3=>((subI p2 0 (w64 ((p1.length:Int) - (1:Int)))).bind fun d1=>((subI p3 0 (w64 ((p1.length:Int) - (1:Int)))).bind fun d2=>(some ((⟨x0.lots,(x0.holds.set (Int.toNat x1) d1),(x0.may.set (Int.toNat x1) d2)⟩:Pl))))))) (some (x0))))
set_option maxRecDepth 100000 in
theorem f152_ok (fuel:Nat) (x0:Pl) (x1:Int) (r:Pl) (hr:F152 fuel x0 x1=some r) (h:Zone) (L:List Atom) (w:World) (b_x0:Nat) (hS:St h (plA 126 40 117 b_x0 x0::L) w)  :
    Calls Try.prog 152 #[pB b_x0 0,vI x1] w fun e w'=>∃v,e= .returned v∧(∃h',Zone.le h h'∧v= .tuple #[]∧St h' (plA 126 40 117 b_x0 r::L) w'):=by
 refine calls_intro (N:=44) Try.func152 (by kernel_rfl) fun a hf=>?_
 obtain ⟨o1,c2,v1,v2,v3,v4,v5,v6,v7,v8,v9,v10,v11,v12,v13,v14,v15,v16,v17,v18,hx1,hS1⟩:=hS.plOpen (i:=0) rfl
 obtain ⟨p1,hp26,hr1⟩:=bind_some hr
 obtain ⟨e1,q1,hv1,hb1,hS2⟩:=hS1.ownOpen (j:=0) rfl hp26
 refine c_seq ?_
 refine c_q [.slice e1 p1.length q1] [0,1,4] hf (.prop hb1 (.cell ((arrAddr b_x0 1 (Int.toNat x1)) ▸ (hS2.box (i:=3) rfl (getElem?_app_right [.slice o1 x0.lots.length c2] _ _ hv1 [v10,v11,v12,v13,v14,v15,v16,v17,v18]))) .nil)) fun a1 hf1=>?_
 have hS3:=hS2.ownClose' (j:=1) (k:=0) rfl rfl (by decide) hv1 (getI_spec hp26).2
 have hS4:=hS3.plClose (i:=3) (j:=1) (k:=2) rfl hx1 rfl rfl (by decide) (by decide) (by decide)
 refine n_then ?_
 refine c_sq [] [0,1,4,15] hf1 .nil fun a2 hf2=>?_
 refine c_if (decide ((w64 ((p1.length:Int) - (1:Int)))≥(0:Int))) hf2 (fun hb2=>?_) (fun hb2=>?_)
 ·have hr2:=cond_t hb2 hr1
  obtain ⟨e2,q2,v19,v20,v21,v22,v23,v24,v25,v26,v27,v28,v29,v30,v31,v32,v33,v34,v35,v36,hx2,hS5⟩:=hS4.plOpen (i:=3) rfl
  obtain ⟨p2,hp68,hr3⟩:=bind_some hr2
  obtain ⟨e3,q3,hv2,hb3,hS6⟩:=hS5.ownOpen (j:=0) rfl hp68
  obtain ⟨p3,hp77,hr4⟩:=bind_some hr3
  obtain ⟨e4,q4,hv3,hb4,hS7⟩:=hS6.ownOpen (j:=2) rfl hp77
  have hS8:=hS7.drew
  refine c_regD [(0,true),(1,true),(2,true),(3,true),(4,true),(5,true),(6,true),(7,true),(8,true),(9,true),(10,true),(11,true),(12,true),(13,true),(14,true),(15,true),(16,true),(17,true),(18,true),(19,true),(20,true),(21,true),(22,true),(23,true),(24,true),(26,true),(27,true),(25,false),(28,true),(29,false)] [25,29] (fun x=>x=w.drew) rfl ?_
  obtain ⟨d1,hd1,hr5⟩:=bind_some hr4
  obtain ⟨hv4,hb5,hS9⟩:=hS8.ownSub (j:=1) rfl hd1
  obtain ⟨d2,hd2,hr6⟩:=bind_some hr5
  obtain ⟨hv5,hb6,hS10⟩:=hS9.ownSub (j:=0) rfl hd2
  refine c_E 27 [.slice e3 p2.length q3, .slice e3 d1.length q3, .slice e4 p3.length q4, .slice e4 d2.length q4] [19,28,36,40,42] hf2 (.prop hb3 (.cell ((arrAddr b_x0 1 (Int.toNat x1)) ▸ (hS8.box (i:=7) rfl (getElem?_app_right [.slice e2 x0.lots.length q2] _ _ hv2 [v28,v29,v30,v31,v32,v33,v34,v35,v36]))) (.prop hv4 (.prop hb5 (.prop hb4 (.cell ((arrAddr b_x0 10 (Int.toNat x1)) ▸ (hS9.box (i:=7) rfl (getElem?_app_right [.slice e2 x0.lots.length q2,v19,v20,v21,v22,v23,v24,v25,v26,v27] _ _ hv3 []))) (.prop hv5 (.prop hb6 (.prop hb3 .nil))))))))) .nil fun a3 hf3=>?_
  refine p_storeA (i:=25) (j:=7) (b:=b_x0) (ix:=x1) (pre:=[.slice e2 x0.lots.length q2]) (vs:=[v19,v20,v21,v22,v23,v24,v25,v26,v27]) (post:=[v28,v29,v30,v31,v32,v33,v34,v35,v36]) (v:= .slice e3 d1.length q3) hS10 hf3 rfl (by have z1:=hb3.1; have z2:=hb3.2; simp at z2 ⊢; omega) (by kernel_rfl) rfl fun ww1 a4 hS11 hf4=>⟨fun e=>absurd e (by decide),?_⟩
  obtain ⟨v37,v38,v39,v40,v41,v42,v43,v44,v45,hu104⟩:=nine (vs:=[v19,v20,v21,v22,v23,v24,v25,v26,v27].set (Int.toNat x1) (.slice e3 d1.length q3)) (by simp)
  rw [hu104] at hS11
  have hv6:[v37,v38,v39,v40,v41,v42,v43,v44,v45][Int.toNat x1]? =some (.slice e3 d1.length q3):=by rw [← hu104]; exact List.getElem?_set_self (by have z1:=hb3.1; have z2:=hb3.2; simp at z2 ⊢; omega)
  have hS12:=hS11
  refine p_qP 1 [] [(36, .slice e4 d2.length q4),(43, .pointer (some ((⟨b_x0,10,none⟩:Addr).add (Int.toNat x1 * 1))))] [.prop (0≤x1∧x1<(9:Nat))] hf4 (by kernel_rfl) (fun _=>(.prop hb4 .nil)) fun a5 hf5=>?_
  refine p_storeA (i:=29) (j:=7) (b:=b_x0) (ix:=x1) (pre:=[.slice e2 x0.lots.length q2,v37,v38,v39,v40,v41,v42,v43,v44,v45]) (vs:=[v28,v29,v30,v31,v32,v33,v34,v35,v36]) (post:=[]) (v:= .slice e4 d2.length q4) hS12 hf5 rfl (by have z1:=hb4.1; have z2:=hb4.2; simp at z2 ⊢; omega) (by kernel_rfl) rfl fun ww2 a6 hS13 hf6=>⟨fun e=>absurd e (by decide),?_⟩
  obtain ⟨v46,v47,v48,v49,v50,v51,v52,v53,v54,hu122⟩:=nine (vs:=[v28,v29,v30,v31,v32,v33,v34,v35,v36].set (Int.toNat x1) (.slice e4 d2.length q4)) (by simp)
  rw [hu122] at hS13
  have hv7:[v46,v47,v48,v49,v50,v51,v52,v53,v54][Int.toNat x1]? =some (.slice e4 d2.length q4):=by rw [← hu122]; exact List.getElem?_set_self (by have z1:=hb4.1; have z2:=hb4.2; simp at z2 ⊢; omega)
  have hS14:=hS13
  refine c_done ?_
  have hS15:=hS14.ownClose (j:=2) (k:=1) rfl rfl (by decide) (List.getElem?_eq_some_iff.1 (getI_spec hp68).2).1
  rw [hu104] at hS15
  have hS16:=hS15.ownClose (j:=3) (k:=0) rfl rfl (by decide) (List.getElem?_eq_some_iff.1 (getI_spec hp77).2).1
  rw [hu122] at hS16
  have hS17:=hS16.plClose (i:=7) (j:=2) (k:=3) rfl hx2 rfl rfl (by decide) (by decide) (by decide)
  refine c_fall [] (.tuple #[]) hf6 .nil ?_
  obtain rfl:=some_eq hr6
  exact ⟨_,rfl,h,zr,rfl,(St.pick 8 [7] hS17 (by kernel_rfl))⟩
 ·have hr7:=cond_f hb2 hr1
  refine c_skip ?_
  refine c_fall [] (.tuple #[]) hf2 .nil ?_
  obtain rfl:=some_eq hr7
  exact ⟨_,rfl,h,zr,rfl,(St.pick 4 [3] hS4 (by kernel_rfl))⟩
def F146_j1 (fuel:Nat) (x1:Int) (y1:Pl) (y2:List Part) (y3:List (Int×Bool)):Option (Pl) :=
  ((F152 fuel y1 x1).bind fun r1=>((F148 fuel r1 x1 y2 y3).bind fun r2=>(some (r2))))
def F146 (fuel:Nat) (x0:Pl) (x1:Int) (x2p:List Part) (x2y:List (Int×Bool)):Option (Pl) :=
  ((F151 fuel x0 x1).bind fun r3=>((F150 fuel r3.1 r3.2.1 x2p x2y).bind fun r4=>(F146_j1 fuel x1 r3.2.2 r4.1 r4.2)))
set_option maxRecDepth 100000 in
theorem f146_ok (fuel:Nat) (x0:Pl) (x1:Int) (x2p:List Part) (x2y:List (Int×Bool)) (r:Pl) (hr:F146 fuel x0 x1 x2p x2y=some r) (h:Zone) (L:List Atom) (w:World) (b_x0:Nat) (hS:St h (plA 126 40 117 b_x0 x0::L) w) (o_x2p:Option Addr) (c_x2p:Nat) (hx_x2p:SliceR PartT h o_x2p c_x2p x2p) (o_x2y:Option Nat) (hx_x2y:MapR Value.bool h o_x2y x2y) :
    Calls Try.prog 146 #[pB b_x0 0,vI x1, .agg #[.slice o_x2p x2p.length c_x2p, .map o_x2y]] w fun e w'=>∃v,e= .returned v∧(∃h',Zone.le h h'∧v= .tuple #[]∧St h' (plA 126 40 117 b_x0 r::L) w'):=by
 refine calls_intro (N:=19) Try.func146 (by kernel_rfl) fun a hf=>?_
 refine c_sr ?_
 refine c_box [.slice o_x2p x2p.length c_x2p, .map o_x2y] 119 hS hf fun b1 ww1 a1 hS1 hf1=>⟨fun _=>trivial,?_⟩
 refine c_dt ?_
 refine c_mid (fun a w=>∃z1:Zone,∃y1:Pl,∃y2:List Part,∃y3:List (Int×Bool),∃b2:Nat,∃e1:Option Addr,∃q1:Nat,∃e2:Option Nat,Zone.le h z1∧Fr a 19 [(0,pB b_x0 0),(1,vI x1),(6,pB b2 0)]∧St z1 (box b2 [.slice e1 y2.length q1, .map e2] 119::box b1 [.slice o_x2p x2p.length c_x2p, .map o_x2y] 119::plA 126 40 117 b_x0 y1::L) w∧SliceR PartT z1 e1 q1 y2∧MapR Value.bool z1 e2 y3∧(F146_j1 fuel x1 y1 y2 y3)=some r) ?_ ?_
 ·skip
  have hS2:=hS1.drew
  have s1:=Sub.of zr (hS2.mask (i:=1) rfl)
  refine w_regB (by kernel_rfl) [4,6] (Sub h (box b1 [.slice o_x2p x2p.length c_x2p, .map o_x2y] 119::anyA::L)) (by kernel_rfl) ?_
  refine k_seg' 4 [(0,true),(1,true),(3,true)] (by kernel_rfl) (by kernel_rfl) (At.start s1) (by kernel_rfl) ?_
  refine c_S 3 [.slice o_x2p x2p.length c_x2p, .map o_x2y] [0,1,7,8,10] s1 hf1 (fun _ s=>(.cell (s.box (i:=0) rfl (j:=0) rfl) (.cell (s.box (i:=0) rfl (j:=1) rfl) .nil))) .nil fun a2 hf2=>?_
  refine c_done ?_
  intro hA1
  refine k_any' 3 [2,5] (by kernel_rfl) hA1 (by kernel_rfl) (by kernel_rfl) ?_
  refine (all_cons ?_ (all_cons ?_ all_nil))
  ·skip
   have hS3:=St.swapTo (i:=2) (j:=0) (St.addEmp hS2) rfl rfl (by decide)
   have hS4:=hS3
   obtain ⟨r3,hd1,hr1⟩:=bind_some hr
   refine c_call hf2 (f151_ok fuel x0 x1 r3 hd1 h _ _ b_x0 hS4 ) ?_
   rintro v1 ww2 a3 ⟨z2,e3,q2,e4,k1,rfl,hS5,hx1,hx2⟩ hf3
   have hS6:=St.swapTo (i:=0) (j:=2) hS5 rfl rfl (by decide)
   have hS7:=hS6
   refine ⟨fun _=>Sub.of k1 ((St.drop 1 hS7).mask (i:=1) rfl),?_⟩
   refine c_done ?_
   intro hA2
   have s2:=Sub.of k1 ((St.drop 1 hS7).mask (i:=1) rfl)
   refine k_seg' 3 [] (by kernel_rfl) (by kernel_rfl) hA2 (by kernel_rfl) ?_
   refine c_done ?_
   intro hA3
   refine k_any' 2 [4,5] (by kernel_rfl) hA3 (by kernel_rfl) (by kernel_rfl) ?_
   refine (all_cons ?_ (all_cons ?_ all_nil))
   ·skip
    obtain ⟨r4,hd2,hr2⟩:=bind_some hr1
    refine c_call hf3 (f150_ok fuel r3.1 r3.2.1 x2p x2y r4 hd2 z2 _ _ hS7 e3 q2 hx1 e4 hx2 o_x2p c_x2p (SliceR.mono k1 hx_x2p) o_x2y (MapR.mono k1 hx_x2y)) ?_
    rintro v2 ww3 a4 ⟨z3,e5,q3,e6,k2,rfl,hS8,hx3,hx4⟩ hf4
    refine ⟨fun e=>absurd e (by decide),?_⟩
    refine c_done ?_
    intro hA4
    refine k_seg' 0 [(5,false),(6,false)] (by kernel_rfl) (by kernel_rfl) hA4 (by kernel_rfl) ?_
    refine c_box [.slice none 0 0, .map none] 119 hS8 hf4 fun b3 ww4 a5 hS9 hf5=>⟨fun _=>Sub.of (zt k1 k2) ((St.drop 2 hS9).mask (i:=1) rfl),?_⟩
    have s3:=Sub.of (zt k1 k2) ((St.drop 2 hS9).mask (i:=1) rfl)
    refine c_st 0 [.slice e5 r4.1.length q3, .map e6] hS9 hf5 rfl fun ww5 a6 hS10 hf6=>⟨fun e=>absurd e (by decide),?_⟩
    refine c_done ?_
    intro hA5
    refine k_done' (by kernel_rfl) (by kernel_rfl) ?_
    refine n_then ?_
    exact ⟨z3,r3.2.2,r4.1,r4.2,b3,e5,q3,e6,(zt k1 k2),hf6.to,(St.pick 2 [0] hS10 (by kernel_rfl)),hx3,hx4,hr2⟩
   ·skip
    refine c_box [.slice none 0 0, .map none] 119 hS7 hf3 fun b4 ww6 a7 hS11 hf8=>⟨fun _=>Sub.of k1 ((St.drop 2 hS11).mask (i:=1) rfl),?_⟩
    refine c_done ?_
    intro hA6
    have s4:=Sub.of k1 ((St.drop 2 hS11).mask (i:=1) rfl)
    refine k_seg' 0 [(4,false),(6,false)] (by kernel_rfl) (by kernel_rfl) hA6 (by kernel_rfl) ?_
    obtain ⟨r5,hd3,hr3⟩:=bind_some hr1
    refine c_call hf8 (f150_ok fuel r3.1 r3.2.1 x2p x2y r5 hd3 z2 _ _ hS11 e3 q2 hx1 e4 hx2 o_x2p c_x2p (SliceR.mono k1 hx_x2p) o_x2y (MapR.mono k1 hx_x2y)) ?_
    rintro v3 ww7 a8 ⟨z4,e7,q4,e8,k3,rfl,hS12,hx5,hx6⟩ hf9
    refine ⟨fun e=>absurd e (by decide),?_⟩
    refine c_st 0 [.slice e7 r5.1.length q4, .map e8] hS12 hf9 rfl fun ww8 a9 hS13 hf10=>⟨fun e=>absurd e (by decide),?_⟩
    refine c_done ?_
    intro hA7
    refine k_done' (by kernel_rfl) (by kernel_rfl) ?_
    refine n_then ?_
    exact ⟨z4,r3.2.2,r5.1,r5.2,b4,e7,q4,e8,(zt k1 k3),hf10.to,(St.pick 2 [0] hS13 (by kernel_rfl)),hx5,hx6,hr3⟩
  ·skip
   refine c_box [.slice none 0 0, .map none] 119 hS2 hf2 fun b5 ww9 a10 hS14 hf12=>⟨fun _=>Sub.of zr ((St.drop 1 hS14).mask (i:=1) rfl),?_⟩
   refine c_done ?_
   intro hA8
   have s5:=Sub.of zr ((St.drop 1 hS14).mask (i:=1) rfl)
   refine k_seg' 0 [(2,false),(4,false),(6,false)] (by kernel_rfl) (by kernel_rfl) hA8 (by kernel_rfl) ?_
   have hS15:=St.swapTo (i:=3) (j:=0) (St.addEmp hS14) rfl rfl (by decide)
   have hS16:=hS15
   obtain ⟨r6,hd4,hr4⟩:=bind_some hr
   refine c_call hf12 (f151_ok fuel x0 x1 r6 hd4 h _ _ b_x0 hS16 ) ?_
   rintro v4 ww10 a11 ⟨z5,e9,q5,e10,k4,rfl,hS17,hx7,hx8⟩ hf13
   have hS18:=St.swapTo (i:=0) (j:=3) hS17 rfl rfl (by decide)
   have hS19:=hS18
   refine ⟨fun _=>Sub.of k4 ((St.drop 2 hS19).mask (i:=1) rfl),?_⟩
   have s6:=Sub.of k4 ((St.drop 2 hS19).mask (i:=1) rfl)
   obtain ⟨r7,hd5,hr5⟩:=bind_some hr4
   refine c_call hf13 (f150_ok fuel r6.1 r6.2.1 x2p x2y r7 hd5 z5 _ _ hS19 e9 q5 hx7 e10 hx8 o_x2p c_x2p (SliceR.mono k4 hx_x2p) o_x2y (MapR.mono k4 hx_x2y)) ?_
   rintro v5 ww11 a12 ⟨z6,e11,q6,e12,k5,rfl,hS20,hx9,hx10⟩ hf14
   refine ⟨fun e=>absurd e (by decide),?_⟩
   refine c_st 1 [.slice e11 r7.1.length q6, .map e12] hS20 hf14 rfl fun ww12 a13 hS21 hf15=>⟨fun e=>absurd e (by decide),?_⟩
   refine c_done ?_
   intro hA9
   refine k_done' (by kernel_rfl) (by kernel_rfl) ?_
   refine n_then ?_
   exact ⟨z6,r6.2.2,r7.1,r7.2,b5,e11,q6,e12,(zt k4 k5),hf15.to,(St.pick 2 [1] hS21 (by kernel_rfl)),hx9,hx10,hr5⟩
 ·rintro a14 ww13 ⟨z1,y1,y2,y3,b2,e1,q1,e2,k6,hf17,hS22,hx11,hx12,hr6⟩
  refine c_sr ?_
  refine c_n 2 [] [0,1,6,12,13] hf17 .nil fun a15 hf18=>?_
  have hS23:=St.swapTo (i:=3) (j:=0) (St.addEmp hS22) rfl rfl (by decide)
  have hS24:=hS23
  obtain ⟨r1,hd6,hr7⟩:=bind_some hr6
  refine c_call hf18 (f152_ok fuel y1 x1 r1 hd6 z1 _ _ b_x0 hS24 ) ?_
  rintro v6 ww14 a16 ⟨z7,k7,rfl,hS25⟩ hf19
  have hS26:=St.swapTo (i:=0) (j:=3) hS25 rfl rfl (by decide)
  have hS27:=hS26
  refine ⟨fun _=>trivial,?_⟩
  refine c_dt ?_
  refine c_reg ?_
  refine c_n 3 [.slice e1 y2.length q1, .map e2] [15,16,17] hf19 (.cell (hS27.box (i:=1) rfl (j:=0) rfl) (.cell (hS27.box (i:=1) rfl (j:=1) rfl) .nil)) fun a17 hf20=>?_
  have hS28:=St.swapTo (i:=4) (j:=0) (St.addEmp hS27) rfl rfl (by decide)
  have hS29:=hS28
  obtain ⟨r2,hd7,hr8⟩:=bind_some hr7
  refine c_call hf20 (f148_ok fuel r1 x1 y2 y3 r2 hd7 z7 _ _ b_x0 hS29 e1 q1 (SliceR.mono k7 hx11) e2 (MapR.mono k7 hx12)) ?_
  rintro v7 ww15 a18 ⟨z8,k8,rfl,hS30⟩ hf21
  have hS31:=St.swapTo (i:=0) (j:=4) hS30 rfl rfl (by decide)
  have hS32:=hS31
  refine ⟨fun _=>trivial,?_⟩
  refine c_done ?_
  refine c_fall [] (.tuple #[]) hf21 .nil ?_
  obtain rfl:=some_eq hr8
  exact ⟨_,rfl,z8,(zt (zt k6 k7) k8),rfl,(St.pick 5 [4] hS32 (by kernel_rfl))⟩
def F147 (fuel:Nat) (x0k:Int) (x0o:Int) (x0f:Int) (x0t:Int) (x0m:Int):Option (List Part×List (Int×Bool)) :=
  (some ([⟨x0o,x0m⟩],(putK ([]) x0o true)))
set_option maxRecDepth 100000 in
theorem f147_ok (fuel:Nat) (x0k:Int) (x0o:Int) (x0f:Int) (x0t:Int) (x0m:Int) (r:List Part×List (Int×Bool)) (hr:F147 fuel x0k x0o x0f x0t x0m=some r) (h:Zone) (L:List Atom) (w:World) (hS:St h L w)  :
    Calls Try.prog 147 #[.agg #[vI x0k,vI x0o,vI x0f,vI x0t,vI x0m]] w fun e w'=>∃v,e= .returned v∧(∃h',∃o0:Option Addr,∃c0:Nat,∃o1:Option Nat,Zone.le h h'∧v= .agg #[.slice o0 r.1.length c0, .map o1]∧St h' L w'∧SliceR PartT h' o0 c0 r.1∧MapR Value.bool h' o1 r.2):=by
 refine calls_intro (N:=15) Try.func147 (by kernel_rfl) fun a hf=>?_
 refine c_sr ?_
 refine c_box [vI x0k,vI x0o,vI x0f,vI x0t,vI x0m] 28 hS hf fun b1 ww1 a1 hS1 hf1=>⟨fun _=>trivial,?_⟩
 refine c_box [.slice none 0 0, .map none] 119 hS1 hf1 fun b2 ww2 a2 hS2 hf2=>⟨fun _=>trivial,?_⟩
 refine c_dt ?_
 refine c_sr ?_
 refine c_n 5 [vI x0o,vI x0m] [1,2,7] hf2 (.cell (hS2.box (i:=1) rfl (j:=1) rfl) (.cell (hS2.box (i:=1) rfl (j:=4) rfl) .nil)) fun a3 hf3=>?_
 refine p_box (i:=5) (d:=(some 8)) (cs:=[vI x0o,vI x0m]) (T:=56) (v:=fun b3=> .slice (some ⟨b3,0,none⟩) 1 1) hS2 hf3 (fun b=>by kernel_rfl) fun b3 ww3 a4 hS3 hf4=>⟨fun _=>trivial,?_⟩
 have hS4:=hS3.ownBox (T:=PartT) (E:=56) (n:=1) (xs:=[⟨x0o,x0m⟩]) (i:=0) rfl (Rows.cons (c:=[vI x0o,vI x0m]) rfl rfl) rfl (by decide)
 refine c_n 1 [] [1,2,9] hf4 .nil fun a5 hf5=>?_
 refine p_makeMap (i:=7) (d:=(some 10)) Value.bool hS4 hf5 (fun b=>by kernel_rfl) fun b4 ww4 a6 hS5 hf6=>⟨fun _=>trivial,?_⟩
 refine c_n 2 [vI x0o] [2,9,10,12] hf6 (.cell (hS5.box (i:=3) rfl (j:=1) rfl) .nil) fun a7 hf7=>?_
 refine p_put (i:=10) (j:=0) (t:=117) (r:=b4) (k:=x0o) (v:=true) hS5 hf7 rfl (by kernel_rfl) mp117 fun ww5 a8 hS6 hf8=>⟨fun _=>trivial,?_⟩
 refine c_n 2 [] [2,14] hf8 .nil fun a9 hf9=>?_
 refine c_st 2 [.slice (some ⟨b3,0,none⟩) 1 1, .map (some b4)] hS6 hf9 rfl fun ww6 a10 hS7 hf10=>⟨fun _=>trivial,?_⟩
 refine c_dt ?_
 refine c_ret ?_
 obtain ⟨z1,k1,hS8,hx1⟩:=hS7.share (j:=1) rfl
 obtain ⟨z2,k2,hS9,hx2⟩:=hS8.mapShare (j:=0) rfl
 refine c_rt [.slice (some ⟨b3,0,none⟩) 1 1, .map (some b4)] (.agg #[.slice (some ⟨b3,0,none⟩) 1 1, .map (some b4)]) hf10 (.cell (hS9.box (i:=2) rfl (j:=0) rfl) (.cell (hS9.box (i:=2) rfl (j:=1) rfl) .nil)) ?_
 obtain rfl:=some_eq hr
 exact ⟨_,rfl,z2,(some ⟨b3,0,none⟩),1,(some b4),(zt k1 k2),rfl,(St.drop 4 hS9),(SliceR.mono k2 hx1),hx2⟩
def F138 (fuel:Nat) (x0:Pl) (x1k:Int) (x1o:Int) (x1f:Int) (x1t:Int) (x1m:Int):Option (List Part×List (Int×Bool)×Pl) :=
  ((F147 fuel x1k x1o x1f x1t x1m).bind fun r1=>((F146 fuel x0 x1t r1.1 r1.2).bind fun r2=>((F147 fuel x1k x1o x1f x1t x1m).bind fun r3=>(some (r3.1,r3.2,r2)))))
set_option maxRecDepth 100000 in
theorem f138_ok (fuel:Nat) (x0:Pl) (x1k:Int) (x1o:Int) (x1f:Int) (x1t:Int) (x1m:Int) (r:List Part×List (Int×Bool)×Pl) (hr:F138 fuel x0 x1k x1o x1f x1t x1m=some r) (h:Zone) (L:List Atom) (w:World) (b_x0:Nat) (hS:St h (plA 126 40 117 b_x0 x0::L) w)  :
    Calls Try.prog 138 #[pB b_x0 0, .agg #[vI x1k,vI x1o,vI x1f,vI x1t,vI x1m]] w fun e w'=>∃v,e= .returned v∧(∃h',∃o0:Option Addr,∃c0:Nat,∃o1:Option Nat,Zone.le h h'∧v= .agg #[.slice o0 r.1.length c0, .map o1]∧St h' (plA 126 40 117 b_x0 r.2.2::L) w'∧SliceR PartT h' o0 c0 r.1∧MapR Value.bool h' o1 r.2.1):=by
 refine calls_intro (N:=13) Try.func138 (by kernel_rfl) fun a hf=>?_
 refine c_sr ?_
 refine c_box [vI x1k,vI x1o,vI x1f,vI x1t,vI x1m] 28 hS hf fun b1 ww1 a1 hS1 hf1=>⟨fun _=>trivial,?_⟩
 refine c_box [.slice none 0 0, .map none] 119 hS1 hf1 fun b2 ww2 a2 hS2 hf2=>⟨fun _=>trivial,?_⟩
 refine c_dt ?_
 refine c_seq ?_
 have hS3:=hS2.drew
 have s1:=Sub.of zr hS3
 refine c_regD [(0,true),(1,true),(2,true),(3,true),(4,false),(5,false)] [5] _ s1 ?_
 refine c_S 4 [vI x1t,vI x1k,vI x1o,vI x1f,vI x1t,vI x1m] [3,4,5,7,8] s1 hf2 (fun _ s=>(.cell (s.box (i:=1) rfl (j:=3) rfl) (.cell (s.box (i:=1) rfl (j:=0) rfl) (.cell (s.box (i:=1) rfl (j:=1) rfl) (.cell (s.box (i:=1) rfl (j:=2) rfl) (.cell (s.box (i:=1) rfl (j:=3) rfl) (.cell (s.box (i:=1) rfl (j:=4) rfl) .nil))))))) .nil fun a3 hf3=>?_
 obtain ⟨r1,hd1,hr1⟩:=bind_some hr
 refine c_call hf3 (f147_ok fuel x1k x1o x1f x1t x1m r1 hd1 h _ _ hS3 ) ?_
 rintro v1 ww3 a4 ⟨z1,e1,q1,e2,k1,rfl,hS4,hx1,hx2⟩ hf4
 refine ⟨fun _=>Sub.of k1 hS4,?_⟩
 have s2:=Sub.of k1 hS4
 have hS5:=St.swapTo (i:=3) (j:=0) (St.addEmp hS4) rfl rfl (by decide)
 have hS6:=hS5
 obtain ⟨r2,hd2,hr2⟩:=bind_some hr1
 refine c_call hf4 (f146_ok fuel x0 x1t r1.1 r1.2 r2 hd2 z1 _ _ b_x0 hS6 e1 q1 hx1 e2 hx2) ?_
 rintro v2 ww4 a5 ⟨z2,k2,rfl,hS7⟩ hf5
 have hS8:=St.swapTo (i:=0) (j:=3) hS7 rfl rfl (by decide)
 have hS9:=hS8
 refine ⟨fun e=>absurd e (by decide),?_⟩
 refine c_dt ?_
 refine c_sr ?_
 refine c_n 1 [vI x1k,vI x1o,vI x1f,vI x1t,vI x1m] [4,11] hf5 (.cell (hS9.box (i:=2) rfl (j:=0) rfl) (.cell (hS9.box (i:=2) rfl (j:=1) rfl) (.cell (hS9.box (i:=2) rfl (j:=2) rfl) (.cell (hS9.box (i:=2) rfl (j:=3) rfl) (.cell (hS9.box (i:=2) rfl (j:=4) rfl) .nil))))) fun a6 hf6=>?_
 obtain ⟨r3,hd3,hr3⟩:=bind_some hr2
 refine c_call hf6 (f147_ok fuel x1k x1o x1f x1t x1m r3 hd3 z2 _ _ hS9 ) ?_
 rintro v3 ww5 a7 ⟨z3,e3,q2,e4,k3,rfl,hS10,hx3,hx4⟩ hf7
 refine ⟨fun _=>trivial,?_⟩
 refine c_st 1 [.slice e3 r3.1.length q2, .map e4] hS10 hf7 rfl fun ww6 a8 hS11 hf8=>⟨fun _=>trivial,?_⟩
 refine c_dt ?_
 refine c_ret ?_
 refine c_rt [.slice e3 r3.1.length q2, .map e4] (.agg #[.slice e3 r3.1.length q2, .map e4]) hf8 (.cell (hS11.box (i:=1) rfl (j:=0) rfl) (.cell (hS11.box (i:=1) rfl (j:=1) rfl) .nil)) ?_
 obtain rfl:=some_eq hr3
 exact ⟨_,rfl,z3,e3,q2,e4,(zt (zt k1 k2) k3),rfl,(St.pick 4 [3] hS11 (by kernel_rfl)),hx3,hx4⟩
def F139 (fuel:Nat) (x0:Pl) (x1k:Int) (x1o:Int) (x1f:Int) (x1t:Int) (x1m:Int):Option (List Part×List (Int×Bool)×Pl) :=
  ((F147 fuel x1k x1o x1f x1t x1m).bind fun r1=>((F148 fuel x0 x1t r1.1 r1.2).bind fun r2=>((F147 fuel x1k x1o x1f x1t x1m).bind fun r3=>(some (r3.1,r3.2,r2)))))
set_option maxRecDepth 100000 in
theorem f139_ok (fuel:Nat) (x0:Pl) (x1k:Int) (x1o:Int) (x1f:Int) (x1t:Int) (x1m:Int) (r:List Part×List (Int×Bool)×Pl) (hr:F139 fuel x0 x1k x1o x1f x1t x1m=some r) (h:Zone) (L:List Atom) (w:World) (b_x0:Nat) (hS:St h (plA 126 40 117 b_x0 x0::L) w)  :
    Calls Try.prog 139 #[pB b_x0 0, .agg #[vI x1k,vI x1o,vI x1f,vI x1t,vI x1m]] w fun e w'=>∃v,e= .returned v∧(∃h',∃o0:Option Addr,∃c0:Nat,∃o1:Option Nat,Zone.le h h'∧v= .agg #[.slice o0 r.1.length c0, .map o1]∧St h' (plA 126 40 117 b_x0 r.2.2::L) w'∧SliceR PartT h' o0 c0 r.1∧MapR Value.bool h' o1 r.2.1):=by
 refine calls_intro (N:=13) Try.func139 (by kernel_rfl) fun a hf=>?_
 refine c_sr ?_
 refine c_box [vI x1k,vI x1o,vI x1f,vI x1t,vI x1m] 28 hS hf fun b1 ww1 a1 hS1 hf1=>⟨fun _=>trivial,?_⟩
 refine c_box [.slice none 0 0, .map none] 119 hS1 hf1 fun b2 ww2 a2 hS2 hf2=>⟨fun _=>trivial,?_⟩
 refine c_dt ?_
 refine c_seq ?_
 have hS3:=hS2.drew
 have s1:=Sub.of zr hS3
 refine c_regD [(0,true),(1,true),(2,true),(3,true),(4,false),(5,false)] [5] _ s1 ?_
 refine c_S 4 [vI x1t,vI x1k,vI x1o,vI x1f,vI x1t,vI x1m] [3,4,5,7,8] s1 hf2 (fun _ s=>(.cell (s.box (i:=1) rfl (j:=3) rfl) (.cell (s.box (i:=1) rfl (j:=0) rfl) (.cell (s.box (i:=1) rfl (j:=1) rfl) (.cell (s.box (i:=1) rfl (j:=2) rfl) (.cell (s.box (i:=1) rfl (j:=3) rfl) (.cell (s.box (i:=1) rfl (j:=4) rfl) .nil))))))) .nil fun a3 hf3=>?_
 obtain ⟨r1,hd1,hr1⟩:=bind_some hr
 refine c_call hf3 (f147_ok fuel x1k x1o x1f x1t x1m r1 hd1 h _ _ hS3 ) ?_
 rintro v1 ww3 a4 ⟨z1,e1,q1,e2,k1,rfl,hS4,hx1,hx2⟩ hf4
 refine ⟨fun _=>Sub.of k1 hS4,?_⟩
 have s2:=Sub.of k1 hS4
 have hS5:=St.swapTo (i:=3) (j:=0) (St.addEmp hS4) rfl rfl (by decide)
 have hS6:=hS5
 obtain ⟨r2,hd2,hr2⟩:=bind_some hr1
 refine c_call hf4 (f148_ok fuel x0 x1t r1.1 r1.2 r2 hd2 z1 _ _ b_x0 hS6 e1 q1 hx1 e2 hx2) ?_
 rintro v2 ww4 a5 ⟨z2,k2,rfl,hS7⟩ hf5
 have hS8:=St.swapTo (i:=0) (j:=3) hS7 rfl rfl (by decide)
 have hS9:=hS8
 refine ⟨fun e=>absurd e (by decide),?_⟩
 refine c_dt ?_
 refine c_sr ?_
 refine c_n 1 [vI x1k,vI x1o,vI x1f,vI x1t,vI x1m] [4,11] hf5 (.cell (hS9.box (i:=2) rfl (j:=0) rfl) (.cell (hS9.box (i:=2) rfl (j:=1) rfl) (.cell (hS9.box (i:=2) rfl (j:=2) rfl) (.cell (hS9.box (i:=2) rfl (j:=3) rfl) (.cell (hS9.box (i:=2) rfl (j:=4) rfl) .nil))))) fun a6 hf6=>?_
 obtain ⟨r3,hd3,hr3⟩:=bind_some hr2
 refine c_call hf6 (f147_ok fuel x1k x1o x1f x1t x1m r3 hd3 z2 _ _ hS9 ) ?_
 rintro v3 ww5 a7 ⟨z3,e3,q2,e4,k3,rfl,hS10,hx3,hx4⟩ hf7
 refine ⟨fun _=>trivial,?_⟩
 refine c_st 1 [.slice e3 r3.1.length q2, .map e4] hS10 hf7 rfl fun ww6 a8 hS11 hf8=>⟨fun _=>trivial,?_⟩
 refine c_dt ?_
 refine c_ret ?_
 refine c_rt [.slice e3 r3.1.length q2, .map e4] (.agg #[.slice e3 r3.1.length q2, .map e4]) hf8 (.cell (hS11.box (i:=1) rfl (j:=0) rfl) (.cell (hS11.box (i:=1) rfl (j:=1) rfl) .nil)) ?_
 obtain rfl:=some_eq hr3
 exact ⟨_,rfl,z3,e3,q2,e4,(zt (zt k1 k2) k3),rfl,(St.pick 4 [3] hS11 (by kernel_rfl)),hx3,hx4⟩
def F140_l1 (fuel:Nat) (x1f:Int):Nat→Pl→(List Part)→(List (Int×Bool))→Int→Option (List Part×List (Int×Bool)×Pl)
  | 0,_,_,_,_=>none
  | n1 + 1,y1,y2,y3,y4 =>
    let k1:Pl→(List Part)→(List (Int×Bool))→Int→Option (List Part×List (Int×Bool)×Pl):=F140_l1 fuel x1f n1
    ((getI y1.holds x1f).bind fun p1=>(cond (decide ((p1.length:Int) > (0:Int))) ((F151 fuel y1 x1f).bind fun r1=>((F152 fuel r1.2.2 x1f).bind fun r2=>((F90 fuel r1.1).bind fun r3=>((F91 fuel r1.1 (if r3<y4 then r3 else y4)).bind fun r4=>((F150 fuel y2 y3 r4.1 r1.2.1).bind fun r5=>(cond ((w64 (y4 - (if r3<y4 then r3 else y4))) == (0:Int)) ((F148 fuel r2 x1f r4.2 r1.2.1).bind fun r6=>(some (r5.1,r5.2,r6))) (k1 r2 r5.1 r5.2 (w64 (y4 - (if r3<y4 then r3 else y4)))))))))) (some (y2,y3,y1))))
def F140_j1 (fuel:Nat) (x0:Pl) (x1f:Int) (x1m:Int):Option (List Part×List (Int×Bool)×Pl) :=
  (F140_l1 fuel x1f fuel x0 ([]) ([]) x1m)
def F140 (fuel:Nat) (x0:Pl) (x1k:Int) (x1o:Int) (x1f:Int) (x1t:Int) (x1m:Int):Option (List Part×List (Int×Bool)×Pl) :=
  (F140_j1 fuel x0 x1f x1m)
set_option maxRecDepth 100000 in
theorem f140_ok (fuel:Nat) (x0:Pl) (x1k:Int) (x1o:Int) (x1f:Int) (x1t:Int) (x1m:Int) (r:List Part×List (Int×Bool)×Pl) (hr:F140 fuel x0 x1k x1o x1f x1t x1m=some r) (h:Zone) (L:List Atom) (w:World) (b_x0:Nat) (hS:St h (plA 126 40 117 b_x0 x0::L) w)  :
    Calls Try.prog 140 #[pB b_x0 0, .agg #[vI x1k,vI x1o,vI x1f,vI x1t,vI x1m]] w fun e w'=>∃v,e= .returned v∧(∃h',∃o0:Option Addr,∃c0:Nat,∃o1:Option Nat,Zone.le h h'∧v= .agg #[.slice o0 r.1.length c0, .map o1]∧St h' (plA 126 40 117 b_x0 r.2.2::L) w'∧SliceR PartT h' o0 c0 r.1∧MapR Value.bool h' o1 r.2.1):=by
 refine calls_intro (N:=51) Try.func140 (by kernel_rfl) fun a hf=>?_
 refine c_sr ?_
 refine c_box [pB b_x0 0] 115 hS hf fun b1 ww1 a1 hS1 hf1=>⟨fun _=>trivial,?_⟩
 refine c_box [vI x1k,vI x1o,vI x1f,vI x1t,vI x1m] 28 hS1 hf1 fun b2 ww2 a2 hS2 hf2=>⟨fun _=>trivial,?_⟩
 refine c_box [.slice none 0 0, .map none] 119 hS2 hf2 fun b3 ww3 a3 hS3 hf3=>⟨fun _=>trivial,?_⟩
 refine c_dt ?_
 refine c_mid (fun a w=>∃z1:Zone,∃b4:Nat,∃b5:Nat,Zone.le h z1∧Fr a 51 [(2,pB b1 0),(3,pB b2 0),(4,pB b3 0),(5,pB b4 0),(6,pB b5 0)]∧St z1 (box b4 [.slice none 0 0, .map none] 119::box b5 [vI x1m] 3::box b3 [.slice none 0 0, .map none] 119::box b2 [vI x1k,vI x1o,vI x1f,vI x1t,vI x1m] 28::box b1 [pB b_x0 0] 115::plA 126 40 117 b_x0 x0::L) w∧(F140_j1 fuel x0 x1f x1m)=some r) ?_ ?_
 ·skip
  have hS4:=hS3.drew
  have s1:Sub h (box b3 [.slice none 0 0, .map none] 119::box b2 [vI x1k,vI x1o,vI x1f,vI x1t,vI x1m] 28::box b1 [pB b_x0 0] 115::plA 126 40 117 b_x0 x0::L) _:=Sub.of zr hS4
  refine w_regB (by kernel_rfl) [6] (Sub h (box b3 [.slice none 0 0, .map none] 119::box b2 [vI x1k,vI x1o,vI x1f,vI x1t,vI x1m] 28::box b1 [pB b_x0 0] 115::plA 126 40 117 b_x0 x0::L)) (by kernel_rfl) ?_
  refine k_seg' 4 [(0,true),(1,true),(2,true)] (by kernel_rfl) (by kernel_rfl) (At.start s1) (by kernel_rfl) ?_
  refine c_S 3 [vI x1m] [2,3,4,11,13] s1 hf3 (fun _ s=>(.cell (s.box (i:=1) rfl (j:=4) rfl) .nil)) .nil fun a4 hf4=>?_
  refine c_done ?_
  intro hA1
  refine k_any' 3 [3,4] (by kernel_rfl) hA1 (by kernel_rfl) (by kernel_rfl) ?_
  refine (all_cons ?_ (all_cons ?_ all_nil))
  ·skip
   refine c_box [.slice none 0 0, .map none] 119 hS4 hf4 fun b6 ww4 a5 hS5 hf5=>⟨fun _=>Sub.of zr (St.drop 1 hS5),?_⟩
   refine c_done ?_
   intro hA2
   have s2:Sub h (box b3 [.slice none 0 0, .map none] 119::box b2 [vI x1k,vI x1o,vI x1f,vI x1t,vI x1m] 28::box b1 [pB b_x0 0] 115::plA 126 40 117 b_x0 x0::L) _:=Sub.of zr (St.drop 1 hS5)
   refine k_seg' 0 [(4,false),(5,false),(6,false)] (by kernel_rfl) (by kernel_rfl) hA2 (by kernel_rfl) ?_
   refine c_box [vI 0] 3 hS5 hf5 fun b7 ww5 a6 hS6 hf6=>⟨fun _=>Sub.of zr (St.drop 2 hS6),?_⟩
   have s3:Sub h (box b3 [.slice none 0 0, .map none] 119::box b2 [vI x1k,vI x1o,vI x1f,vI x1t,vI x1m] 28::box b1 [pB b_x0 0] 115::plA 126 40 117 b_x0 x0::L) _:=Sub.of zr (St.drop 2 hS6)
   refine c_st 1 [.slice none 0 0, .map none] hS6 hf6 rfl fun ww6 a7 hS7 hf7=>⟨fun _=>Sub.of zr (St.drop 2 hS7),?_⟩
   have s4:Sub h (box b3 [.slice none 0 0, .map none] 119::box b2 [vI x1k,vI x1o,vI x1f,vI x1t,vI x1m] 28::box b1 [pB b_x0 0] 115::plA 126 40 117 b_x0 x0::L) _:=Sub.of zr (St.drop 2 hS7)
   refine c_st 0 [vI x1m] hS7 hf7 rfl fun ww7 a8 hS8 hf8=>⟨fun e=>absurd e (by decide),?_⟩
   refine c_done ?_
   intro hA3
   refine k_done' (by kernel_rfl) (by kernel_rfl) ?_
   refine n_then ?_
   exact ⟨h,b6,b7,zr,hf8.to,(St.pick 2 [1,0] hS8 (by kernel_rfl)),hr⟩
  ·skip
   refine c_box [vI 0] 3 hS4 hf4 fun b8 ww8 a9 hS9 hf10=>⟨fun _=>Sub.of zr (St.drop 1 hS9),?_⟩
   refine c_done ?_
   intro hA4
   have s5:Sub h (box b3 [.slice none 0 0, .map none] 119::box b2 [vI x1k,vI x1o,vI x1f,vI x1t,vI x1m] 28::box b1 [pB b_x0 0] 115::plA 126 40 117 b_x0 x0::L) _:=Sub.of zr (St.drop 1 hS9)
   refine k_seg' 0 [(3,false),(5,false),(6,false)] (by kernel_rfl) (by kernel_rfl) hA4 (by kernel_rfl) ?_
   refine c_box [.slice none 0 0, .map none] 119 hS9 hf10 fun b9 ww9 a10 hS10 hf11=>⟨fun _=>Sub.of zr (St.drop 2 hS10),?_⟩
   have s6:Sub h (box b3 [.slice none 0 0, .map none] 119::box b2 [vI x1k,vI x1o,vI x1f,vI x1t,vI x1m] 28::box b1 [pB b_x0 0] 115::plA 126 40 117 b_x0 x0::L) _:=Sub.of zr (St.drop 2 hS10)
   refine c_st 0 [.slice none 0 0, .map none] hS10 hf11 rfl fun ww10 a11 hS11 hf12=>⟨fun _=>Sub.of zr (St.drop 2 hS11),?_⟩
   have s7:Sub h (box b3 [.slice none 0 0, .map none] 119::box b2 [vI x1k,vI x1o,vI x1f,vI x1t,vI x1m] 28::box b1 [pB b_x0 0] 115::plA 126 40 117 b_x0 x0::L) _:=Sub.of zr (St.drop 2 hS11)
   refine c_st 1 [vI x1m] hS11 hf12 rfl fun ww11 a12 hS12 hf13=>⟨fun e=>absurd e (by decide),?_⟩
   refine c_done ?_
   intro hA5
   refine k_done' (by kernel_rfl) (by kernel_rfl) ?_
   refine n_then ?_
   exact ⟨h,b9,b8,zr,hf13.to,(St.pick 2 [0,1] hS12 (by kernel_rfl)),hr⟩
 ·rintro a13 ww12 ⟨z1,b4,b5,k2,hf15,hS13,hr1⟩
  refine c_seq ?_
  refine c_sr ?_
  refine c_n 3 [pB b_x0 0,vI x1f] [2,3,4,5,6,14,16] hf15 (.cell (hS13.box (i:=4) rfl (j:=0) rfl) (.cell (hS13.box (i:=3) rfl (j:=2) rfl) .nil)) fun a14 hf16=>?_
  refine p_inl (i:=3) (d:=some 17) (f:=149) (args:= #[pB b_x0 0,vI x1f]) (N':=6) hf16 (by kernel_rfl) Try.func149 (by kernel_rfl) fun a15 hf17=>?_
  refine c_sr ?_
  refine c_box [pB b_x0 0] 115 hS13 hf17 fun b10 ww13 a16 hS14 hf18=>⟨fun _=>trivial,?_⟩
  refine c_box [vI x1f] 3 hS14 hf18 fun b11 ww14 a17 hS15 hf19=>⟨fun _=>trivial,?_⟩
  refine c_t [] [2,3] hf19 .nil fun a18 hf20=>?_
  refine c_sq [] [4] hf20 .nil fun a19 hf21=>?_
  refine c_ret ?_
  refine c_rt [] (.func (.func 154) #[] #[pB b10 0,pB b11 0]) hf21 .nil ?_
  refine ⟨_,rfl,fun a20 hf22=>?_⟩
  refine ⟨fun _=>trivial,?_⟩
  refine c_dt ?_
  refine c_block 0 ?_
  have hf23:=Fr.to (r:=[(2,pB b1 0),(3,pB b2 0),(4,pB b3 0),(5,pB b4 0),(6,pB b5 0),(17, .func (.func 154) #[] #[pB b10 0,pB b11 0])]) hf22
  refine w_range (g:=17) (gf:=154) (lb:= #[pB b10 0,pB b11 0]) (by kernel_rfl) hf23 hS15 (by kernel_rfl) (fun l=>by kernel_rfl) fun ps1 RA1 RB1 hps1 hA6 hB1 l1 D1 ww15 hS16=>?_
  refine calls_intro (N:=24) Try.func154 (by kernel_rfl) fun a21 hf24=>?_
  refine c_block 0 ?_
  refine c_loop (fun n a w=>∃z2:Zone,∃y1:Pl,∃y2:List Part,∃y3:List (Int×Bool),∃y4:Int,∃e1:Option Addr,∃q1:Nat,∃e2:Option Nat,Zone.le z1 z2∧Fr a 24 [(0, .func (.yield l1) #[] #[]),(1,pB b10 0),(2,pB b11 0)]∧St z2 (loopA l1 51 [(2,pB b1 0),(3,pB b2 0),(4,pB b3 0),(5,pB b4 0),(6,pB b5 0),(17, .func (.func 154) #[] #[pB b10 0,pB b11 0])] ps1 RA1 RB1 D1 .ready none::defA D1::box b11 [vI x1f] 3::box b10 [pB b_x0 0] 115::box b4 [.slice e1 y2.length q1, .map e2] 119::box b5 [vI y4] 3::box b3 [.slice none 0 0, .map none] 119::box b2 [vI x1k,vI x1o,vI x1f,vI x1t,vI x1m] 28::box b1 [pB b_x0 0] 115::plA 126 40 117 b_x0 y1::L) w∧SliceR PartT z2 e1 q1 y2∧MapR Value.bool z2 e2 y3∧(F140_l1 fuel x1f n y1 y2 y3 y4)=some r) fuel ⟨z1,x0,[],[],x1m,none,0,none,zr,hf24.to,hS16,SliceR.nil' _ _,(MapR.nil' _ _),hr1⟩ ?_
  rintro n2 a22 ww16 ⟨z2,y1,y2,y3,y4,e1,q1,e2,k3,hf26,hS17,hx1,hx2,hr2⟩
  cases n2 with
  | zero=>cases hr2
  | succ n1 =>
  refine c_seq ?_
  obtain ⟨e3,q2,v1,v2,v3,v4,v5,v6,v7,v8,v9,v10,v11,v12,v13,v14,v15,v16,v17,v18,hx3,hS18⟩:=hS17.plOpen (i:=9) rfl
  obtain ⟨p1,hp1205,hr3⟩:=bind_some hr2
  obtain ⟨e4,q3,hv1,hb1,hS19⟩:=hS18.ownOpen (j:=0) rfl hp1205
  have hS20:=hS19.drew
  refine c_seq ?_
  refine c_qD [(0,true),(1,true),(2,true),(3,true),(4,true),(5,true),(6,true),(7,true),(8,true)] [] [pB b_x0 0,vI x1f, .slice e4 p1.length q3] [0,1,2,13] hf26 (.cell (hS20.box (i:=6) rfl (j:=0) rfl) (.cell (hS20.box (i:=5) rfl (j:=0) rfl) (.prop hb1 (.cell ((arrAddr b_x0 1 (Int.toNat x1f)) ▸ (hS20.box (i:=12) rfl (getElem?_app_right [.slice e3 y1.lots.length q2] _ _ hv1 [v10,v11,v12,v13,v14,v15,v16,v17,v18]))) .nil)))) .nil fun a23 hf27=>?_
  have hS21:=hS20.ownClose' (j:=1) (k:=0) rfl rfl (by decide) hv1 (getI_spec hp1205).2
  have hS22:=hS21.plClose (i:=12) (j:=1) (k:=2) rfl hx3 rfl rfl (by decide) (by decide) (by decide)
  refine n_then ?_
  refine c_if (decide ((p1.length:Int) > (0:Int))) hf27 (fun hb2=>?_) (fun hb2=>?_)
  ·have hr4:=cond_t hb2 hr3
   refine c_skip ?_
   refine n_then ?_
   refine c_block 1 ?_
   refine c_sr ?_
   refine c_n 2 [pB b_x0 0,vI x1f] [0,1,2,14,15] hf27 (.cell (hS22.box (i:=6) rfl (j:=0) rfl) (.cell (hS22.box (i:=5) rfl (j:=0) rfl) .nil)) fun a24 hf28=>?_
   have hS23:=St.swapTo (i:=13) (j:=0) (St.addEmp hS22) rfl rfl (by decide)
   have hS24:St z2 (plA 126 40 117 b_x0 y1::emp::emp::emp::loopA l1 51 [(2,pB b1 0),(3,pB b2 0),(4,pB b3 0),(5,pB b4 0),(6,pB b5 0),(17, .func (.func 154) #[] #[pB b10 0,pB b11 0])] ps1 RA1 RB1 D1 .ready none::defA D1::box b11 [vI x1f] 3::box b10 [pB b_x0 0] 115::box b4 [.slice e1 y2.length q1, .map e2] 119::box b5 [vI y4] 3::box b3 [.slice none 0 0, .map none] 119::box b2 [vI x1k,vI x1o,vI x1f,vI x1t,vI x1m] 28::box b1 [pB b_x0 0] 115::emp::L) _:=hS23
   obtain ⟨r1,hd1,hr5⟩:=bind_some hr4
   refine c_call hf28 (f151_ok fuel y1 x1f r1 hd1 z2 _ _ b_x0 hS24 ) ?_
   rintro v19 ww17 a25 ⟨z3,e5,q4,e6,k4,rfl,hS25,hx4,hx5⟩ hf29
   have hS26:=St.swapTo (i:=0) (j:=13) hS25 rfl rfl (by decide)
   have hS27:St z3 (emp::emp::emp::emp::loopA l1 51 [(2,pB b1 0),(3,pB b2 0),(4,pB b3 0),(5,pB b4 0),(6,pB b5 0),(17, .func (.func 154) #[] #[pB b10 0,pB b11 0])] ps1 RA1 RB1 D1 .ready none::defA D1::box b11 [vI x1f] 3::box b10 [pB b_x0 0] 115::box b4 [.slice e1 y2.length q1, .map e2] 119::box b5 [vI y4] 3::box b3 [.slice none 0 0, .map none] 119::box b2 [vI x1k,vI x1o,vI x1f,vI x1t,vI x1m] 28::box b1 [pB b_x0 0] 115::plA 126 40 117 b_x0 r1.2.2::L) _:=hS26
   refine ⟨fun _=>trivial,?_⟩
   refine c_box [.slice none 0 0, .map none] 119 hS27 hf29 fun b12 ww18 a26 hS28 hf30=>⟨fun _=>trivial,?_⟩
   refine c_st 0 [.slice e5 r1.1.length q4, .map e6] hS28 hf30 rfl fun ww19 a27 hS29 hf31=>⟨fun _=>trivial,?_⟩
   refine c_dt ?_
   refine c_sr ?_
   refine c_n 2 [pB b_x0 0,vI x1f] [0,1,2,4,17,18] hf31 (.cell (hS29.box (i:=8) rfl (j:=0) rfl) (.cell (hS29.box (i:=7) rfl (j:=0) rfl) .nil)) fun a28 hf32=>?_
   have hS30:=St.swapTo (i:=15) (j:=0) (St.addEmp hS29) rfl rfl (by decide)
   have hS31:St z3 (plA 126 40 117 b_x0 r1.2.2::box b12 [.slice e5 r1.1.length q4, .map e6] 119::emp::emp::emp::emp::loopA l1 51 [(2,pB b1 0),(3,pB b2 0),(4,pB b3 0),(5,pB b4 0),(6,pB b5 0),(17, .func (.func 154) #[] #[pB b10 0,pB b11 0])] ps1 RA1 RB1 D1 .ready none::defA D1::box b11 [vI x1f] 3::box b10 [pB b_x0 0] 115::box b4 [.slice e1 y2.length q1, .map e2] 119::box b5 [vI y4] 3::box b3 [.slice none 0 0, .map none] 119::box b2 [vI x1k,vI x1o,vI x1f,vI x1t,vI x1m] 28::box b1 [pB b_x0 0] 115::emp::L) _:=hS30
   obtain ⟨r2,hd2,hr6⟩:=bind_some hr5
   refine c_call hf32 (f152_ok fuel r1.2.2 x1f r2 hd2 z3 _ _ b_x0 hS31 ) ?_
   rintro v20 ww20 a29 ⟨z4,k5,rfl,hS32⟩ hf33
   have hS33:=St.swapTo (i:=0) (j:=15) hS32 rfl rfl (by decide)
   have hS34:St z4 (emp::box b12 [.slice e5 r1.1.length q4, .map e6] 119::emp::emp::emp::emp::loopA l1 51 [(2,pB b1 0),(3,pB b2 0),(4,pB b3 0),(5,pB b4 0),(6,pB b5 0),(17, .func (.func 154) #[] #[pB b10 0,pB b11 0])] ps1 RA1 RB1 D1 .ready none::defA D1::box b11 [vI x1f] 3::box b10 [pB b_x0 0] 115::box b4 [.slice e1 y2.length q1, .map e2] 119::box b5 [vI y4] 3::box b3 [.slice none 0 0, .map none] 119::box b2 [vI x1k,vI x1o,vI x1f,vI x1t,vI x1m] 28::box b1 [pB b_x0 0] 115::plA 126 40 117 b_x0 r2::L) _:=hS33
   refine ⟨fun _=>trivial,?_⟩
   refine c_dt ?_
   refine c_seq ?_
   refine w_regY 2 (by kernel_rfl) ?_
   refine c_z [.slice e5 r1.1.length q4, .map e6] [0,1,2,20,21] hf33 (.cell (hS34.box (i:=1) rfl (j:=0) rfl) (.cell (hS34.box (i:=1) rfl (j:=1) rfl) .nil)) fun a30 hf34=>?_
   refine p_yield (d:=some 22) (l:=l1) (args:= #[.agg #[.slice e5 r1.1.length q4, .map e6]]) hf34 (by kernel_rfl) hS34 (j:=6) rfl (by rw [hps1]; kernel_rfl) fun a31 hf35=>?_
   rw [hps1] at hf35
   refine cw_eq hA6 ?_
   refine c_reg ?_
   refine c_box [.slice none 0 0, .map none] 119 hS34 hf35 fun b13 ww21 a32 hS35 hf36=>⟨fun _=>trivial,?_⟩
   refine c_st 0 [.slice e5 r1.1.length q4, .map e6] hS35 hf36 rfl fun ww22 a33 hS36 hf37=>⟨fun _=>trivial,?_⟩
   refine c_dt ?_
   refine p_begin hS36 (j:=7) rfl fun ww23 hS37=>?_
   refine cw_eq hB1 ?_
   refine c_block 1 ?_
   refine c_seq ?_
   have hS38:=hS37.drew
   have s8:Sub z4 (box b13 [.slice e5 r1.1.length q4, .map e6] 119::emp::box b12 [.slice e5 r1.1.length q4, .map e6] 119::emp::emp::emp::emp::loopA l1 51 [(2,pB b1 0),(3,pB b2 0),(4,pB b3 0),(5,pB b4 0),(6,pB b5 0),(17, .func (.func 154) #[] #[pB b10 0,pB b11 0])] ps1 RA1 RB1 D1 .busy none::defA D1::box b11 [vI x1f] 3::box b10 [pB b_x0 0] 115::box b4 [.slice e1 y2.length q1, .map e2] 119::box b5 [vI y4] 3::box b3 [.slice none 0 0, .map none] 119::box b2 [vI x1k,vI x1o,vI x1f,vI x1t,vI x1m] 28::box b1 [pB b_x0 0] 115::plA 126 40 117 b_x0 r2::L) _:=Sub.of zr hS38
   refine c_regD [(0,true),(1,true),(2,true),(3,false),(4,true),(5,true)] [] (Sub z4 (box b13 [.slice e5 r1.1.length q4, .map e6] 119::emp::box b12 [.slice e5 r1.1.length q4, .map e6] 119::emp::emp::emp::emp::loopA l1 51 [(2,pB b1 0),(3,pB b2 0),(4,pB b3 0),(5,pB b4 0),(6,pB b5 0),(17, .func (.func 154) #[] #[pB b10 0,pB b11 0])] ps1 RA1 RB1 D1 .busy none::defA D1::box b11 [vI x1f] 3::box b10 [pB b_x0 0] 115::box b4 [.slice e1 y2.length q1, .map e2] 119::box b5 [vI y4] 3::box b3 [.slice none 0 0, .map none] 119::box b2 [vI x1k,vI x1o,vI x1f,vI x1t,vI x1m] 28::box b1 [pB b_x0 0] 115::plA 126 40 117 b_x0 r2::L)) s8 ?_
   refine c_S 3 [vI y4, .slice e5 r1.1.length q4] [2,3,5,6,7,19,21] s8 hf37 (fun _ s=>(.cell (s.box (i:=12) rfl (j:=0) rfl) (.cell (s.box (i:=0) rfl (j:=0) rfl) .nil))) .nil fun a34 hf38=>?_
   obtain ⟨r3,hd3,hr7⟩:=bind_some hr6
   refine c_call hf38 (f90_ok fuel r1.1 r3 hd3 z4 _ _ hS38 e5 q4 (SliceR.mono k5 hx4)) ?_
   rintro v21 ww24 a35 ⟨z5,k6,rfl,hS39⟩ hf39
   refine ⟨fun _=>Sub.of k6 hS39,?_⟩
   have s9:Sub z4 (box b13 [.slice e5 r1.1.length q4, .map e6] 119::emp::box b12 [.slice e5 r1.1.length q4, .map e6] 119::emp::emp::emp::emp::loopA l1 51 [(2,pB b1 0),(3,pB b2 0),(4,pB b3 0),(5,pB b4 0),(6,pB b5 0),(17, .func (.func 154) #[] #[pB b10 0,pB b11 0])] ps1 RA1 RB1 D1 .busy none::defA D1::box b11 [vI x1f] 3::box b10 [pB b_x0 0] 115::box b4 [.slice e1 y2.length q1, .map e2] 119::box b5 [vI y4] 3::box b3 [.slice none 0 0, .map none] 119::box b2 [vI x1k,vI x1o,vI x1f,vI x1t,vI x1m] 28::box b1 [pB b_x0 0] 115::plA 126 40 117 b_x0 r2::L) _:=Sub.of k6 hS39
   refine c_S 2 [] [2,3,5,6,7,8] s9 hf39 (fun _ s=> .nil) .nil fun a36 hf40=>?_
   refine c_dt ?_
   refine c_sr ?_
   refine c_n 3 [.slice e5 r1.1.length q4] [2,3,5,6,7,8,26,27] hf40 (.cell (hS39.box (i:=0) rfl (j:=0) rfl) .nil) fun a37 hf41=>?_
   obtain ⟨r4,hd4,hr8⟩:=bind_some hr7
   refine c_call hf41 (f91_ok fuel r1.1 (if r3<y4 then r3 else y4) r4 hd4 z5 _ _ hS39 e5 q4 (SliceR.mono (zt k5 k6) hx4)) ?_
   rintro v22 ww25 a38 ⟨z6,e7,q5,e8,q6,k7,rfl,hS40,hx6,hx7⟩ hf42
   refine ⟨fun _=>trivial,?_⟩
   refine c_n 3 [] [2,3,5,6,7,8,29,30] hf42 .nil fun a39 hf43=>?_
   refine c_box [.slice none 0 0] 40 hS40 hf43 fun b14 ww26 a40 hS41 hf44=>⟨fun _=>trivial,?_⟩
   refine c_box [.slice none 0 0] 40 hS41 hf44 fun b15 ww27 a41 hS42 hf45=>⟨fun _=>trivial,?_⟩
   refine c_st 1 [.slice e7 r4.1.length q5] hS42 hf45 rfl fun ww28 a42 hS43 hf46=>⟨fun _=>trivial,?_⟩
   refine c_st 0 [.slice e8 r4.2.length q6] hS43 hf46 rfl fun ww29 a43 hS44 hf47=>⟨fun _=>trivial,?_⟩
   refine c_dt ?_
   refine c_sr ?_
   refine c_n 5 [.slice e1 y2.length q1, .map e2, .slice e7 r4.1.length q5, .map e6] [2,3,5,6,7,8,10,31,35] hf47 (.cell (hS44.box (i:=13) rfl (j:=0) rfl) (.cell (hS44.box (i:=13) rfl (j:=1) rfl) (.cell (hS44.box (i:=1) rfl (j:=0) rfl) (.cell (hS44.box (i:=2) rfl (j:=1) rfl) .nil)))) fun a44 hf48=>?_
   obtain ⟨r5,hd5,hr9⟩:=bind_some hr8
   refine c_call hf48 (f150_ok fuel y2 y3 r4.1 r1.2.1 r5 hd5 z6 _ _ hS44 e1 q1 (SliceR.mono (zt (zt (zt k4 k5) k6) k7) hx1) e2 (MapR.mono (zt (zt (zt k4 k5) k6) k7) hx2) e7 q5 hx6 e6 (MapR.mono (zt (zt k5 k6) k7) hx5)) ?_
   rintro v23 ww30 a45 ⟨z7,e9,q7,e10,k8,rfl,hS45,hx8,hx9⟩ hf49
   refine ⟨fun _=>trivial,?_⟩
   refine c_st 13 [.slice e9 r5.1.length q7, .map e10] hS45 hf49 rfl fun ww31 a46 hS46 hf50=>⟨fun _=>trivial,?_⟩
   refine c_dt ?_
   refine c_sr ?_
   refine c_n 3 [vI y4] [2,3,6,7,10,39] hf50 (.cell (hS46.box (i:=14) rfl (j:=0) rfl) .nil) fun a47 hf51=>?_
   refine c_st 14 [vI (w64 (y4 - (if r3<y4 then r3 else y4)))] hS46 hf51 rfl fun ww32 a48 hS47 hf52=>⟨fun _=>trivial,?_⟩
   refine c_dt ?_
   refine c_sq [vI (w64 (y4 - (if r3<y4 then r3 else y4)))] [2,3,7,10,41] hf52 (.cell (hS47.box (i:=14) rfl (j:=0) rfl) .nil) fun a49 hf53=>?_
   refine c_if ((w64 (y4 - (if r3<y4 then r3 else y4))) == (0:Int)) hf53 (fun hb3=>?_) (fun hb3=>?_)
   ·have hr10:=cond_t hb3 hr9
    refine c_sr ?_
    refine c_n 7 [pB b_x0 0,vI x1f, .slice e8 r4.2.length q6, .map e6] [42,44,48] hf53 (.cell (hS47.box (i:=17) rfl (j:=0) rfl) (.cell (hS47.box (i:=16) rfl (j:=2) rfl) (.cell (hS47.box (i:=0) rfl (j:=0) rfl) (.cell (hS47.box (i:=2) rfl (j:=1) rfl) .nil)))) fun a50 hf54=>?_
    have hS48:=St.swapTo (i:=19) (j:=0) (St.addEmp hS47) rfl rfl (by decide)
    have hS49:St z7 (plA 126 40 117 b_x0 r2::box b15 [.slice e8 r4.2.length q6] 40::box b14 [.slice e7 r4.1.length q5] 40::box b13 [.slice e5 r1.1.length q4, .map e6] 119::emp::box b12 [.slice e5 r1.1.length q4, .map e6] 119::emp::emp::emp::emp::loopA l1 51 [(2,pB b1 0),(3,pB b2 0),(4,pB b3 0),(5,pB b4 0),(6,pB b5 0),(17, .func (.func 154) #[] #[pB b10 0,pB b11 0])] ps1 RA1 RB1 D1 .busy none::defA D1::box b11 [vI x1f] 3::box b10 [pB b_x0 0] 115::box b4 [.slice e9 r5.1.length q7, .map e10] 119::box b5 [vI (w64 (y4 - (if r3<y4 then r3 else y4)))] 3::box b3 [.slice none 0 0, .map none] 119::box b2 [vI x1k,vI x1o,vI x1f,vI x1t,vI x1m] 28::box b1 [pB b_x0 0] 115::emp::L) _:=hS48
    obtain ⟨r6,hd6,hr11⟩:=bind_some hr10
    refine c_call hf54 (f148_ok fuel r2 x1f r4.2 r1.2.1 r6 hd6 z7 _ _ b_x0 hS49 e8 q6 (SliceR.mono k8 hx7) e6 (MapR.mono (zt (zt (zt k5 k6) k7) k8) hx5)) ?_
    rintro v24 ww33 a51 ⟨z8,k9,rfl,hS50⟩ hf55
    have hS51:=St.swapTo (i:=0) (j:=19) hS50 rfl rfl (by decide)
    have hS52:St z8 (emp::box b15 [.slice e8 r4.2.length q6] 40::box b14 [.slice e7 r4.1.length q5] 40::box b13 [.slice e5 r1.1.length q4, .map e6] 119::emp::box b12 [.slice e5 r1.1.length q4, .map e6] 119::emp::emp::emp::emp::loopA l1 51 [(2,pB b1 0),(3,pB b2 0),(4,pB b3 0),(5,pB b4 0),(6,pB b5 0),(17, .func (.func 154) #[] #[pB b10 0,pB b11 0])] ps1 RA1 RB1 D1 .busy none::defA D1::box b11 [vI x1f] 3::box b10 [pB b_x0 0] 115::box b4 [.slice e9 r5.1.length q7, .map e10] 119::box b5 [vI (w64 (y4 - (if r3<y4 then r3 else y4)))] 3::box b3 [.slice none 0 0, .map none] 119::box b2 [vI x1k,vI x1o,vI x1f,vI x1t,vI x1m] 28::box b1 [pB b_x0 0] 115::plA 126 40 117 b_x0 r6::L) _:=hS51
    refine ⟨fun _=>trivial,?_⟩
    refine c_dt ?_
    refine c_exit 0 ?_
    refine x_pass rfl ?_
    refine p_roundX hS52 (j:=10) rfl fun ww34 a52 hS53 hf56=>?_
    have hS54:=St.drop 4 hS53
    refine c_t [] [0,1,2,23] hf56 .nil fun a53 hf57=>?_
    refine w_if_true hf57 (by kernel_rfl) ?_
    refine c_ret ?_
    refine r_block ?_
    refine r_then ?_
    refine r_block ?_
    refine c_rt [] (.tuple #[]) hf57 .nil ?_
    refine ⟨_,rfl,fun a54 hf58=>?_⟩
    refine p_jumpX hS54 (j:=6) rfl (fun h=>by cases h) fun ww35 hS55=>?_
    refine x_block ?_
    refine n_then ?_
    refine c_sr ?_
    refine c_n 1 [.slice e9 r5.1.length q7, .map e10] [4,50] hf58 (.cell (hS55.box (i:=10) rfl (j:=0) rfl) (.cell (hS55.box (i:=10) rfl (j:=1) rfl) .nil)) fun a55 hf59=>?_
    refine c_st 12 [.slice e9 r5.1.length q7, .map e10] hS55 hf59 rfl fun ww36 a56 hS56 hf60=>⟨fun _=>trivial,?_⟩
    refine c_dt ?_
    refine c_ret ?_
    refine p_retM hf60 ?_
    refine p_mark hS56 (j:=7) rfl fun ww37 hS57=>?_
    refine p_end (os:=[.slice e9 r5.1.length q7, .map e10]) (v:= .agg #[.slice e9 r5.1.length q7, .map e10]) (obs:=[.cell ⟨b3,0,none⟩ (.slice e9 r5.1.length q7), .cell ⟨b3,1,none⟩ (.map e10)]) hf60 (by kernel_rfl) (.cell (hS57.box (i:=12) rfl (j:=0) rfl) (.cell (hS57.box (i:=12) rfl (j:=1) rfl) .nil)) ?_
    obtain rfl:=some_eq hr11
    exact ⟨_,rfl,z8,e9,q7,e10,(zt (zt (zt (zt (zt (zt (zt k2 k3) k4) k5) k6) k7) k8) k9),rfl,(St.pick 16 [15] hS57 (by kernel_rfl)),(SliceR.mono k9 hx8),(MapR.mono k9 hx9)⟩
   ·have hr12:=cond_f hb3 hr9
    refine c_skip ?_
    refine n_block ?_
    refine p_roundN hS47 (j:=9) rfl fun ww38 a57 hS58 hf61=>?_
    have hS59:=St.drop 3 hS58
    refine c_t [] [0,1,2,23] hf61 .nil fun a58 hf62=>?_
    refine w_if_false hf62 (by kernel_rfl) ?_
    refine c_skip ?_
    refine n_block ?_
    refine n_then ?_
    exact ⟨n1,Nat.lt_succ_self n1,z7,r2,r5.1,r5.2,(w64 (y4 - (if r3<y4 then r3 else y4))),e9,q7,e10,(zt (zt (zt (zt (zt k3 k4) k5) k6) k7) k8),hf62.to,(St.drop 6 hS59),hx8,hx9,hr12⟩
  ·have hr13:=cond_f hb2 hr3
   refine c_exit 0 ?_
   refine x_then ?_
   refine x_then ?_
   refine x_block ?_
   refine c_fall [] (.tuple #[]) hf27 .nil ?_
   refine ⟨_,rfl,fun a59 hf64=>?_⟩
   refine p_jump0 hS22 (j:=3) rfl (fun h=>by cases h) fun ww39 hS60=>?_
   refine n_block ?_
   refine n_then ?_
   refine c_sr ?_
   refine c_n 1 [.slice e1 y2.length q1, .map e2] [4,50] hf64 (.cell (hS60.box (i:=7) rfl (j:=0) rfl) (.cell (hS60.box (i:=7) rfl (j:=1) rfl) .nil)) fun a60 hf65=>?_
   refine c_st 9 [.slice e1 y2.length q1, .map e2] hS60 hf65 rfl fun ww40 a61 hS61 hf66=>⟨fun _=>trivial,?_⟩
   refine c_dt ?_
   refine c_ret ?_
   refine p_retM hf66 ?_
   refine p_mark hS61 (j:=4) rfl fun ww41 hS62=>?_
   refine p_end (os:=[.slice e1 y2.length q1, .map e2]) (v:= .agg #[.slice e1 y2.length q1, .map e2]) (obs:=[.cell ⟨b3,0,none⟩ (.slice e1 y2.length q1), .cell ⟨b3,1,none⟩ (.map e2)]) hf66 (by kernel_rfl) (.cell (hS62.box (i:=9) rfl (j:=0) rfl) (.cell (hS62.box (i:=9) rfl (j:=1) rfl) .nil)) ?_
   obtain rfl:=some_eq hr13
   exact ⟨_,rfl,z2,e1,q1,e2,(zt k2 k3),rfl,(St.pick 13 [12] hS62 (by kernel_rfl)),hx1,hx2⟩
def F141 (fuel:Nat) (x0:Pl) (x1k:Int) (x1o:Int) (x1f:Int) (x1t:Int) (x1m:Int):Option (List Part×List (Int×Bool)×Pl) :=
  ((F140 fuel x0 x1k x1o x1f x1t x1m).bind fun r1=>((F146 fuel r1.2.2 x1t r1.1 r1.2.1).bind fun r2=>(some (r1.1,r1.2.1,r2))))
set_option maxRecDepth 100000 in
theorem f141_ok (fuel:Nat) (x0:Pl) (x1k:Int) (x1o:Int) (x1f:Int) (x1t:Int) (x1m:Int) (r:List Part×List (Int×Bool)×Pl) (hr:F141 fuel x0 x1k x1o x1f x1t x1m=some r) (h:Zone) (L:List Atom) (w:World) (b_x0:Nat) (hS:St h (plA 126 40 117 b_x0 x0::L) w)  :
    Calls Try.prog 141 #[pB b_x0 0, .agg #[vI x1k,vI x1o,vI x1f,vI x1t,vI x1m]] w fun e w'=>∃v,e= .returned v∧(∃h',∃o0:Option Addr,∃c0:Nat,∃o1:Option Nat,Zone.le h h'∧v= .agg #[.slice o0 r.1.length c0, .map o1]∧St h' (plA 126 40 117 b_x0 r.2.2::L) w'∧SliceR PartT h' o0 c0 r.1∧MapR Value.bool h' o1 r.2.1):=by
 refine calls_intro (N:=15) Try.func141 (by kernel_rfl) fun a hf=>?_
 refine c_sr ?_
 refine c_box [vI x1k,vI x1o,vI x1f,vI x1t,vI x1m] 28 hS hf fun b1 ww1 a1 hS1 hf1=>⟨fun _=>trivial,?_⟩
 refine c_box [.slice none 0 0, .map none] 119 hS1 hf1 fun b2 ww2 a2 hS2 hf2=>⟨fun _=>trivial,?_⟩
 refine c_dt ?_
 refine c_sr ?_
 refine c_n 2 [vI x1k,vI x1o,vI x1f,vI x1t,vI x1m] [0,3,4,6,7] hf2 (.cell (hS2.box (i:=1) rfl (j:=0) rfl) (.cell (hS2.box (i:=1) rfl (j:=1) rfl) (.cell (hS2.box (i:=1) rfl (j:=2) rfl) (.cell (hS2.box (i:=1) rfl (j:=3) rfl) (.cell (hS2.box (i:=1) rfl (j:=4) rfl) .nil))))) fun a3 hf3=>?_
 have hS3:=St.swapTo (i:=3) (j:=0) (St.addEmp hS2) rfl rfl (by decide)
 have hS4:=hS3
 obtain ⟨r1,hd1,hr1⟩:=bind_some hr
 refine c_call hf3 (f140_ok fuel x0 x1k x1o x1f x1t x1m r1 hd1 h _ _ b_x0 hS4 ) ?_
 rintro v1 ww3 a4 ⟨z1,e1,q1,e2,k1,rfl,hS5,hx1,hx2⟩ hf4
 have hS6:=St.swapTo (i:=0) (j:=3) hS5 rfl rfl (by decide)
 have hS7:=hS6
 refine ⟨fun _=>trivial,?_⟩
 refine c_box [.slice none 0 0, .map none] 119 hS7 hf4 fun b3 ww4 a5 hS8 hf5=>⟨fun _=>trivial,?_⟩
 refine c_st 0 [.slice e1 r1.1.length q1, .map e2] hS8 hf5 rfl fun ww5 a6 hS9 hf6=>⟨fun _=>trivial,?_⟩
 refine c_dt ?_
 refine c_sr ?_
 refine c_n 4 [vI x1t, .slice e1 r1.1.length q1, .map e2] [4,5,9,11,12] hf6 (.cell (hS9.box (i:=3) rfl (j:=3) rfl) (.cell (hS9.box (i:=0) rfl (j:=0) rfl) (.cell (hS9.box (i:=0) rfl (j:=1) rfl) .nil))) fun a7 hf7=>?_
 have hS10:=St.swapTo (i:=5) (j:=0) (St.addEmp hS9) rfl rfl (by decide)
 have hS11:=hS10
 obtain ⟨r2,hd2,hr2⟩:=bind_some hr1
 refine c_call hf7 (f146_ok fuel r1.2.2 x1t r1.1 r1.2.1 r2 hd2 z1 _ _ b_x0 hS11 e1 q1 hx1 e2 hx2) ?_
 rintro v2 ww6 a8 ⟨z2,k2,rfl,hS12⟩ hf8
 have hS13:=St.swapTo (i:=0) (j:=5) hS12 rfl rfl (by decide)
 have hS14:=hS13
 refine ⟨fun _=>trivial,?_⟩
 refine c_dt ?_
 refine c_sr ?_
 refine c_n 1 [.slice e1 r1.1.length q1, .map e2] [4,14] hf8 (.cell (hS14.box (i:=1) rfl (j:=0) rfl) (.cell (hS14.box (i:=1) rfl (j:=1) rfl) .nil)) fun a9 hf9=>?_
 refine c_st 3 [.slice e1 r1.1.length q1, .map e2] hS14 hf9 rfl fun ww7 a10 hS15 hf10=>⟨fun _=>trivial,?_⟩
 refine c_dt ?_
 refine c_ret ?_
 refine c_rt [.slice e1 r1.1.length q1, .map e2] (.agg #[.slice e1 r1.1.length q1, .map e2]) hf10 (.cell (hS15.box (i:=3) rfl (j:=0) rfl) (.cell (hS15.box (i:=3) rfl (j:=1) rfl) .nil)) ?_
 obtain rfl:=some_eq hr2
 exact ⟨_,rfl,z2,e1,q1,e2,(zt k1 k2),rfl,(St.pick 6 [5] hS15 (by kernel_rfl)),(SliceR.mono k2 hx1),(MapR.mono k2 hx2)⟩
def F142_j1 (k1:Pl→(List Part)→(List (Int×Bool))→Int→Option (List Part×List (Int×Bool)×Pl)) (y1:Int) (y2:Pl) (y3:List Part) (y4:List (Int×Bool)):Option (List Part×List (Int×Bool)×Pl) :=
  (k1 y2 y3 y4 (w64 (y1 + (1:Int))))
def F142_l2 (fuel:Nat) (x1f:Int) (p1:List (List Part)) (p2:List (List (Int×Bool))) (r1:List Int):Nat→Pl→(List Part)→(List (Int×Bool))→Int→Option (List Part×List (Int×Bool)×Pl)
  | 0,_,_,_,_=>none
  | n1 + 1,y5,y6,y7,y1 =>
    let k1:Pl→(List Part)→(List (Int×Bool))→Int→Option (List Part×List (Int×Bool)×Pl):=F142_l2 fuel x1f p1 p2 r1 n1
    (cond (decide (y1<(r1.length:Int))) ((getI r1 y1).bind fun p3=>((getI p1 y1).bind fun p4=>((F91 fuel p4 p3).bind fun r2=>((getI p2 y1).bind fun p5=>((F148 fuel y5 x1f r2.2 p5).bind fun r3=>(cond (decide (p3 > (0:Int))) ((getI p2 y1).bind fun p6=>((F150 fuel y6 y7 r2.1 p6).bind fun r4=>(F142_j1 k1 y1 r3 r4.1 r4.2))) (F142_j1 k1 y1 r3 y6 y7))))))) (some (y6,y7,y5)))
def F142_l1 (fuel:Nat) (x0:Pl) (x1f:Int) (x1m:Int) (p1:List (List Part)):Nat→(List Int)→Int→Option (List Part×List (Int×Bool)×Pl)
  | 0,_,_=>none
  | n2 + 1,y8,y9 =>
    let k2:(List Int)→Int→Option (List Part×List (Int×Bool)×Pl):=F142_l1 fuel x0 x1f x1m p1 n2
    (cond (decide (y9<(p1.length:Int))) ((getI p1 y9).bind fun p7=>((F90 fuel p7).bind fun r5=>((appC y8 ([r5])).bind fun d1=>(k2 d1 (w64 (y9 + (1:Int))))))) ((getI x0.may x1f).bind fun p2=>((F127 fuel x1m y8).bind fun r1=>(F142_l2 fuel x1f p1 p2 r1 fuel (⟨x0.lots,(x0.holds.set (Int.toNat x1f) ([])),(x0.may.set (Int.toNat x1f) ([]))⟩:Pl) ([]) ([]) 0))))
def F142 (fuel:Nat) (x0:Pl) (x1k:Int) (x1o:Int) (x1f:Int) (x1t:Int) (x1m:Int):Option (List Part×List (Int×Bool)×Pl) :=
  ((getI x0.holds x1f).bind fun p1=>(F142_l1 fuel x0 x1f x1m p1 fuel ([]) 0))
end Go.Proofs.Ytlmgjjmighajdaa
