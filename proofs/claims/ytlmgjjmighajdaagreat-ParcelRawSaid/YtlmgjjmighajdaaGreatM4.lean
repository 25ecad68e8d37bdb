/-
  A part of the walk and of the plain law of one given statement. No condition.
-/
import Derived.Test.YtlmgjjmighajdaaGreatM2
set_option linter.unusedVariables false
set_option linter.unusedSimpArgs false
namespace Go.Proofs.YtlmgjjmighajdaaGreat
open Go.Sl Go.Sx
def F93_j3 (fuel:Nat) (x0l:List Lot) (x1o:Int) (y1:Bool) (y2:Bool):Option (Bool) :=
  (cond y2 (some (false)) (cond (!y1) (some (true)) ((F42 fuel x0l x1o).bind fun r1=>(some (r1.2)))))
def F93_j2 (fuel:Nat) (x0l:List Lot) (x1o:Int) (x1f:Int) (x1t:Int) (x1m:Int) (y1:Bool) (y3:Bool) (y4:Bool) (y5:Bool) (y6:Bool):Option (Bool) :=
  (cond y6 (some (false)) (cond y3 ((F72 fuel x1f).bind fun r2=>(cond (!r2) (F93_j3 fuel x0l x1o y1 true) (cond y4 ((F72 fuel x1t).bind fun r3=>(cond (!r3) (F93_j3 fuel x0l x1o y1 true) (cond y3 (cond y4 (cond (x1f == x1t) (F93_j3 fuel x0l x1o y1 true) (cond y5 ((F48 fuel x1m 1 100000000).bind fun r4=>(F93_j3 fuel x0l x1o y1 (!r4))) (F93_j3 fuel x0l x1o y1 false))) (cond y5 ((F48 fuel x1m 1 100000000).bind fun r5=>(F93_j3 fuel x0l x1o y1 (!r5))) (F93_j3 fuel x0l x1o y1 false))) (cond y5 ((F48 fuel x1m 1 100000000).bind fun r6=>(F93_j3 fuel x0l x1o y1 (!r6))) (F93_j3 fuel x0l x1o y1 false))))) (cond y3 (cond y4 (cond (x1f == x1t) (F93_j3 fuel x0l x1o y1 true) (cond y5 ((F48 fuel x1m 1 100000000).bind fun r7=>(F93_j3 fuel x0l x1o y1 (!r7))) (F93_j3 fuel x0l x1o y1 false))) (cond y5 ((F48 fuel x1m 1 100000000).bind fun r8=>(F93_j3 fuel x0l x1o y1 (!r8))) (F93_j3 fuel x0l x1o y1 false))) (cond y5 ((F48 fuel x1m 1 100000000).bind fun r9=>(F93_j3 fuel x0l x1o y1 (!r9))) (F93_j3 fuel x0l x1o y1 false)))))) (cond y4 ((F72 fuel x1t).bind fun r10=>(cond (!r10) (F93_j3 fuel x0l x1o y1 true) (cond y3 (cond y4 (cond (x1f == x1t) (F93_j3 fuel x0l x1o y1 true) (cond y5 ((F48 fuel x1m 1 100000000).bind fun r11=>(F93_j3 fuel x0l x1o y1 (!r11))) (F93_j3 fuel x0l x1o y1 false))) (cond y5 ((F48 fuel x1m 1 100000000).bind fun r12=>(F93_j3 fuel x0l x1o y1 (!r12))) (F93_j3 fuel x0l x1o y1 false))) (cond y5 ((F48 fuel x1m 1 100000000).bind fun r13=>(F93_j3 fuel x0l x1o y1 (!r13))) (F93_j3 fuel x0l x1o y1 false))))) (cond y3 (cond y4 (cond (x1f == x1t) (F93_j3 fuel x0l x1o y1 true) (cond y5 ((F48 fuel x1m 1 100000000).bind fun r14=>(F93_j3 fuel x0l x1o y1 (!r14))) (F93_j3 fuel x0l x1o y1 false))) (cond y5 ((F48 fuel x1m 1 100000000).bind fun r15=>(F93_j3 fuel x0l x1o y1 (!r15))) (F93_j3 fuel x0l x1o y1 false))) (cond y5 ((F48 fuel x1m 1 100000000).bind fun r16=>(F93_j3 fuel x0l x1o y1 (!r16))) (F93_j3 fuel x0l x1o y1 false))))))
def F93_j1 (fuel:Nat) (x0l:List Lot) (x1o:Int) (x1f:Int) (x1t:Int) (x1m:Int) (y7:Bool) (y1:Bool) (y3:Bool) (y4:Bool) (y5:Bool) (y8:Option Nat):Option (Bool) :=
  (cond (!y7) (F93_j2 fuel x0l x1o x1f x1t x1m y1 y3 y4 y5 true) (cond (!y1) (cond (x1o != (0:Int)) (F93_j2 fuel x0l x1o x1f x1t x1m y1 y3 y4 y5 true) (cond (!y3) (cond (x1f != (0:Int)) (F93_j2 fuel x0l x1o x1f x1t x1m y1 y3 y4 y5 true) (cond (!y4) (cond (x1t != (0:Int)) (F93_j2 fuel x0l x1o x1f x1t x1m y1 y3 y4 y5 true) (cond (!y5) (F93_j2 fuel x0l x1o x1f x1t x1m y1 y3 y4 y5 (x1m != (0:Int))) (F93_j2 fuel x0l x1o x1f x1t x1m y1 y3 y4 y5 false))) (cond (!y5) (F93_j2 fuel x0l x1o x1f x1t x1m y1 y3 y4 y5 (x1m != (0:Int))) (F93_j2 fuel x0l x1o x1f x1t x1m y1 y3 y4 y5 false)))) (cond (!y4) (cond (x1t != (0:Int)) (F93_j2 fuel x0l x1o x1f x1t x1m y1 y3 y4 y5 true) (cond (!y5) (F93_j2 fuel x0l x1o x1f x1t x1m y1 y3 y4 y5 (x1m != (0:Int))) (F93_j2 fuel x0l x1o x1f x1t x1m y1 y3 y4 y5 false))) (cond (!y5) (F93_j2 fuel x0l x1o x1f x1t x1m y1 y3 y4 y5 (x1m != (0:Int))) (F93_j2 fuel x0l x1o x1f x1t x1m y1 y3 y4 y5 false))))) (cond (!y3) (cond (x1f != (0:Int)) (F93_j2 fuel x0l x1o x1f x1t x1m y1 y3 y4 y5 true) (cond (!y4) (cond (x1t != (0:Int)) (F93_j2 fuel x0l x1o x1f x1t x1m y1 y3 y4 y5 true) (cond (!y5) (F93_j2 fuel x0l x1o x1f x1t x1m y1 y3 y4 y5 (x1m != (0:Int))) (F93_j2 fuel x0l x1o x1f x1t x1m y1 y3 y4 y5 false))) (cond (!y5) (F93_j2 fuel x0l x1o x1f x1t x1m y1 y3 y4 y5 (x1m != (0:Int))) (F93_j2 fuel x0l x1o x1f x1t x1m y1 y3 y4 y5 false)))) (cond (!y4) (cond (x1t != (0:Int)) (F93_j2 fuel x0l x1o x1f x1t x1m y1 y3 y4 y5 true) (cond (!y5) (F93_j2 fuel x0l x1o x1f x1t x1m y1 y3 y4 y5 (x1m != (0:Int))) (F93_j2 fuel x0l x1o x1f x1t x1m y1 y3 y4 y5 false))) (cond (!y5) (F93_j2 fuel x0l x1o x1f x1t x1m y1 y3 y4 y5 (x1m != (0:Int))) (F93_j2 fuel x0l x1o x1f x1t x1m y1 y3 y4 y5 false))))))
def F93 (fuel:Nat) (x0l:List Lot) (x0h:List (List (List Part))) (x1k:Int) (x1o:Int) (x1f:Int) (x1t:Int) (x1m:Int):Option (Bool) :=
  ((F79 fuel ).bind fun r17=>(F93_j1 fuel x0l x1o x1f x1t x1m (hasK r17 x1k) ((lkK r17 x1k zrow).lot) ((lkK r17 x1k zrow).frm) ((lkK r17 x1k zrow).to) ((lkK r17 x1k zrow).mass) ((lkK r17 x1k zrow).fn)))
set_option maxRecDepth 100000 in
theorem f93_ok (fuel:Nat) (x0l:List Lot) (x0h:List (List (List Part))) (x1k:Int) (x1o:Int) (x1f:Int) (x1t:Int) (x1m:Int) (r:Bool) (hr:F93 fuel x0l x0h x1k x1o x1f x1t x1m=some r) (h:Zone) (L:List Atom) (w:World) (hS:St h L w) (o_x0l:Option Addr) (c_x0l:Nat) (hx_x0l:SliceR LotT h o_x0l c_x0l x0l) (V00 V01 V02 V03 V04 V05 V06 V07 V08:Value) (hx_x0h:(Ty.arr 9 (Ty.slice (Ty.slice PartT))).rep h [V00,V01,V02,V03,V04,V05,V06,V07,V08] x0h) :
    Calls Tryz.prog 93 #[.agg #[.slice o_x0l x0l.length c_x0l,V00,V01,V02,V03,V04,V05,V06,V07,V08], .agg #[vI x1k,vI x1o,vI x1f,vI x1t,vI x1m]] w fun e w'=>∃v,e= .returned v∧(∃h',Zone.le h h'∧v= .bool r∧St h' L w'):=by
 refine calls_intro (N:=121) Tryz.func93 (by kernel_rfl) fun a hf=>c_sr (c_box [sL o_x0l x0l c_x0l,V00,V01,V02,V03,V04,V05,V06,V07,V08] 29 hS hf fun M p u f g=>tv (c_box [vI x1k,vI x1o,vI x1f,vI x1t,vI x1m] 74 f g fun O x y m l=>tv (c_t [] [2,3] l .nil fun A C=>(c_mid (fun a w=>∃F:Zone,∃I:Bool,∃y1:Bool,∃W:Bool,∃V:Bool,∃P:Bool,∃S:Option Nat,∃R:Nat,Zone.le h F∧Fr a 121 [(2,pB M 0),(3,pB O 0),(5,pB R 0),(6, .bool I)]∧St F (box R [.bool y1, .bool W, .bool V, .bool P,fnV S] 141::box O [vI x1k,vI x1o,vI x1f,vI x1t,vI x1m] 74::box M [sL o_x0l x0l c_x0l,V00,V01,V02,V03,V04,V05,V06,V07,V08] 29::L) w∧(F93_j1 fuel x0l x1o x1f x1t x1m I y1 W V P S)=some r) ?_ ?_))))
 ·skip
  have G:=m.drew
  have f:=Sub.of zr G
  refine w_regB (by kernel_rfl) [3,8] (Sub h (box O [vI x1k,vI x1o,vI x1f,vI x1t,vI x1m] 74::box M [sL o_x0l x0l c_x0l,V00,V01,V02,V03,V04,V05,V06,V07,V08] 29::L)) (by kernel_rfl) (k_seg' 8 [(1,true),(2,true)] (by kernel_rfl) (by kernel_rfl) (At.start f) (by kernel_rfl) (c_S 2 [vI x1k] [2,3,10] f C (fun _ s=>(.cell (s.bx 0 0 rfl rfl) .nil)) .nil fun f J=>c_done ?_))
  intro f
  refine k_any' 7 [0,7] (by kernel_rfl) f (by kernel_rfl) (by kernel_rfl) ((all_cons ?_ (all_cons ?_ all_nil)))
  ·skip
   obtain ⟨f,g,n⟩:=bind_some hr
   refine c_call J (f79_ok fuel  f g h _ _ G ) ?_
   rintro g l m ⟨H,C,x,rfl,y,E⟩ A
   refine ⟨fun _=>Sub.of x y,?_⟩
   refine c_done ?_
   intro g
   have l:=Sub.of x y
   refine k_seg' 7 [] (by kernel_rfl) (by kernel_rfl) g (by kernel_rfl) (c_done ?_)
   intro g
   refine k_any' 6 [3,7] (by kernel_rfl) g (by kernel_rfl) (by kernel_rfl) ((all_cons ?_ (all_cons ?_ all_nil)))
   ·skip
    refine p_lookup (i:=3) (d:=(some 11)) (t:=142) (o:=C) (k:=x1k) (c:=true) (z:=zrow) (D:=f) A (by kernel_rfl) mp142 (MapR.look E y) fun g l=>⟨fun e=>absurd e (by decide),?_⟩
    refine c_done ?_
    intro g
    refine k_seg' 0 [(4,true),(5,true),(6,true),(7,false),(8,false),(9,true)] (by kernel_rfl) (by kernel_rfl) g (by kernel_rfl) (p_qP 3 [] [(2,pB M 0),(3,pB O 0),(12, .agg #[.bool ((lkK f x1k zrow).lot), .bool ((lkK f x1k zrow).frm), .bool ((lkK f x1k zrow).to), .bool ((lkK f x1k zrow).mass),fnV ((lkK f x1k zrow).fn)]),(13, .bool (hasK f x1k))] [] l (by kernel_rfl) (fun _=> .nil) fun l g=>c_box [.bool false, .bool false, .bool false, .bool false,fnV none] 141 y g fun m p u g l=>⟨fun _=>Sub.of x (St.drop 1 g),?_⟩)
    have p:=Sub.of x (St.drop 1 g)
    refine p_store_eq (i:=8) (j:=0) (b:=m) (off:=0) (vs:=[.bool ((lkK f x1k zrow).lot), .bool ((lkK f x1k zrow).frm), .bool ((lkK f x1k zrow).to), .bool ((lkK f x1k zrow).mass),fnV ((lkK f x1k zrow).fn)]) (cs':=[.bool ((lkK f x1k zrow).lot), .bool ((lkK f x1k zrow).frm), .bool ((lkK f x1k zrow).to), .bool ((lkK f x1k zrow).mass),fnV ((lkK f x1k zrow).fn)]) g l rfl (by kernel_rfl) (by generalize (lkK f x1k zrow).fn=q; cases q <;> kernel_rfl) rfl fun l p u g=>⟨fun e=>absurd e (by decide),?_⟩
    refine p_qP 1 [] [(2,pB M 0),(3,pB O 0),(5,pB m 0),(6, .bool (hasK f x1k))] [] g (by kernel_rfl) (fun _=> .nil) fun g l=>c_done ?_
    intro g
    refine k_done' (by kernel_rfl) (by kernel_rfl) (n_then (⟨H,(hasK f x1k),(lkK f x1k zrow).lot,(lkK f x1k zrow).frm,(lkK f x1k zrow).to,(lkK f x1k zrow).mass,(lkK f x1k zrow).fn,m,x,l.to,(St.pick 1 [0] u (by kernel_rfl)),n⟩))
   skip
   refine c_box [.bool false, .bool false, .bool false, .bool false,fnV none] 141 y A fun p l m g u=>⟨fun _=>Sub.of x (St.drop 1 g),?_⟩
   refine c_done ?_
   intro l
   have m:=Sub.of x (St.drop 1 g)
   refine k_seg' 0 [(3,false),(4,true),(5,true),(6,true),(8,false),(9,true)] (by kernel_rfl) (by kernel_rfl) l (by kernel_rfl) (p_lookup (i:=3) (d:=(some 11)) (t:=142) (o:=C) (k:=x1k) (c:=true) (z:=zrow) (D:=f) u (by kernel_rfl) mp142 (MapR.look E g) fun m l=>⟨fun e=>absurd e (by decide),?_⟩)
   refine p_qP 3 [] [(2,pB M 0),(3,pB O 0),(5,pB p 0),(12, .agg #[.bool ((lkK f x1k zrow).lot), .bool ((lkK f x1k zrow).frm), .bool ((lkK f x1k zrow).to), .bool ((lkK f x1k zrow).mass),fnV ((lkK f x1k zrow).fn)]),(13, .bool (hasK f x1k))] [] l (by kernel_rfl) (fun _=> .nil) fun m l=>p_store_eq (i:=8) (j:=0) (b:=p) (off:=0) (vs:=[.bool ((lkK f x1k zrow).lot), .bool ((lkK f x1k zrow).frm), .bool ((lkK f x1k zrow).to), .bool ((lkK f x1k zrow).mass),fnV ((lkK f x1k zrow).fn)]) (cs':=[.bool ((lkK f x1k zrow).lot), .bool ((lkK f x1k zrow).frm), .bool ((lkK f x1k zrow).to), .bool ((lkK f x1k zrow).mass),fnV ((lkK f x1k zrow).fn)]) g l rfl (by kernel_rfl) (by generalize (lkK f x1k zrow).fn=q; cases q <;> kernel_rfl) rfl fun l m u g=>⟨fun e=>absurd e (by decide),?_⟩
   refine p_qP 1 [] [(2,pB M 0),(3,pB O 0),(5,pB p 0),(6, .bool (hasK f x1k))] [] g (by kernel_rfl) (fun _=> .nil) fun g l=>c_done ?_
   intro g
   refine k_done' (by kernel_rfl) (by kernel_rfl) (n_then (⟨H,(hasK f x1k),(lkK f x1k zrow).lot,(lkK f x1k zrow).frm,(lkK f x1k zrow).to,(lkK f x1k zrow).mass,(lkK f x1k zrow).fn,p,x,l.to,(St.pick 1 [0] u (by kernel_rfl)),n⟩))
  skip
  refine c_box [.bool false, .bool false, .bool false, .bool false,fnV none] 141 G J fun C f g l m=>⟨fun _=>Sub.of zr (St.drop 1 l),?_⟩
  refine c_done ?_
  intro f
  have g:=Sub.of zr (St.drop 1 l)
  refine k_seg' 0 [(0,false),(3,false),(4,true),(5,true),(6,true),(8,false),(9,true)] (by kernel_rfl) (by kernel_rfl) f (by kernel_rfl) ?_
  obtain ⟨f,g,n⟩:=bind_some hr
  refine c_call m (f79_ok fuel  f g h _ _ l ) ?_
  rintro l m p ⟨E,u,A,rfl,g,x⟩ y
  refine ⟨fun _=>Sub.of A (St.drop 1 g),?_⟩
  have l:=Sub.of A (St.drop 1 g)
  refine p_lookup (i:=3) (d:=(some 11)) (t:=142) (o:=u) (k:=x1k) (c:=true) (z:=zrow) (D:=f) y (by kernel_rfl) mp142 (MapR.look x g) fun m l=>⟨fun e=>absurd e (by decide),?_⟩
  refine p_qP 3 [] [(2,pB M 0),(3,pB O 0),(5,pB C 0),(12, .agg #[.bool ((lkK f x1k zrow).lot), .bool ((lkK f x1k zrow).frm), .bool ((lkK f x1k zrow).to), .bool ((lkK f x1k zrow).mass),fnV ((lkK f x1k zrow).fn)]),(13, .bool (hasK f x1k))] [] l (by kernel_rfl) (fun _=> .nil) fun m l=>p_store_eq (i:=8) (j:=0) (b:=C) (off:=0) (vs:=[.bool ((lkK f x1k zrow).lot), .bool ((lkK f x1k zrow).frm), .bool ((lkK f x1k zrow).to), .bool ((lkK f x1k zrow).mass),fnV ((lkK f x1k zrow).fn)]) (cs':=[.bool ((lkK f x1k zrow).lot), .bool ((lkK f x1k zrow).frm), .bool ((lkK f x1k zrow).to), .bool ((lkK f x1k zrow).mass),fnV ((lkK f x1k zrow).fn)]) g l rfl (by kernel_rfl) (by generalize (lkK f x1k zrow).fn=q; cases q <;> kernel_rfl) rfl fun l m p g=>⟨fun e=>absurd e (by decide),?_⟩
  refine p_qP 1 [] [(2,pB M 0),(3,pB O 0),(5,pB C 0),(6, .bool (hasK f x1k))] [] g (by kernel_rfl) (fun _=> .nil) fun g l=>c_done ?_
  intro g
  refine k_done' (by kernel_rfl) (by kernel_rfl) (n_then (⟨E,(hasK f x1k),(lkK f x1k zrow).lot,(lkK f x1k zrow).frm,(lkK f x1k zrow).to,(lkK f x1k zrow).mass,(lkK f x1k zrow).fn,C,A,l.to,(St.pick 1 [0] p (by kernel_rfl)),n⟩))
 rintro f g ⟨F,I,y1,W,V,P,S,R,k3,l,p,B⟩
 refine c_seq (c_mid (fun a w=>∃z4:Zone,∃G:Bool,Zone.le F z4∧Fr a 121 [(2,pB M 0),(3,pB O 0),(5,pB R 0),(59, .bool G)]∧St z4 (box R [.bool y1, .bool W, .bool V, .bool P,fnV S] 141::box O [vI x1k,vI x1o,vI x1f,vI x1t,vI x1m] 74::box M [sL o_x0l x0l c_x0l,V00,V01,V02,V03,V04,V05,V06,V07,V08] 29::L) w∧(F93_j2 fuel x0l x1o x1f x1t x1m y1 W V P G)=some r) ?_ ?_)
 ·skip
  refine c_reg (c_n 3 [] [2,3,5,16] l .nil fun f m=>?_)
  rcases bft (!I) with f | f
  ·have n:=cond_t f B
   have g:=m.lit 16 f
   refine c_t [] [2,3,5,59] g .nil fun l g=>⟨F,true,zr,g.to,p,n⟩
  have Z:=cond_f f B
  have f:=m.lit 16 f
  refine c_n 5 [.bool y1] [2,3,5,16,21] f (.cell (p.bx 0 0 rfl rfl) .nil) fun f E=>?_
  rcases bft (!y1) with A | A
  ·have B:=cond_t A Z
   have f:=E.lit 21 A
   refine c_n 6 [vI x1o] [2,3,5,27] f (.cell (p.bx 1 1 rfl rfl) .nil) fun f m=>?_
   rcases bft (x1o != (0:Int)) with f | f
   ·have n:=cond_t f B
    have g:=m.lit 27 f
    refine c_t [] [2,3,5,59] g .nil fun l g=>⟨F,true,zr,g.to,p,n⟩
   have T:=cond_f f B
   have f:=m.lit 27 f
   refine c_n 5 [.bool W] [2,3,5,27,32] f (.cell (p.bx 0 1 rfl rfl) .nil) fun f C=>?_
   rcases bft (!W) with x | x
   ·have B:=cond_t x T
    have f:=C.lit 32 x
    refine c_n 6 [vI x1f] [2,3,5,38] f (.cell (p.bx 1 2 rfl rfl) .nil) fun f m=>?_
    rcases bft (x1f != (0:Int)) with f | f
    ·have n:=cond_t f B
     have g:=m.lit 38 f
     refine c_t [] [2,3,5,59] g .nil fun l g=>⟨F,true,zr,g.to,p,n⟩
    have K:=cond_f f B
    have f:=m.lit 38 f
    refine c_n 5 [.bool V] [2,3,5,38,43] f (.cell (p.bx 0 2 rfl rfl) .nil) fun f y=>?_
    rcases bft (!V) with u | u
    ·have B:=cond_t u K
     have f:=y.lit 43 u
     refine c_n 6 [vI x1t] [2,3,5,49] f (.cell (p.bx 1 3 rfl rfl) .nil) fun f m=>?_
     rcases bft (x1t != (0:Int)) with f | f
     ·have n:=cond_t f B
      have g:=m.lit 49 f
      refine c_t [] [2,3,5,59] g .nil fun l g=>⟨F,true,zr,g.to,p,n⟩
     have B:=cond_f f B
     have f:=m.lit 49 f
     refine c_n 5 [.bool P] [2,3,5,49,54] f (.cell (p.bx 0 3 rfl rfl) .nil) fun f m=>?_
     rcases bft (!P) with f | f
     ·have n:=cond_t f B
      have g:=m.lit 54 f
      refine c_t [vI x1m] [2,3,5,59] g (.cell (p.bx 1 4 rfl rfl) .nil) fun l g=>⟨F,(x1m != (0:Int)),zr,g.to,p,n⟩
     have n:=cond_f f B
     have f:=m.lit 54 f
     refine c_t [] [2,3,5,59] f .nil fun g f=>⟨F,false,zr,f.to,p,n⟩
    have B:=cond_f u K
    have f:=y.lit 43 u
    refine c_n 11 [.bool P] [2,3,5,49,54] f (.cell (p.bx 0 3 rfl rfl) .nil) fun f m=>?_
    rcases bft (!P) with f | f
    ·have n:=cond_t f B
     have g:=m.lit 54 f
     refine c_t [vI x1m] [2,3,5,59] g (.cell (p.bx 1 4 rfl rfl) .nil) fun l g=>⟨F,(x1m != (0:Int)),zr,g.to,p,n⟩
    have n:=cond_f f B
    have f:=m.lit 54 f
    refine c_t [] [2,3,5,59] f .nil fun g f=>⟨F,false,zr,f.to,p,n⟩
   have K:=cond_f x T
   have f:=C.lit 32 x
   refine c_n 11 [.bool V] [2,3,5,38,43] f (.cell (p.bx 0 2 rfl rfl) .nil) fun f x=>?_
   rcases bft (!V) with u | u
   ·have B:=cond_t u K
    have f:=x.lit 43 u
    refine c_n 6 [vI x1t] [2,3,5,49] f (.cell (p.bx 1 3 rfl rfl) .nil) fun f m=>?_
    rcases bft (x1t != (0:Int)) with f | f
    ·have n:=cond_t f B
     have g:=m.lit 49 f
     refine c_t [] [2,3,5,59] g .nil fun l g=>⟨F,true,zr,g.to,p,n⟩
    have B:=cond_f f B
    have f:=m.lit 49 f
    refine c_n 5 [.bool P] [2,3,5,49,54] f (.cell (p.bx 0 3 rfl rfl) .nil) fun f m=>?_
    rcases bft (!P) with f | f
    ·have n:=cond_t f B
     have g:=m.lit 54 f
     refine c_t [vI x1m] [2,3,5,59] g (.cell (p.bx 1 4 rfl rfl) .nil) fun l g=>⟨F,(x1m != (0:Int)),zr,g.to,p,n⟩
    have n:=cond_f f B
    have f:=m.lit 54 f
    refine c_t [] [2,3,5,59] f .nil fun g f=>⟨F,false,zr,f.to,p,n⟩
   have B:=cond_f u K
   have f:=x.lit 43 u
   refine c_n 11 [.bool P] [2,3,5,49,54] f (.cell (p.bx 0 3 rfl rfl) .nil) fun f m=>?_
   rcases bft (!P) with f | f
   ·have n:=cond_t f B
    have g:=m.lit 54 f
    refine c_t [vI x1m] [2,3,5,59] g (.cell (p.bx 1 4 rfl rfl) .nil) fun l g=>⟨F,(x1m != (0:Int)),zr,g.to,p,n⟩
   have n:=cond_f f B
   have f:=m.lit 54 f
   refine c_t [] [2,3,5,59] f .nil fun g f=>⟨F,false,zr,f.to,p,n⟩
  have T:=cond_f A Z
  have f:=E.lit 21 A
  refine c_n 11 [.bool W] [2,3,5,27,32] f (.cell (p.bx 0 1 rfl rfl) .nil) fun f A=>?_
  rcases bft (!W) with x | x
  ·have B:=cond_t x T
   have f:=A.lit 32 x
   refine c_n 6 [vI x1f] [2,3,5,38] f (.cell (p.bx 1 2 rfl rfl) .nil) fun f m=>?_
   rcases bft (x1f != (0:Int)) with f | f
   ·have n:=cond_t f B
    have g:=m.lit 38 f
    refine c_t [] [2,3,5,59] g .nil fun l g=>⟨F,true,zr,g.to,p,n⟩
   have K:=cond_f f B
   have f:=m.lit 38 f
   refine c_n 5 [.bool V] [2,3,5,38,43] f (.cell (p.bx 0 2 rfl rfl) .nil) fun f y=>?_
   rcases bft (!V) with u | u
   ·have B:=cond_t u K
    have f:=y.lit 43 u
    refine c_n 6 [vI x1t] [2,3,5,49] f (.cell (p.bx 1 3 rfl rfl) .nil) fun f m=>?_
    rcases bft (x1t != (0:Int)) with f | f
    ·have n:=cond_t f B
     have g:=m.lit 49 f
     refine c_t [] [2,3,5,59] g .nil fun l g=>⟨F,true,zr,g.to,p,n⟩
    have B:=cond_f f B
    have f:=m.lit 49 f
    refine c_n 5 [.bool P] [2,3,5,49,54] f (.cell (p.bx 0 3 rfl rfl) .nil) fun f m=>?_
    rcases bft (!P) with f | f
    ·have n:=cond_t f B
     have g:=m.lit 54 f
     refine c_t [vI x1m] [2,3,5,59] g (.cell (p.bx 1 4 rfl rfl) .nil) fun l g=>⟨F,(x1m != (0:Int)),zr,g.to,p,n⟩
    have n:=cond_f f B
    have f:=m.lit 54 f
    refine c_t [] [2,3,5,59] f .nil fun g f=>⟨F,false,zr,f.to,p,n⟩
   have B:=cond_f u K
   have f:=y.lit 43 u
   refine c_n 11 [.bool P] [2,3,5,49,54] f (.cell (p.bx 0 3 rfl rfl) .nil) fun f m=>?_
   rcases bft (!P) with f | f
   ·have n:=cond_t f B
    have g:=m.lit 54 f
    refine c_t [vI x1m] [2,3,5,59] g (.cell (p.bx 1 4 rfl rfl) .nil) fun l g=>⟨F,(x1m != (0:Int)),zr,g.to,p,n⟩
   have n:=cond_f f B
   have f:=m.lit 54 f
   refine c_t [] [2,3,5,59] f .nil fun g f=>⟨F,false,zr,f.to,p,n⟩
  have K:=cond_f x T
  have f:=A.lit 32 x
  refine c_n 11 [.bool V] [2,3,5,38,43] f (.cell (p.bx 0 2 rfl rfl) .nil) fun f x=>?_
  rcases bft (!V) with u | u
  ·have B:=cond_t u K
   have f:=x.lit 43 u
   refine c_n 6 [vI x1t] [2,3,5,49] f (.cell (p.bx 1 3 rfl rfl) .nil) fun f m=>?_
   rcases bft (x1t != (0:Int)) with f | f
   ·have n:=cond_t f B
    have g:=m.lit 49 f
    refine c_t [] [2,3,5,59] g .nil fun l g=>⟨F,true,zr,g.to,p,n⟩
   have B:=cond_f f B
   have f:=m.lit 49 f
   refine c_n 5 [.bool P] [2,3,5,49,54] f (.cell (p.bx 0 3 rfl rfl) .nil) fun f m=>?_
   rcases bft (!P) with f | f
   ·have n:=cond_t f B
    have g:=m.lit 54 f
    refine c_t [vI x1m] [2,3,5,59] g (.cell (p.bx 1 4 rfl rfl) .nil) fun l g=>⟨F,(x1m != (0:Int)),zr,g.to,p,n⟩
   have n:=cond_f f B
   have f:=m.lit 54 f
   refine c_t [] [2,3,5,59] f .nil fun g f=>⟨F,false,zr,f.to,p,n⟩
  have B:=cond_f u K
  have f:=x.lit 43 u
  refine c_n 11 [.bool P] [2,3,5,49,54] f (.cell (p.bx 0 3 rfl rfl) .nil) fun f m=>?_
  rcases bft (!P) with f | f
  ·have n:=cond_t f B
   have g:=m.lit 54 f
   refine c_t [vI x1m] [2,3,5,59] g (.cell (p.bx 1 4 rfl rfl) .nil) fun l g=>⟨F,(x1m != (0:Int)),zr,g.to,p,n⟩
  have n:=cond_f f B
  have f:=m.lit 54 f
  refine c_t [] [2,3,5,59] f .nil fun g f=>⟨F,false,zr,f.to,p,n⟩
 rintro f g ⟨z4,G,k4,m,Q,B⟩
 refine c_if G m (fun g=>?_) (fun g=>?_)
 ·have n:=cond_t g B
  refine c_sq [] [4] m .nil fun l f=>c_ret (r_then (c_rt [] (.bool false) f .nil ?_))
  obtain rfl:=some_eq n
  exact ⟨_,rfl,z4,(zt k3 k4),rfl,(St.drop 3 Q)⟩
 have a1:=cond_f g B
 refine c_skip (n_then (c_seq (c_mid (fun a w=>∃z5:Zone,∃y2:Bool,Zone.le z4 z5∧Fr a 121 [(2,pB M 0),(3,pB O 0),(5,pB R 0),(107, .bool y2)]∧St z5 (box R [.bool y1, .bool W, .bool V, .bool P,fnV S] 141::box O [vI x1k,vI x1o,vI x1f,vI x1t,vI x1m] 74::box M [sL o_x0l x0l c_x0l,V00,V01,V02,V03,V04,V05,V06,V07,V08] 29::L) w∧(F93_j3 fuel x0l x1o y1 y2)=some r) ?_ ?_)))
 ·skip
  refine c_reg (c_n 4 [.bool W] [2,3,5,63] m (.cell (Q.bx 0 1 rfl rfl) .nil) fun f a0=>?_)
  rcases bft W with X | X
  ·have n:=cond_t X a1
   have f:=a0.lit 63 X
   refine c_n 2 [vI x1f] [2,3,5,63,65] f (.cell (Q.bx 1 2 rfl rfl) .nil) fun f g=>?_
   obtain ⟨l,f,B⟩:=bind_some n
   refine c_call g (f72_ok fuel x1f l f z4 _ _ Q ) ?_
   rintro g m p ⟨S,M,rfl,G⟩ f
   refine tv (c_n 3 [] [2,3,5,69] f .nil fun f m=>?_)
   rcases bft (!l) with f | f
   ·have n:=cond_t f B
    have g:=m.lit 69 f
    refine c_t [] [2,3,5,107] g .nil fun l g=>⟨S,true,M,g.to,G,n⟩
   have Z:=cond_f f B
   have f:=m.lit 69 f
   refine c_n 4 [.bool V] [2,3,5,69,73] f (.cell (G.bx 0 2 rfl rfl) .nil) fun f Y=>?_
   rcases bft V with R | R
   ·have n:=cond_t R Z
    have f:=Y.lit 73 R
    refine c_n 2 [vI x1t] [2,3,5,69,73,75] f (.cell (G.bx 1 3 rfl rfl) .nil) fun f g=>?_
    obtain ⟨l,f,B⟩:=bind_some n
    refine c_call g (f72_ok fuel x1t l f S _ _ G ) ?_
    rintro g m p ⟨I,J,rfl,C⟩ f
    refine tv (c_n 4 [] [2,3,5,80] f .nil fun f m=>?_)
    rcases bft (!l) with f | f
    ·have n:=cond_t f B
     have g:=m.lit 80 f
     refine c_t [] [2,3,5,107] g .nil fun l g=>⟨I,true,(zt M J),g.to,C,n⟩
    have T:=cond_f f B
    have f:=m.lit 80 f
    refine c_n 4 [.bool W] [2,3,5,80,84] f (.cell (C.bx 0 1 rfl rfl) .nil) fun f U=>?_
    rcases bft W with H | H
    ·have K:=cond_t H T
     have f:=U.lit 84 H
     refine c_n 5 [.bool V] [2,3,5,80,89] f (.cell (C.bx 0 2 rfl rfl) .nil) fun f O=>?_
     rcases bft V with E | E
     ·have B:=cond_t E K
      have f:=O.lit 89 E
      refine c_n 8 [vI x1f,vI x1t] [2,3,5,97] f (.cell (C.bx 1 2 rfl rfl) (.cell (C.bx 1 3 rfl rfl) .nil)) fun f m=>?_
      rcases bft (x1f == x1t) with f | f
      ·have n:=cond_t f B
       have g:=m.lit 97 f
       refine c_t [] [2,3,5,107] g .nil fun l g=>⟨I,true,(zt M J),g.to,C,n⟩
      have B:=cond_f f B
      have f:=m.lit 97 f
      refine c_n 4 [.bool P] [2,3,5,97,101] f (.cell (C.bx 0 3 rfl rfl) .nil) fun f F=>?_
      rcases bft P with g | g
      ·have n:=cond_t g B
       have f:=F.lit 101 g
       refine c_n 2 [vI x1m] [2,3,5,97,101,103] f (.cell (C.bx 1 4 rfl rfl) .nil) fun f l=>?_
       obtain ⟨m,f,n⟩:=bind_some n
       refine c_call l (f48_ok fuel x1m 1 100000000 m f I _ _ C ) ?_
       rintro l p u ⟨x,y,rfl,A⟩ f
       refine tv (c_t [] [2,3,5,107] f .nil fun l f=>⟨x,(!m),(zt (zt M J) y),f.to,A,n⟩)
      have n:=cond_f g B
      have f:=F.lit 101 g
      refine c_t [] [2,3,5,107] f .nil fun g f=>⟨I,false,(zt M J),f.to,C,n⟩
     have B:=cond_f E K
     have f:=O.lit 89 E
     refine c_n 12 [.bool P] [2,3,5,97,101] f (.cell (C.bx 0 3 rfl rfl) .nil) fun f E=>?_
     rcases bft P with g | g
     ·have n:=cond_t g B
      have f:=E.lit 101 g
      refine c_n 2 [vI x1m] [2,3,5,97,101,103] f (.cell (C.bx 1 4 rfl rfl) .nil) fun f l=>?_
      obtain ⟨m,f,n⟩:=bind_some n
      refine c_call l (f48_ok fuel x1m 1 100000000 m f I _ _ C ) ?_
      rintro l p u ⟨x,y,rfl,A⟩ f
      refine tv (c_t [] [2,3,5,107] f .nil fun l f=>⟨x,(!m),(zt (zt M J) y),f.to,A,n⟩)
     have n:=cond_f g B
     have f:=E.lit 101 g
     refine c_t [] [2,3,5,107] f .nil fun g f=>⟨I,false,(zt M J),f.to,C,n⟩
    have B:=cond_f H T
    have f:=U.lit 84 H
    refine c_n 17 [.bool P] [2,3,5,97,101] f (.cell (C.bx 0 3 rfl rfl) .nil) fun f E=>?_
    rcases bft P with g | g
    ·have n:=cond_t g B
     have f:=E.lit 101 g
     refine c_n 2 [vI x1m] [2,3,5,97,101,103] f (.cell (C.bx 1 4 rfl rfl) .nil) fun f l=>?_
     obtain ⟨m,f,n⟩:=bind_some n
     refine c_call l (f48_ok fuel x1m 1 100000000 m f I _ _ C ) ?_
     rintro l p u ⟨x,y,rfl,A⟩ f
     refine tv (c_t [] [2,3,5,107] f .nil fun l f=>⟨x,(!m),(zt (zt M J) y),f.to,A,n⟩)
    have n:=cond_f g B
    have f:=E.lit 101 g
    refine c_t [] [2,3,5,107] f .nil fun g f=>⟨I,false,(zt M J),f.to,C,n⟩
   have T:=cond_f R Z
   have f:=Y.lit 73 R
   refine c_n 11 [.bool W] [2,3,5,80,84] f (.cell (G.bx 0 1 rfl rfl) .nil) fun f I=>?_
   rcases bft W with F | F
   ·have K:=cond_t F T
    have f:=I.lit 84 F
    refine c_n 5 [.bool V] [2,3,5,80,89] f (.cell (G.bx 0 2 rfl rfl) .nil) fun f H=>?_
    rcases bft V with C | C
    ·have B:=cond_t C K
     have f:=H.lit 89 C
     refine c_n 8 [vI x1f,vI x1t] [2,3,5,97] f (.cell (G.bx 1 2 rfl rfl) (.cell (G.bx 1 3 rfl rfl) .nil)) fun f m=>?_
     rcases bft (x1f == x1t) with f | f
     ·have n:=cond_t f B
      have g:=m.lit 97 f
      refine c_t [] [2,3,5,107] g .nil fun l g=>⟨S,true,M,g.to,G,n⟩
     have B:=cond_f f B
     have f:=m.lit 97 f
     refine c_n 4 [.bool P] [2,3,5,97,101] f (.cell (G.bx 0 3 rfl rfl) .nil) fun f E=>?_
     rcases bft P with g | g
     ·have n:=cond_t g B
      have f:=E.lit 101 g
      refine c_n 2 [vI x1m] [2,3,5,97,101,103] f (.cell (G.bx 1 4 rfl rfl) .nil) fun f l=>?_
      obtain ⟨m,f,n⟩:=bind_some n
      refine c_call l (f48_ok fuel x1m 1 100000000 m f S _ _ G ) ?_
      rintro l p u ⟨x,y,rfl,A⟩ f
      refine tv (c_t [] [2,3,5,107] f .nil fun l f=>⟨x,(!m),(zt M y),f.to,A,n⟩)
     have n:=cond_f g B
     have f:=E.lit 101 g
     refine c_t [] [2,3,5,107] f .nil fun g f=>⟨S,false,M,f.to,G,n⟩
    have B:=cond_f C K
    have f:=H.lit 89 C
    refine c_n 12 [.bool P] [2,3,5,97,101] f (.cell (G.bx 0 3 rfl rfl) .nil) fun f C=>?_
    rcases bft P with g | g
    ·have n:=cond_t g B
     have f:=C.lit 101 g
     refine c_n 2 [vI x1m] [2,3,5,97,101,103] f (.cell (G.bx 1 4 rfl rfl) .nil) fun f l=>?_
     obtain ⟨m,f,n⟩:=bind_some n
     refine c_call l (f48_ok fuel x1m 1 100000000 m f S _ _ G ) ?_
     rintro l p u ⟨x,y,rfl,A⟩ f
     refine tv (c_t [] [2,3,5,107] f .nil fun l f=>⟨x,(!m),(zt M y),f.to,A,n⟩)
    have n:=cond_f g B
    have f:=C.lit 101 g
    refine c_t [] [2,3,5,107] f .nil fun g f=>⟨S,false,M,f.to,G,n⟩
   have B:=cond_f F T
   have f:=I.lit 84 F
   refine c_n 17 [.bool P] [2,3,5,97,101] f (.cell (G.bx 0 3 rfl rfl) .nil) fun f C=>?_
   rcases bft P with g | g
   ·have n:=cond_t g B
    have f:=C.lit 101 g
    refine c_n 2 [vI x1m] [2,3,5,97,101,103] f (.cell (G.bx 1 4 rfl rfl) .nil) fun f l=>?_
    obtain ⟨m,f,n⟩:=bind_some n
    refine c_call l (f48_ok fuel x1m 1 100000000 m f S _ _ G ) ?_
    rintro l p u ⟨x,y,rfl,A⟩ f
    refine tv (c_t [] [2,3,5,107] f .nil fun l f=>⟨x,(!m),(zt M y),f.to,A,n⟩)
   have n:=cond_f g B
   have f:=C.lit 101 g
   refine c_t [] [2,3,5,107] f .nil fun g f=>⟨S,false,M,f.to,G,n⟩
  have Z:=cond_f X a1
  have f:=a0.lit 63 X
  refine c_n 10 [.bool V] [2,3,5,69,73] f (.cell (Q.bx 0 2 rfl rfl) .nil) fun f R=>?_
  rcases bft V with M | M
  ·have n:=cond_t M Z
   have f:=R.lit 73 M
   refine c_n 2 [vI x1t] [2,3,5,69,73,75] f (.cell (Q.bx 1 3 rfl rfl) .nil) fun f g=>?_
   obtain ⟨l,f,B⟩:=bind_some n
   refine c_call g (f72_ok fuel x1t l f z4 _ _ Q ) ?_
   rintro g m p ⟨H,I,rfl,C⟩ f
   refine tv (c_n 4 [] [2,3,5,80] f .nil fun f m=>?_)
   rcases bft (!l) with f | f
   ·have n:=cond_t f B
    have g:=m.lit 80 f
    refine c_t [] [2,3,5,107] g .nil fun l g=>⟨H,true,I,g.to,C,n⟩
   have T:=cond_f f B
   have f:=m.lit 80 f
   refine c_n 4 [.bool W] [2,3,5,80,84] f (.cell (C.bx 0 1 rfl rfl) .nil) fun f O=>?_
   rcases bft W with G | G
   ·have K:=cond_t G T
    have f:=O.lit 84 G
    refine c_n 5 [.bool V] [2,3,5,80,89] f (.cell (C.bx 0 2 rfl rfl) .nil) fun f J=>?_
    rcases bft V with E | E
    ·have B:=cond_t E K
     have f:=J.lit 89 E
     refine c_n 8 [vI x1f,vI x1t] [2,3,5,97] f (.cell (C.bx 1 2 rfl rfl) (.cell (C.bx 1 3 rfl rfl) .nil)) fun f m=>?_
     rcases bft (x1f == x1t) with f | f
     ·have n:=cond_t f B
      have g:=m.lit 97 f
      refine c_t [] [2,3,5,107] g .nil fun l g=>⟨H,true,I,g.to,C,n⟩
     have B:=cond_f f B
     have f:=m.lit 97 f
     refine c_n 4 [.bool P] [2,3,5,97,101] f (.cell (C.bx 0 3 rfl rfl) .nil) fun f F=>?_
     rcases bft P with g | g
     ·have n:=cond_t g B
      have f:=F.lit 101 g
      refine c_n 2 [vI x1m] [2,3,5,97,101,103] f (.cell (C.bx 1 4 rfl rfl) .nil) fun f l=>?_
      obtain ⟨m,f,n⟩:=bind_some n
      refine c_call l (f48_ok fuel x1m 1 100000000 m f H _ _ C ) ?_
      rintro l p u ⟨x,y,rfl,A⟩ f
      refine tv (c_t [] [2,3,5,107] f .nil fun l f=>⟨x,(!m),(zt I y),f.to,A,n⟩)
     have n:=cond_f g B
     have f:=F.lit 101 g
     refine c_t [] [2,3,5,107] f .nil fun g f=>⟨H,false,I,f.to,C,n⟩
    have B:=cond_f E K
    have f:=J.lit 89 E
    refine c_n 12 [.bool P] [2,3,5,97,101] f (.cell (C.bx 0 3 rfl rfl) .nil) fun f E=>?_
    rcases bft P with g | g
    ·have n:=cond_t g B
     have f:=E.lit 101 g
     refine c_n 2 [vI x1m] [2,3,5,97,101,103] f (.cell (C.bx 1 4 rfl rfl) .nil) fun f l=>?_
     obtain ⟨m,f,n⟩:=bind_some n
     refine c_call l (f48_ok fuel x1m 1 100000000 m f H _ _ C ) ?_
     rintro l p u ⟨x,y,rfl,A⟩ f
     refine tv (c_t [] [2,3,5,107] f .nil fun l f=>⟨x,(!m),(zt I y),f.to,A,n⟩)
    have n:=cond_f g B
    have f:=E.lit 101 g
    refine c_t [] [2,3,5,107] f .nil fun g f=>⟨H,false,I,f.to,C,n⟩
   have B:=cond_f G T
   have f:=O.lit 84 G
   refine c_n 17 [.bool P] [2,3,5,97,101] f (.cell (C.bx 0 3 rfl rfl) .nil) fun f E=>?_
   rcases bft P with g | g
   ·have n:=cond_t g B
    have f:=E.lit 101 g
    refine c_n 2 [vI x1m] [2,3,5,97,101,103] f (.cell (C.bx 1 4 rfl rfl) .nil) fun f l=>?_
    obtain ⟨m,f,n⟩:=bind_some n
    refine c_call l (f48_ok fuel x1m 1 100000000 m f H _ _ C ) ?_
    rintro l p u ⟨x,y,rfl,A⟩ f
    refine tv (c_t [] [2,3,5,107] f .nil fun l f=>⟨x,(!m),(zt I y),f.to,A,n⟩)
   have n:=cond_f g B
   have f:=E.lit 101 g
   refine c_t [] [2,3,5,107] f .nil fun g f=>⟨H,false,I,f.to,C,n⟩
  have T:=cond_f M Z
  have f:=R.lit 73 M
  refine c_n 11 [.bool W] [2,3,5,80,84] f (.cell (Q.bx 0 1 rfl rfl) .nil) fun f H=>?_
  rcases bft W with F | F
  ·have K:=cond_t F T
   have f:=H.lit 84 F
   refine c_n 5 [.bool V] [2,3,5,80,89] f (.cell (Q.bx 0 2 rfl rfl) .nil) fun f G=>?_
   rcases bft V with C | C
   ·have B:=cond_t C K
    have f:=G.lit 89 C
    refine c_n 8 [vI x1f,vI x1t] [2,3,5,97] f (.cell (Q.bx 1 2 rfl rfl) (.cell (Q.bx 1 3 rfl rfl) .nil)) fun f m=>?_
    rcases bft (x1f == x1t) with f | f
    ·have n:=cond_t f B
     have g:=m.lit 97 f
     refine c_t [] [2,3,5,107] g .nil fun l g=>⟨z4,true,zr,g.to,Q,n⟩
    have B:=cond_f f B
    have f:=m.lit 97 f
    refine c_n 4 [.bool P] [2,3,5,97,101] f (.cell (Q.bx 0 3 rfl rfl) .nil) fun f E=>?_
    rcases bft P with g | g
    ·have n:=cond_t g B
     have f:=E.lit 101 g
     refine c_n 2 [vI x1m] [2,3,5,97,101,103] f (.cell (Q.bx 1 4 rfl rfl) .nil) fun f l=>?_
     obtain ⟨m,f,n⟩:=bind_some n
     refine c_call l (f48_ok fuel x1m 1 100000000 m f z4 _ _ Q ) ?_
     rintro l p u ⟨x,y,rfl,A⟩ f
     refine tv (c_t [] [2,3,5,107] f .nil fun l f=>⟨x,(!m),y,f.to,A,n⟩)
    have n:=cond_f g B
    have f:=E.lit 101 g
    refine c_t [] [2,3,5,107] f .nil fun g f=>⟨z4,false,zr,f.to,Q,n⟩
   have B:=cond_f C K
   have f:=G.lit 89 C
   refine c_n 12 [.bool P] [2,3,5,97,101] f (.cell (Q.bx 0 3 rfl rfl) .nil) fun f C=>?_
   rcases bft P with g | g
   ·have n:=cond_t g B
    have f:=C.lit 101 g
    refine c_n 2 [vI x1m] [2,3,5,97,101,103] f (.cell (Q.bx 1 4 rfl rfl) .nil) fun f l=>?_
    obtain ⟨m,f,n⟩:=bind_some n
    refine c_call l (f48_ok fuel x1m 1 100000000 m f z4 _ _ Q ) ?_
    rintro l p u ⟨x,y,rfl,A⟩ f
    refine tv (c_t [] [2,3,5,107] f .nil fun l f=>⟨x,(!m),y,f.to,A,n⟩)
   have n:=cond_f g B
   have f:=C.lit 101 g
   refine c_t [] [2,3,5,107] f .nil fun g f=>⟨z4,false,zr,f.to,Q,n⟩
  have B:=cond_f F T
  have f:=H.lit 84 F
  refine c_n 17 [.bool P] [2,3,5,97,101] f (.cell (Q.bx 0 3 rfl rfl) .nil) fun f C=>?_
  rcases bft P with g | g
  ·have n:=cond_t g B
   have f:=C.lit 101 g
   refine c_n 2 [vI x1m] [2,3,5,97,101,103] f (.cell (Q.bx 1 4 rfl rfl) .nil) fun f l=>?_
   obtain ⟨m,f,n⟩:=bind_some n
   refine c_call l (f48_ok fuel x1m 1 100000000 m f z4 _ _ Q ) ?_
   rintro l p u ⟨x,y,rfl,A⟩ f
   refine tv (c_t [] [2,3,5,107] f .nil fun l f=>⟨x,(!m),y,f.to,A,n⟩)
  have n:=cond_f g B
  have f:=C.lit 101 g
  refine c_t [] [2,3,5,107] f .nil fun g f=>⟨z4,false,zr,f.to,Q,n⟩
 rintro f g ⟨z5,y2,A,l,m,B⟩
 refine c_if y2 l (fun g=>?_) (fun g=>?_)
 ·have n:=cond_t g B
  refine c_sq [] [4] l .nil fun p f=>c_ret (r_then (c_rt [] (.bool false) f .nil ?_))
  obtain rfl:=some_eq n
  exact ⟨_,rfl,z5,(zt (zt k3 k4) A),rfl,(St.drop 3 m)⟩
 have B:=cond_f g B
 refine c_skip (n_then (c_seq (c_sq [.bool y1] [2,3,111] l (.cell (m.bx 0 0 rfl rfl) .nil) fun f l=>(c_if (!y1) l (fun g=>?_) (fun g=>?_)))))
 ·have n:=cond_t g B
  refine c_sq [] [4] l .nil fun p f=>c_ret (r_then (c_rt [] (.bool true) f .nil ?_))
  obtain rfl:=some_eq n
  exact ⟨_,rfl,z5,(zt (zt k3 k4) A),rfl,(St.drop 3 m)⟩
 have n:=cond_f g B
 refine c_skip (n_then (c_sr (c_n 4 [sL o_x0l x0l c_x0l,vI x1o] [114,116] l (.cell (m.bx 2 0 rfl rfl) (.cell (m.bx 1 1 rfl rfl) .nil)) fun f g=>?_)))
 obtain ⟨l,f,n⟩:=bind_some n
 refine c_call g (f42_ok fuel x0l x1o l f z5 _ _ m o_x0l c_x0l (SliceR.mono (zt (zt k3 k4) A) hx_x0l)) ?_
 rintro g m p ⟨u,x,rfl,y⟩ f
 refine tv (c_t [] [6] f .nil fun g f=>c_sq [] [4] f .nil fun g f=>c_ret (c_rt [] (.bool l.2) f .nil ?_))
 obtain rfl:=some_eq n
 exact ⟨_,rfl,u,(zt (zt (zt k3 k4) A) x),rfl,(St.drop 3 y)⟩
def F78_j4 (y1:Bool):Option (Int) :=
  (cond y1 (some (2)) (some (0)))
def F78_j3 (fuel:Nat) (x0h:List (List (List Part))) (x1k:Int) (x1t:Int) (x1m:Int) (y2:Bool) (y3:Bool):Option (Int) :=
  (cond y3 (some (3)) (cond y2 (cond (x1k == (2:Int)) ((getI x0h x1t).bind fun p1=>(cond ((p1.length:Int) == (4:Int)) (F78_j4 true) ((getI x0h x1t).bind fun p2=>((F41 fuel p2).bind fun r1=>(F78_j4 (decide ((w64 (r1 + x1m)) > (100000000:Int)))))))) ((getI x0h x1t).bind fun p3=>((F41 fuel p3).bind fun r2=>(F78_j4 (decide ((w64 (r2 + x1m)) > (100000000:Int))))))) (F78_j4 false)))
def F78_j2 (fuel:Nat) (x0h:List (List (List Part))) (x1k:Int) (x1f:Int) (x1t:Int) (x1m:Int) (y2:Bool) (y4:Bool):Option (Int) :=
  (cond y4 (some (63)) (cond (x1k == (6:Int)) ((getI x0h x1f).bind fun p4=>(F78_j3 fuel x0h x1k x1t x1m y2 (decide ((p4.length:Int)<(2:Int))))) (F78_j3 fuel x0h x1k x1t x1m y2 false)))
def F78_j1 (fuel:Nat) (x0h:List (List (List Part))) (x1k:Int) (x1f:Int) (x1t:Int) (x1m:Int) (y5:Bool) (y6:Bool) (y2:Bool) (y7:Bool) (y8:Option Nat):Option (Int) :=
  (cond y6 ((getI x0h x1f).bind fun p5=>((F41 fuel p5).bind fun r3=>(F78_j2 fuel x0h x1k x1f x1t x1m y2 (decide (x1m > r3))))) (F78_j2 fuel x0h x1k x1f x1t x1m y2 false))
def F78 (fuel:Nat) (x0l:List Lot) (x0h:List (List (List Part))) (x1k:Int) (x1o:Int) (x1f:Int) (x1t:Int) (x1m:Int):Option (Int) :=
  ((F93 fuel x0l x0h x1k x1o x1f x1t x1m).bind fun r4=>(cond (!r4) (some (61)) ((F79 fuel ).bind fun r5=>(F78_j1 fuel x0h x1k x1f x1t x1m ((lkK r5 x1k zrow).lot) ((lkK r5 x1k zrow).frm) ((lkK r5 x1k zrow).to) ((lkK r5 x1k zrow).mass) ((lkK r5 x1k zrow).fn)))))
set_option maxRecDepth 100000 in
theorem f78_ok (fuel:Nat) (x0l:List Lot) (x0h:List (List (List Part))) (x1k:Int) (x1o:Int) (x1f:Int) (x1t:Int) (x1m:Int) (r:Int) (hr:F78 fuel x0l x0h x1k x1o x1f x1t x1m=some r) (h:Zone) (L:List Atom) (w:World) (hS:St h L w) (o_x0l:Option Addr) (c_x0l:Nat) (hx_x0l:SliceR LotT h o_x0l c_x0l x0l) (V00 V01 V02 V03 V04 V05 V06 V07 V08:Value) (hx_x0h:(Ty.arr 9 (Ty.slice (Ty.slice PartT))).rep h [V00,V01,V02,V03,V04,V05,V06,V07,V08] x0h) :
    Calls Tryz.prog 78 #[.agg #[.slice o_x0l x0l.length c_x0l,V00,V01,V02,V03,V04,V05,V06,V07,V08], .agg #[vI x1k,vI x1o,vI x1f,vI x1t,vI x1m]] w fun e w'=>∃v,e= .returned v∧(∃h',Zone.le h h'∧v=vI r∧St h' L w'):=by
 refine calls_intro (N:=69) Tryz.func78 (by kernel_rfl) fun a hf=>c_sr (c_box [sL o_x0l x0l c_x0l,V00,V01,V02,V03,V04,V05,V06,V07,V08] 29 hS hf fun R x y g l=>tv (c_box [vI x1k,vI x1o,vI x1f,vI x1t,vI x1m] 74 g l fun U A B f m=>tv (c_t [] [2,3] m .nil fun C n=>(c_seq (c_sr (c_n 2 [sL o_x0l x0l c_x0l,V00,V01,V02,V03,V04,V05,V06,V07,V08,vI x1k,vI x1o,vI x1f,vI x1t,vI x1m] [2,3,6,7] n (.cell (f.bx 1 0 rfl rfl) (.cell (f.bx 1 1 rfl rfl) (.cell (f.bx 1 2 rfl rfl) (.cell (f.bx 1 3 rfl rfl) (.cell (f.bx 1 4 rfl rfl) (.cell (f.bx 1 5 rfl rfl) (.cell (f.bx 1 6 rfl rfl) (.cell (f.bx 1 7 rfl rfl) (.cell (f.bx 1 8 rfl rfl) (.cell (f.bx 1 9 rfl rfl) (.cell (f.bx 0 0 rfl rfl) (.cell (f.bx 0 1 rfl rfl) (.cell (f.bx 0 2 rfl rfl) (.cell (f.bx 0 3 rfl rfl) (.cell (f.bx 0 4 rfl rfl) .nil))))))))))))))) fun E p=>?_))))))
 obtain ⟨l,g,F⟩:=bind_some hr
 refine c_call p (f93_ok fuel x0l x0h x1k x1o x1f x1t x1m l g h _ _ f o_x0l c_x0l hx_x0l V00 V01 V02 V03 V04 V05 V06 V07 V08 (Ty.mono _ zr hx_x0h)) ?_
 rintro g m n ⟨E,Z,rfl,p⟩ f
 refine tv (c_t [] [2,3,9] f .nil fun f m=>c_if (!l) m (fun g=>?_) (fun g=>?_))
 ·have u:=cond_t g F
  refine c_sq [] [4] m .nil fun l f=>c_ret (r_then (c_rt [] (vI 61) f .nil ?_))
  obtain rfl:=some_eq u
  exact ⟨_,rfl,E,Z,rfl,(St.drop 2 p)⟩
 have F:=cond_f g F
 refine c_skip (n_then (c_mid (fun a w=>∃I:Zone,∃W:Bool,∃S:Bool,∃P:Bool,∃X:Bool,∃Y:Option Nat,∃T:Nat,Zone.le E I∧Fr a 69 [(2,pB R 0),(3,pB U 0),(5,pB T 0)]∧St I (box T [.bool W, .bool S, .bool P, .bool X,fnV Y] 141::box U [vI x1k,vI x1o,vI x1f,vI x1t,vI x1m] 74::box R [sL o_x0l x0l c_x0l,V00,V01,V02,V03,V04,V05,V06,V07,V08] 29::L) w∧(F78_j1 fuel x0h x1k x1f x1t x1m W S P X Y)=some r) ?_ ?_))
 ·skip
  have H:=p.drew
  have f:=Sub.of zr H
  refine w_regB (by kernel_rfl) [3,5] (Sub E (box U [vI x1k,vI x1o,vI x1f,vI x1t,vI x1m] 74::box R [sL o_x0l x0l c_x0l,V00,V01,V02,V03,V04,V05,V06,V07,V08] 29::L)) (by kernel_rfl) (k_seg' 4 [(1,true),(2,true)] (by kernel_rfl) (by kernel_rfl) (At.start f) (by kernel_rfl) (c_S 2 [vI x1k] [2,3,12] f m (fun _ s=>(.cell (s.bx 0 0 rfl rfl) .nil)) .nil fun f K=>c_done ?_))
  intro f
  refine k_any' 3 [0,4] (by kernel_rfl) f (by kernel_rfl) (by kernel_rfl) ((all_cons ?_ (all_cons ?_ all_nil)))
  ·skip
   obtain ⟨f,g,u⟩:=bind_some F
   refine c_call K (f79_ok fuel  f g E _ _ H ) ?_
   rintro g l m ⟨G,B,x,rfl,y,C⟩ A
   refine ⟨fun _=>Sub.of x y,?_⟩
   refine c_done ?_
   intro g
   have l:=Sub.of x y
   refine k_seg' 3 [] (by kernel_rfl) (by kernel_rfl) g (by kernel_rfl) (c_done ?_)
   intro g
   refine k_any' 2 [3,4] (by kernel_rfl) g (by kernel_rfl) (by kernel_rfl) ((all_cons ?_ (all_cons ?_ all_nil)))
   ·skip
    refine p_lookup (i:=3) (d:=(some 13)) (t:=142) (o:=B) (k:=x1k) (c:=false) (z:=zrow) (D:=f) A (by kernel_rfl) mp142 (MapR.look C y) fun g l=>⟨fun e=>absurd e (by decide),?_⟩
    refine c_done ?_
    intro g
    refine k_seg' 0 [(4,false),(5,false)] (by kernel_rfl) (by kernel_rfl) g (by kernel_rfl) (c_box [.bool false, .bool false, .bool false, .bool false,fnV none] 141 y l fun p m n g l=>⟨fun _=>Sub.of x (St.drop 1 g),?_⟩)
    have m:=Sub.of x (St.drop 1 g)
    refine p_store_eq (i:=5) (j:=0) (b:=p) (off:=0) (vs:=[.bool ((lkK f x1k zrow).lot), .bool ((lkK f x1k zrow).frm), .bool ((lkK f x1k zrow).to), .bool ((lkK f x1k zrow).mass),fnV ((lkK f x1k zrow).fn)]) (cs':=[.bool ((lkK f x1k zrow).lot), .bool ((lkK f x1k zrow).frm), .bool ((lkK f x1k zrow).to), .bool ((lkK f x1k zrow).mass),fnV ((lkK f x1k zrow).fn)]) g l rfl (by kernel_rfl) (by generalize (lkK f x1k zrow).fn=q; cases q <;> kernel_rfl) rfl fun g l m n=>⟨fun e=>absurd e (by decide),?_⟩
    refine c_done ?_
    intro g
    refine k_done' (by kernel_rfl) (by kernel_rfl) (n_then (⟨G,(lkK f x1k zrow).lot,(lkK f x1k zrow).frm,(lkK f x1k zrow).to,(lkK f x1k zrow).mass,(lkK f x1k zrow).fn,p,x,n.to,(St.pick 1 [0] m (by kernel_rfl)),u⟩))
   skip
   refine c_box [.bool false, .bool false, .bool false, .bool false,fnV none] 141 y A fun p l m g n=>⟨fun _=>Sub.of x (St.drop 1 g),?_⟩
   refine c_done ?_
   intro l
   have m:=Sub.of x (St.drop 1 g)
   refine k_seg' 0 [(3,false),(5,false)] (by kernel_rfl) (by kernel_rfl) l (by kernel_rfl) (p_lookup (i:=3) (d:=(some 13)) (t:=142) (o:=B) (k:=x1k) (c:=false) (z:=zrow) (D:=f) n (by kernel_rfl) mp142 (MapR.look C g) fun m l=>⟨fun e=>absurd e (by decide),?_⟩)
   refine p_store_eq (i:=5) (j:=0) (b:=p) (off:=0) (vs:=[.bool ((lkK f x1k zrow).lot), .bool ((lkK f x1k zrow).frm), .bool ((lkK f x1k zrow).to), .bool ((lkK f x1k zrow).mass),fnV ((lkK f x1k zrow).fn)]) (cs':=[.bool ((lkK f x1k zrow).lot), .bool ((lkK f x1k zrow).frm), .bool ((lkK f x1k zrow).to), .bool ((lkK f x1k zrow).mass),fnV ((lkK f x1k zrow).fn)]) g l rfl (by kernel_rfl) (by generalize (lkK f x1k zrow).fn=q; cases q <;> kernel_rfl) rfl fun g l m n=>⟨fun e=>absurd e (by decide),?_⟩
   refine c_done ?_
   intro g
   refine k_done' (by kernel_rfl) (by kernel_rfl) (n_then (⟨G,(lkK f x1k zrow).lot,(lkK f x1k zrow).frm,(lkK f x1k zrow).to,(lkK f x1k zrow).mass,(lkK f x1k zrow).fn,p,x,n.to,(St.pick 1 [0] m (by kernel_rfl)),u⟩))
  skip
  refine c_box [.bool false, .bool false, .bool false, .bool false,fnV none] 141 H K fun C f g l m=>⟨fun _=>Sub.of zr (St.drop 1 l),?_⟩
  refine c_done ?_
  intro f
  have g:=Sub.of zr (St.drop 1 l)
  refine k_seg' 0 [(0,false),(3,false),(5,false)] (by kernel_rfl) (by kernel_rfl) f (by kernel_rfl) ?_
  obtain ⟨f,g,u⟩:=bind_some F
  refine c_call m (f79_ok fuel  f g E _ _ l ) ?_
  rintro l m n ⟨B,p,x,rfl,g,y⟩ A
  refine ⟨fun _=>Sub.of x (St.drop 1 g),?_⟩
  have l:=Sub.of x (St.drop 1 g)
  refine p_lookup (i:=3) (d:=(some 13)) (t:=142) (o:=p) (k:=x1k) (c:=false) (z:=zrow) (D:=f) A (by kernel_rfl) mp142 (MapR.look y g) fun m l=>⟨fun e=>absurd e (by decide),?_⟩
  refine p_store_eq (i:=5) (j:=0) (b:=C) (off:=0) (vs:=[.bool ((lkK f x1k zrow).lot), .bool ((lkK f x1k zrow).frm), .bool ((lkK f x1k zrow).to), .bool ((lkK f x1k zrow).mass),fnV ((lkK f x1k zrow).fn)]) (cs':=[.bool ((lkK f x1k zrow).lot), .bool ((lkK f x1k zrow).frm), .bool ((lkK f x1k zrow).to), .bool ((lkK f x1k zrow).mass),fnV ((lkK f x1k zrow).fn)]) g l rfl (by kernel_rfl) (by generalize (lkK f x1k zrow).fn=q; cases q <;> kernel_rfl) rfl fun g l m n=>⟨fun e=>absurd e (by decide),?_⟩
  refine c_done ?_
  intro g
  refine k_done' (by kernel_rfl) (by kernel_rfl) (n_then (⟨B,(lkK f x1k zrow).lot,(lkK f x1k zrow).frm,(lkK f x1k zrow).to,(lkK f x1k zrow).mass,(lkK f x1k zrow).fn,C,x,n.to,(St.pick 1 [0] m (by kernel_rfl)),u⟩))
 rintro f g ⟨I,W,S,P,X,Y,T,Q,m,l,F⟩
 refine c_seq (c_mid (fun a w=>∃E:Zone,∃C:Bool,Zone.le I E∧Fr a 69 [(2,pB R 0),(3,pB U 0),(5,pB T 0),(27, .bool C)]∧St E (box T [.bool W, .bool S, .bool P, .bool X,fnV Y] 141::box U [vI x1k,vI x1o,vI x1f,vI x1t,vI x1m] 74::box R [sL o_x0l x0l c_x0l,V00,V01,V02,V03,V04,V05,V06,V07,V08] 29::L) w∧(F78_j2 fuel x0h x1k x1f x1t x1m P C)=some r) ?_ ?_)
 ·skip
  have G:=l.drew
  have B:=Sub.of zr G
  refine c_regD (rD 14 [11]) [] _ B (c_S 4 [.bool S] [2,3,5,17] B m (fun _ s=>(.cell (s.bx 0 1 rfl rfl) .nil)) .nil fun f H=>?_)
  rcases bft S with x | x
  ·have u:=cond_t x F
   have p:=H.lit 17 x
   obtain ⟨n,f,u⟩:=bind_some u
   obtain ⟨f,_,m,g,l,hehv764,A⟩:=arrGet (Ty.mono _ (zt Z Q) hx_x0h) rfl f
   obtain rfl:=List.head_eq_of_cons_eq hehv764
   refine c_S 7 [vI x1m,vI x1f,sL g n l] [2,3,5,17,19,24] B p (fun _ s=>(.cell (s.bx 1 4 rfl rfl) (.cell (s.bx 1 2 rfl rfl) (.prop f (.cell ((arrAddr R 1 x1f.toNat) ▸ (s.box (i:=2) rfl (getElem?_app_right [sL o_x0l x0l c_x0l] _ _ m []))) .nil))))) .nil fun f m=>?_
   obtain ⟨y,f,u⟩:=bind_some u
   refine c_call m (f41_ok fuel n y f I _ _ G g l A) ?_
   rintro l m n ⟨A,f,rfl,g⟩ p
   refine ⟨fun _=>Sub.of f g,?_⟩
   have l:=Sub.of f g
   refine c_S 2 [] [2,3,5,27] l p (fun _ s=> .nil) .nil fun m l=>c_dt (⟨A,(decide (x1m > y)),f,l.to,g,u⟩)
  have u:=cond_f x F
  have f:=H.lit 17 x
  refine c_S 10 [] [2,3,5,27] B f (fun _ s=> .nil) .nil fun g f=>c_dt (⟨I,false,zr,f.to,G,u⟩)
 rintro f g ⟨E,C,K,m,A,F⟩
 refine c_if C m (fun g=>?_) (fun g=>?_)
 ·have u:=cond_t g F
  refine c_sq [] [4] m .nil fun l f=>c_ret (r_then (c_rt [] (vI 63) f .nil ?_))
  obtain rfl:=some_eq u
  exact ⟨_,rfl,E,(zt (zt Z Q) K),rfl,(St.drop 3 A)⟩
 have F:=cond_f g F
 refine c_skip (n_then (c_seq (c_mid (fun a w=>∃G:Zone,∃B:Bool,Zone.le E G∧Fr a 69 [(2,pB R 0),(3,pB U 0),(5,pB T 0),(39, .bool B)]∧St G (box T [.bool W, .bool S, .bool P, .bool X,fnV Y] 141::box U [vI x1k,vI x1o,vI x1f,vI x1t,vI x1m] 74::box R [sL o_x0l x0l c_x0l,V00,V01,V02,V03,V04,V05,V06,V07,V08] 29::L) w∧(F78_j3 fuel x0h x1k x1t x1m P B)=some r) ?_ ?_)))
 ·skip
  refine c_reg (c_n 4 [vI x1k] [2,3,5,31] m (.cell (A.bx 1 0 rfl rfl) .nil) fun f C=>?_)
  rcases bft (x1k == (6:Int)) with f | f
  ·have u:=cond_t f F
   have y:=C.lit 31 f
   obtain ⟨l,g,u⟩:=bind_some u
   obtain ⟨g,_,m,n,p,hehv952,x⟩:=arrGet (Ty.mono _ (zt (zt Z Q) K) hx_x0h) rfl g
   obtain rfl:=List.head_eq_of_cons_eq hehv952
   refine c_t [vI x1f,sL n l p] [2,3,5,39] y (.cell (A.bx 1 2 rfl rfl) (.prop g (.cell ((arrAddr R 1 x1f.toNat) ▸ (A.box (i:=2) rfl (getElem?_app_right [sL o_x0l x0l c_x0l] _ _ m []))) .nil))) fun m g=>?_
   exact ⟨E,(decide ((l.length:Int)<(2:Int))),zr,g.to,A,u⟩
  have u:=cond_f f F
  have f:=C.lit 31 f
  refine c_t [] [2,3,5,39] f .nil fun g f=>⟨E,false,zr,f.to,A,u⟩
 rintro f g ⟨G,B,I,m,n,F⟩
 refine c_if B m (fun g=>?_) (fun g=>?_)
 ·have u:=cond_t g F
  refine c_sq [] [4] m .nil fun l f=>c_ret (r_then (c_rt [] (vI 3) f .nil ?_))
  obtain rfl:=some_eq u
  exact ⟨_,rfl,G,(zt (zt (zt Z Q) K) I),rfl,(St.drop 3 n)⟩
 have V:=cond_f g F
 refine c_skip (n_then (c_seq (c_mid (fun a w=>∃M:Zone,∃O:Bool,Zone.le G M∧Fr a 69 [(68, .bool O)]∧St M (box T [.bool W, .bool S, .bool P, .bool X,fnV Y] 141::box U [vI x1k,vI x1o,vI x1f,vI x1t,vI x1m] 74::box R [sL o_x0l x0l c_x0l,V00,V01,V02,V03,V04,V05,V06,V07,V08] 29::L) w∧(F78_j4 O)=some r) ?_ ?_)))
 ·skip
  have E:=n.drew
  have B:=Sub.of zr E
  refine c_regD [(0,true),(1,true),(2,true),(3,true),(4,true),(5,true),(6,true),(7,true),(8,true),(9,true),(10,true),(11,true),(12,true),(13,true),(14,true),(15,true),(16,true),(17,true),(18,true),(19,true),(20,true),(21,true),(23,true),(24,true),(22,false),(25,true),(26,true),(27,true),(28,true)] [] _ B (c_S 4 [.bool P] [2,3,43] B m (fun _ s=>(.cell (s.bx 0 2 rfl rfl) .nil)) .nil fun f S=>?_)
  rcases bft P with C | C
  ·have J:=cond_t C V
   have f:=S.lit 43 C
   refine c_S 4 [vI x1k] [2,3,43,47] B f (fun _ s=>(.cell (s.bx 1 0 rfl rfl) .nil)) .nil fun f H=>?_
   rcases bft (x1k == (2:Int)) with A | A
   ·have u:=cond_t A J
    have x:=H.lit 47 A
    obtain ⟨g,f,F⟩:=bind_some u
    obtain ⟨f,_,l,m,n,hehv1585,p⟩:=arrGet (Ty.mono _ (zt (zt (zt Z Q) K) I) hx_x0h) rfl f
    obtain rfl:=List.head_eq_of_cons_eq hehv1585
    refine c_S 9 [vI x1t,sL m g n] [2,3,43,56] B x (fun _ s=>(.cell (s.bx 1 3 rfl rfl) (.prop f (.cell ((arrAddr R 1 x1t.toNat) ▸ (s.box (i:=2) rfl (getElem?_app_right [sL o_x0l x0l c_x0l] _ _ l []))) .nil)))) .nil fun f m=>?_
    rcases bft ((g.length:Int) == (4:Int)) with f | f
    ·have u:=cond_t f F
     have g:=m.lit 56 f
     refine c_S 12 [] [68] B g (fun _ s=> .nil) .nil fun l g=>c_dt (⟨G,true,zr,g.to,E,u⟩)
    have u:=cond_f f F
    have p:=m.lit 56 f
    obtain ⟨n,f,u⟩:=bind_some u
    obtain ⟨f,_,m,g,l,hehv1605,y⟩:=arrGet (Ty.mono _ (zt (zt (zt Z Q) K) I) hx_x0h) rfl f
    obtain rfl:=List.head_eq_of_cons_eq hehv1605
    refine c_S 7 [vI x1t,sL g n l,vI x1m] [43,56,61,64] B p (fun _ s=>(.cell (s.bx 1 3 rfl rfl) (.prop f (.cell ((arrAddr R 1 x1t.toNat) ▸ (s.box (i:=2) rfl (getElem?_app_right [sL o_x0l x0l c_x0l] _ _ m []))) (.cell (s.bx 1 4 rfl rfl) .nil))))) .nil fun f m=>?_
    obtain ⟨x,f,u⟩:=bind_some u
    refine c_call m (f41_ok fuel n x f G _ _ E g l y) ?_
    rintro l m n ⟨y,f,rfl,g⟩ p
    refine ⟨fun _=>Sub.of f g,?_⟩
    have l:=Sub.of f g
    refine c_S 4 [] [68] l p (fun _ s=> .nil) .nil fun m l=>c_dt (⟨y,(decide ((w64 (x + x1m)) > (100000000:Int))),f,l.to,g,u⟩)
   have u:=cond_f A J
   have p:=H.lit 47 A
   obtain ⟨n,f,u⟩:=bind_some u
   obtain ⟨f,_,m,g,l,hehv1638,y⟩:=arrGet (Ty.mono _ (zt (zt (zt Z Q) K) I) hx_x0h) rfl f
   obtain rfl:=List.head_eq_of_cons_eq hehv1638
   refine c_S 16 [vI x1t,sL g n l,vI x1m] [43,56,61,64] B p (fun _ s=>(.cell (s.bx 1 3 rfl rfl) (.prop f (.cell ((arrAddr R 1 x1t.toNat) ▸ (s.box (i:=2) rfl (getElem?_app_right [sL o_x0l x0l c_x0l] _ _ m []))) (.cell (s.bx 1 4 rfl rfl) .nil))))) .nil fun f m=>?_
   obtain ⟨x,f,u⟩:=bind_some u
   refine c_call m (f41_ok fuel n x f G _ _ E g l y) ?_
   rintro l m n ⟨y,f,rfl,g⟩ p
   refine ⟨fun _=>Sub.of f g,?_⟩
   have l:=Sub.of f g
   refine c_S 4 [] [68] l p (fun _ s=> .nil) .nil fun m l=>c_dt (⟨y,(decide ((w64 (x + x1m)) > (100000000:Int))),f,l.to,g,u⟩)
  have u:=cond_f C V
  have f:=S.lit 43 C
  refine c_S 25 [] [68] B f (fun _ s=> .nil) .nil fun g f=>c_dt (⟨G,false,zr,f.to,E,u⟩)
 rintro f g ⟨M,O,n,l,p,F⟩
 refine c_if O l (fun g=>?_) (fun g=>?_)
 ·have u:=cond_t g F
  refine c_sq [] [4] l .nil fun m f=>c_ret (r_then (c_rt [] (vI 2) f .nil ?_))
  obtain rfl:=some_eq u
  exact ⟨_,rfl,M,(zt (zt (zt (zt Z Q) K) I) n),rfl,(St.drop 3 p)⟩
 have u:=cond_f g F
 refine c_skip (n_then (c_sq [] [4] l .nil fun g f=>(c_ret (c_rt [] (vI 0) f .nil ?_))))
 obtain rfl:=some_eq u
 exact ⟨_,rfl,M,(zt (zt (zt (zt Z Q) K) I) n),rfl,(St.drop 3 p)⟩
def F109 (fuel:Nat) (x0:Pl) (x1:Int) (x2p:List Part) (x2y:List (Int×Bool)):Option (Pl) :=
  (cond (decide ((x2p.length:Int) > (0:Int))) ((getI x0.holds x1).bind fun p1=>((getI x0.may x1).bind fun p2=>((appC p1 ([x2p])).bind fun d1=>((appC p2 ([x2y])).bind fun d2=>(some ((⟨x0.lots,(x0.holds.set (Int.toNat x1) d1),(x0.may.set (Int.toNat x1) d2)⟩:Pl))))))) (some (x0)))
set_option maxRecDepth 100000 in
theorem f109_ok (fuel:Nat) (x0:Pl) (x1:Int) (x2p:List Part) (x2y:List (Int×Bool)) (r:Pl) (hr:F109 fuel x0 x1 x2p x2y=some r) (h:Zone) (L:List Atom) (w:World) (b_x0:Nat) (hS:St h (plA 69 49 101 b_x0 x0::L) w) (o_x2p:Option Addr) (c_x2p:Nat) (hx_x2p:SliceR PartT h o_x2p c_x2p x2p) (o_x2y:Option Nat) (hx_x2y:MapR Value.bool h o_x2y x2y) :
    Calls Tryz.prog 109 #[pB b_x0 0,vI x1, .agg #[.slice o_x2p x2p.length c_x2p, .map o_x2y]] w fun e w'=>∃v,e= .returned v∧(∃h',Zone.le h h'∧v= .tuple #[]∧St h' (plA 69 49 101 b_x0 r::L) w'):=by
 refine calls_intro (N:=43) Tryz.func109 (by kernel_rfl) fun a hf=>c_sr (c_box [sL o_x2p x2p c_x2p, .map o_x2y] 103 hS hf fun y g l a9 f=>tv (c_dt (c_sq [sL o_x2p x2p c_x2p] [0,1,5,10] f (.cell (a9.bx 0 0 rfl rfl) .nil) fun m a8=>(c_if (decide ((x2p.length:Int) > (0:Int))) a8 (fun a7=>?_) (fun a7=>?_)))))
 ·have q:=cond_t a7 hr
  obtain ⟨e1,q1,v1,v2,v3,v4,v5,v6,v7,v8,v9,P,Q,R,S,U,V,W,X,Y,a6,f⟩:=a9.plOpen (i:=1) rfl
  obtain ⟨x,a2,q⟩:=bind_some q
  obtain ⟨p,t,u,K,f⟩:=f.ownOpen (j:=0) rfl a2
  obtain ⟨m,a3,a4⟩:=bind_some q
  obtain ⟨g,l,o,M,f⟩:=f.ownOpen (j:=2) rfl a3
  have a1:=f.drew
  have f:=Sub.of zr (a1.mask (i:=1) rfl)
  refine w_regB (by kernel_rfl) [24,29,33] (Sub h (ownS (Ty.map Value.bool) 101 g l m::anyA::ownH (Ty.slice PartT) 49 [v1,v2,v3,v4,v5,v6,v7,v8,v9] x0.holds (Int.toNat x1)::ownH (Ty.map Value.bool) 101 [P,Q,R,S,U,V,W,X,Y] x0.may (Int.toNat x1)::box y [sL o_x2p x2p c_x2p, .map o_x2y] 103::box b_x0 [sL e1 x0.lots q1,v1,v2,v3,v4,v5,v6,v7,v8,v9,P,Q,R,S,U,V,W,X,Y] 69::L)) (by kernel_rfl) (k_seg' 8 [(0,true),(1,true),(2,true),(3,true),(4,true),(5,true),(6,true),(7,true),(8,true),(9,true),(10,true),(11,true),(12,true),(15,true),(16,true),(17,true),(18,true),(19,true),(20,true),(21,true),(22,true),(25,true),(26,true),(27,true),(30,true),(31,true)] (by kernel_rfl) (by kernel_rfl) (At.start f) (by kernel_rfl) (c_S 26 [sL p x t,sL o_x2p x2p c_x2p,sL g m l, .map o_x2y] [12,14,21,23,31,33,38,41] f a8 (fun _ s=>(.prop K (.cell ((arrAddr b_x0 1 (Int.toNat x1)) ▸ (s.box (i:=5) rfl (getElem?_app_right [sL e1 x0.lots q1] _ _ u [P,Q,R,S,U,V,W,X,Y]))) (.cell (s.bx 4 0 rfl rfl) (.prop M (.cell ((arrAddr b_x0 10 (Int.toNat x1)) ▸ (s.box (i:=5) rfl (getElem?_app_right [sL e1 x0.lots q1,v1,v2,v3,v4,v5,v6,v7,v8,v9] _ _ o []))) (.cell (s.bx 4 1 rfl rfl) .nil))))))) .nil fun f a5=>?_))
  refine c_done ?_
  intro f
  refine k_any' 7 [13,23] (by kernel_rfl) f (by kernel_rfl) (by kernel_rfl) ((all_cons ?_ (all_cons ?_ all_nil)))
  ·skip
   refine p_box (i:=13) (d:=(some 24)) (cs:=[sL o_x2p x2p c_x2p]) (T:=49) (v:=fun b2=> .slice (some ⟨b2,0,none⟩) 1 1) a1 a5 (fun b=>by kernel_rfl) fun b2 g l f a0=>⟨fun _=>Sub.of zr ((St.drop 1 f).mask (i:=1) rfl),?_⟩
   have Z:=f.ownBox (T:=(Ty.slice PartT)) (E:=49) (n:=1) (xs:=[x2p]) (i:=0) rfl (Rows.cons (c:=[sL o_x2p x2p c_x2p]) (sliceRep (hx_x2p)) rfl) rfl (by decide)
   refine c_done ?_
   intro f
   have g:=Sub.of zr ((St.drop 1 Z).mask (i:=1) rfl)
   refine k_seg' 7 [] (by kernel_rfl) (by kernel_rfl) f (by kernel_rfl) (c_done ?_)
   intro f
   refine k_any' 6 [14,23] (by kernel_rfl) f (by kernel_rfl) (by kernel_rfl) ((all_cons ?_ (all_cons ?_ all_nil)))
   ·skip
    obtain ⟨H,f,q⟩:=bind_some a4
    refine p_append (T:=(Ty.slice PartT)) (i:=14) (j:=2) (d:=some 25) (o2:=(some ⟨b2,0,none⟩)) (c2:=1) (ys:=([x2p])) el26 Z a0 rfl (by kernel_rfl) (Z.ownSrc (j:=0) rfl) f fun D F g l f m=>⟨fun _=>Sub.of zr ((St.drop 1 f).mask (i:=1) rfl),?_⟩
    refine c_done ?_
    intro g
    have l:=Sub.of zr ((St.drop 1 f).mask (i:=1) rfl)
    refine k_seg' 0 [(23,false),(24,false),(28,true),(29,false),(32,true),(33,false)] (by kernel_rfl) (by kernel_rfl) g (by kernel_rfl) (p_box (i:=23) (d:=(some 34)) (cs:=[.map o_x2y]) (T:=101) (v:=fun g=> .slice (some ⟨g,0,none⟩) 1 1) f m (fun b=>by kernel_rfl) fun g l m f o=>⟨fun _=>Sub.of zr ((St.drop 2 f).mask (i:=1) rfl),?_⟩)
    have f:=f.ownBox (T:=(Ty.map Value.bool)) (E:=101) (n:=1) (xs:=[x2y]) (i:=0) rfl (Rows.cons (c:=[.map o_x2y]) (mapRep hx_x2y) rfl) rfl (by decide)
    have l:=Sub.of zr ((St.drop 2 f).mask (i:=1) rfl)
    obtain ⟨m,l,q⟩:=bind_some q
    refine p_append (T:=(Ty.map Value.bool)) (i:=24) (j:=2) (d:=some 35) (o2:=(some ⟨g,0,none⟩)) (c2:=1) (ys:=([x2y])) el66 f o rfl (by kernel_rfl) (f.ownSrc (j:=0) rfl) l fun g l p t o f=>⟨fun e=>absurd e (by decide),?_⟩
    refine p_qP 1 [] [(14,vI x1),(25,sL D H F),(35,sL g m l),(39, .pointer (some ((⟨b_x0,1,none⟩:Addr).add (Int.toNat x1 * 1)))),(41,pB b_x0 10)] [.prop (0≤x1∧x1<(9:Nat))] f (by kernel_rfl) (fun _=>(.prop K .nil)) fun p f=>p_storeA (i:=29) (j:=7) (b:=b_x0) (ix:=x1) (pre:=[sL e1 x0.lots q1]) (vs:=[v1,v2,v3,v4,v5,v6,v7,v8,v9]) (post:=[P,Q,R,S,U,V,W,X,Y]) (v:=sL D H F) o f rfl (by have O:=K.1; have G:=K.2; simp at G ⊢; omega) (by kernel_rfl) rfl fun o p f I=>⟨fun e=>absurd e (by decide),?_⟩
    obtain ⟨p,t,u,x,y,z,A,B,C,J⟩:=nine (vs:=[v1,v2,v3,v4,v5,v6,v7,v8,v9].set (Int.toNat x1) (sL D H F)) (by simp)
    rw [J] at f
    have o:[p,t,u,x,y,z,A,B,C][Int.toNat x1]? =some (sL D H F):=by rw [← J]; exact List.getElem?_set_self (by have O:=K.1; have G:=K.2; simp at G ⊢; omega)
    have o:=f
    refine p_qP 1 [] [(35,sL g m l),(42, .pointer (some ((⟨b_x0,10,none⟩:Addr).add (Int.toNat x1 * 1))))] [.prop (0≤x1∧x1<(9:Nat))] I (by kernel_rfl) (fun _=>(.prop M .nil)) fun D f=>p_storeA (i:=33) (j:=7) (b:=b_x0) (ix:=x1) (pre:=[sL e1 x0.lots q1,p,t,u,x,y,z,A,B,C]) (vs:=[P,Q,R,S,U,V,W,X,Y]) (post:=[]) (v:=sL g m l) o f rfl (by have O:=M.1; have G:=M.2; simp at G ⊢; omega) (by kernel_rfl) rfl fun o p f D=>⟨fun e=>absurd e (by decide),?_⟩
    obtain ⟨o,p,t,u,x,y,z,A,B,C⟩:=nine (vs:=[P,Q,R,S,U,V,W,X,Y].set (Int.toNat x1) (sL g m l)) (by simp)
    rw [C] at f
    have g:[o,p,t,u,x,y,z,A,B][Int.toNat x1]? =some (sL g m l):=by rw [← C]; exact List.getElem?_set_self (by have O:=M.1; have G:=M.2; simp at G ⊢; omega)
    have g:=f
    refine c_done ?_
    intro f
    refine k_done' (by kernel_rfl) (by kernel_rfl) ?_
    have f:=g.ownClose (j:=4) (k:=3) rfl rfl (by decide) (List.getElem?_eq_some_iff.1 (getI_spec a2).2).1
    rw [J] at f
    have f:=f.ownClose (j:=5) (k:=2) rfl rfl (by decide) (List.getElem?_eq_some_iff.1 (getI_spec a3).2).1
    rw [C] at f
    have f:=f.plClose (i:=7) (j:=4) (k:=5) rfl a6 rfl rfl (by decide) (by decide) (by decide)
    refine c_fall [] (.tuple #[]) D .nil ?_
    obtain rfl:=some_eq q
    exact ⟨_,rfl,h,zr,rfl,(St.pick 8 [7] f (by kernel_rfl))⟩
   skip
   refine p_box (i:=23) (d:=(some 34)) (cs:=[.map o_x2y]) (T:=101) (v:=fun x=> .slice (some ⟨x,0,none⟩) 1 1) Z a0 (fun b=>by kernel_rfl) fun x g l f m=>⟨fun _=>Sub.of zr ((St.drop 2 f).mask (i:=1) rfl),?_⟩
   have g:=f.ownBox (T:=(Ty.map Value.bool)) (E:=101) (n:=1) (xs:=[x2y]) (i:=0) rfl (Rows.cons (c:=[.map o_x2y]) (mapRep hx_x2y) rfl) rfl (by decide)
   refine c_done ?_
   intro f
   have l:=Sub.of zr ((St.drop 2 g).mask (i:=1) rfl)
   refine k_seg' 0 [(14,false),(24,false),(28,true),(29,false),(32,true),(33,false)] (by kernel_rfl) (by kernel_rfl) f (by kernel_rfl) ?_
   obtain ⟨p,f,q⟩:=bind_some a4
   refine p_append (T:=(Ty.slice PartT)) (i:=14) (j:=3) (d:=some 25) (o2:=(some ⟨b2,0,none⟩)) (c2:=1) (ys:=([x2p])) el26 g m rfl (by kernel_rfl) (g.ownSrc (j:=1) rfl) f fun l m g o f u=>⟨fun _=>Sub.of zr ((St.drop 2 f).mask (i:=1) rfl),?_⟩
   have g:=Sub.of zr ((St.drop 2 f).mask (i:=1) rfl)
   obtain ⟨t,g,q⟩:=bind_some q
   refine p_append (T:=(Ty.map Value.bool)) (i:=24) (j:=2) (d:=some 35) (o2:=(some ⟨x,0,none⟩)) (c2:=1) (ys:=([x2y])) el66 f u rfl (by kernel_rfl) (f.ownSrc (j:=0) rfl) g fun g o x y u f=>⟨fun e=>absurd e (by decide),?_⟩
   refine p_qP 1 [] [(14,vI x1),(25,sL l p m),(35,sL g t o),(39, .pointer (some ((⟨b_x0,1,none⟩:Addr).add (Int.toNat x1 * 1)))),(41,pB b_x0 10)] [.prop (0≤x1∧x1<(9:Nat))] f (by kernel_rfl) (fun _=>(.prop K .nil)) fun x f=>p_storeA (i:=29) (j:=7) (b:=b_x0) (ix:=x1) (pre:=[sL e1 x0.lots q1]) (vs:=[v1,v2,v3,v4,v5,v6,v7,v8,v9]) (post:=[P,Q,R,S,U,V,W,X,Y]) (v:=sL l p m) u f rfl (by have O:=K.1; have G:=K.2; simp at G ⊢; omega) (by kernel_rfl) rfl fun u x f H=>⟨fun e=>absurd e (by decide),?_⟩
   obtain ⟨u,x,y,z,A,B,C,D,F,I⟩:=nine (vs:=[v1,v2,v3,v4,v5,v6,v7,v8,v9].set (Int.toNat x1) (sL l p m)) (by simp)
   rw [I] at f
   have l:[u,x,y,z,A,B,C,D,F][Int.toNat x1]? =some (sL l p m):=by rw [← I]; exact List.getElem?_set_self (by have O:=K.1; have G:=K.2; simp at G ⊢; omega)
   have l:=f
   refine p_qP 1 [] [(35,sL g t o),(42, .pointer (some ((⟨b_x0,10,none⟩:Addr).add (Int.toNat x1 * 1))))] [.prop (0≤x1∧x1<(9:Nat))] H (by kernel_rfl) (fun _=>(.prop M .nil)) fun m f=>p_storeA (i:=33) (j:=7) (b:=b_x0) (ix:=x1) (pre:=[sL e1 x0.lots q1,u,x,y,z,A,B,C,D,F]) (vs:=[P,Q,R,S,U,V,W,X,Y]) (post:=[]) (v:=sL g t o) l f rfl (by have O:=M.1; have G:=M.2; simp at G ⊢; omega) (by kernel_rfl) rfl fun l m f D=>⟨fun e=>absurd e (by decide),?_⟩
   obtain ⟨l,m,p,u,x,y,z,A,B,C⟩:=nine (vs:=[P,Q,R,S,U,V,W,X,Y].set (Int.toNat x1) (sL g t o)) (by simp)
   rw [C] at f
   have g:[l,m,p,u,x,y,z,A,B][Int.toNat x1]? =some (sL g t o):=by rw [← C]; exact List.getElem?_set_self (by have O:=M.1; have G:=M.2; simp at G ⊢; omega)
   have g:=f
   refine c_done ?_
   intro f
   refine k_done' (by kernel_rfl) (by kernel_rfl) ?_
   have f:=g.ownClose (j:=4) (k:=3) rfl rfl (by decide) (List.getElem?_eq_some_iff.1 (getI_spec a2).2).1
   rw [I] at f
   have f:=f.ownClose (j:=5) (k:=2) rfl rfl (by decide) (List.getElem?_eq_some_iff.1 (getI_spec a3).2).1
   rw [C] at f
   have f:=f.plClose (i:=7) (j:=4) (k:=5) rfl a6 rfl rfl (by decide) (by decide) (by decide)
   refine c_fall [] (.tuple #[]) D .nil ?_
   obtain rfl:=some_eq q
   exact ⟨_,rfl,h,zr,rfl,(St.pick 8 [7] f (by kernel_rfl))⟩
  skip
  refine p_box (i:=23) (d:=(some 34)) (cs:=[.map o_x2y]) (T:=101) (v:=fun x=> .slice (some ⟨x,0,none⟩) 1 1) a1 a5 (fun b=>by kernel_rfl) fun x g l f m=>⟨fun _=>Sub.of zr ((St.drop 1 f).mask (i:=1) rfl),?_⟩
  have l:=f.ownBox (T:=(Ty.map Value.bool)) (E:=101) (n:=1) (xs:=[x2y]) (i:=0) rfl (Rows.cons (c:=[.map o_x2y]) (mapRep hx_x2y) rfl) rfl (by decide)
  refine c_done ?_
  intro f
  have g:=Sub.of zr ((St.drop 1 l).mask (i:=1) rfl)
  refine k_seg' 0 [(13,false),(14,false),(24,false),(28,true),(29,false),(32,true),(33,false)] (by kernel_rfl) (by kernel_rfl) f (by kernel_rfl) (p_box (i:=13) (d:=(some 24)) (cs:=[sL o_x2p x2p c_x2p]) (T:=49) (v:=fun g=> .slice (some ⟨g,0,none⟩) 1 1) l m (fun b=>by kernel_rfl) fun g l m f o=>⟨fun _=>Sub.of zr ((St.drop 2 f).mask (i:=1) rfl),?_⟩)
  have f:=f.ownBox (T:=(Ty.slice PartT)) (E:=49) (n:=1) (xs:=[x2p]) (i:=0) rfl (Rows.cons (c:=[sL o_x2p x2p c_x2p]) (sliceRep (hx_x2p)) rfl) rfl (by decide)
  have l:=Sub.of zr ((St.drop 2 f).mask (i:=1) rfl)
  obtain ⟨p,l,q⟩:=bind_some a4
  refine p_append (T:=(Ty.slice PartT)) (i:=14) (j:=3) (d:=some 25) (o2:=(some ⟨g,0,none⟩)) (c2:=1) (ys:=([x2p])) el26 f o rfl (by kernel_rfl) (f.ownSrc (j:=0) rfl) l fun l m g o f u=>⟨fun _=>Sub.of zr ((St.drop 2 f).mask (i:=1) rfl),?_⟩
  have g:=Sub.of zr ((St.drop 2 f).mask (i:=1) rfl)
  obtain ⟨t,g,q⟩:=bind_some q
  refine p_append (T:=(Ty.map Value.bool)) (i:=24) (j:=2) (d:=some 35) (o2:=(some ⟨x,0,none⟩)) (c2:=1) (ys:=([x2y])) el66 f u rfl (by kernel_rfl) (f.ownSrc (j:=1) rfl) g fun g o x y u f=>⟨fun e=>absurd e (by decide),?_⟩
  refine p_qP 1 [] [(14,vI x1),(25,sL l p m),(35,sL g t o),(39, .pointer (some ((⟨b_x0,1,none⟩:Addr).add (Int.toNat x1 * 1)))),(41,pB b_x0 10)] [.prop (0≤x1∧x1<(9:Nat))] f (by kernel_rfl) (fun _=>(.prop K .nil)) fun x f=>p_storeA (i:=29) (j:=7) (b:=b_x0) (ix:=x1) (pre:=[sL e1 x0.lots q1]) (vs:=[v1,v2,v3,v4,v5,v6,v7,v8,v9]) (post:=[P,Q,R,S,U,V,W,X,Y]) (v:=sL l p m) u f rfl (by have O:=K.1; have G:=K.2; simp at G ⊢; omega) (by kernel_rfl) rfl fun u x f H=>⟨fun e=>absurd e (by decide),?_⟩
  obtain ⟨u,x,y,z,A,B,C,D,F,I⟩:=nine (vs:=[v1,v2,v3,v4,v5,v6,v7,v8,v9].set (Int.toNat x1) (sL l p m)) (by simp)
  rw [I] at f
  have l:[u,x,y,z,A,B,C,D,F][Int.toNat x1]? =some (sL l p m):=by rw [← I]; exact List.getElem?_set_self (by have O:=K.1; have G:=K.2; simp at G ⊢; omega)
  have l:=f
  refine p_qP 1 [] [(35,sL g t o),(42, .pointer (some ((⟨b_x0,10,none⟩:Addr).add (Int.toNat x1 * 1))))] [.prop (0≤x1∧x1<(9:Nat))] H (by kernel_rfl) (fun _=>(.prop M .nil)) fun m f=>p_storeA (i:=33) (j:=7) (b:=b_x0) (ix:=x1) (pre:=[sL e1 x0.lots q1,u,x,y,z,A,B,C,D,F]) (vs:=[P,Q,R,S,U,V,W,X,Y]) (post:=[]) (v:=sL g t o) l f rfl (by have O:=M.1; have G:=M.2; simp at G ⊢; omega) (by kernel_rfl) rfl fun l m f D=>⟨fun e=>absurd e (by decide),?_⟩
  obtain ⟨l,m,p,u,x,y,z,A,B,C⟩:=nine (vs:=[P,Q,R,S,U,V,W,X,Y].set (Int.toNat x1) (sL g t o)) (by simp)
  rw [C] at f
  have g:[l,m,p,u,x,y,z,A,B][Int.toNat x1]? =some (sL g t o):=by rw [← C]; exact List.getElem?_set_self (by have O:=M.1; have G:=M.2; simp at G ⊢; omega)
  have g:=f
  refine c_done ?_
  intro f
  refine k_done' (by kernel_rfl) (by kernel_rfl) ?_
  have f:=g.ownClose (j:=4) (k:=3) rfl rfl (by decide) (List.getElem?_eq_some_iff.1 (getI_spec a2).2).1
  rw [I] at f
  have f:=f.ownClose (j:=5) (k:=2) rfl rfl (by decide) (List.getElem?_eq_some_iff.1 (getI_spec a3).2).1
  rw [C] at f
  have f:=f.plClose (i:=7) (j:=4) (k:=5) rfl a6 rfl rfl (by decide) (by decide) (by decide)
  refine c_fall [] (.tuple #[]) D .nil ?_
  obtain rfl:=some_eq q
  exact ⟨_,rfl,h,zr,rfl,(St.pick 8 [7] f (by kernel_rfl))⟩
 have q:=cond_f a7 hr
 refine c_skip (c_fall [] (.tuple #[]) a8 .nil ?_)
 obtain rfl:=some_eq q
 exact ⟨_,rfl,h,zr,rfl,(St.pick 2 [1] a9 (by kernel_rfl))⟩
def F117_j3 (k1:(List Part)→Int→Int→Option (List Part)) (x0:List Part) (x1:List Part) (y1:List Part) (y2:Int) (y3:Int) (y4:Bool):Option (List Part) :=
  (cond y4 ((getI x1 y3).bind fun p1=>((appC y1 ([⟨p1.lot,p1.mass⟩])).bind fun d1=>(k1 d1 y2 (w64 (y3 + (1:Int)))))) ((getI x0 y2).bind fun p2=>((getI x0 y2).bind fun p3=>((getI x1 y3).bind fun p4=>((appC y1 ([⟨p2.lot,(w64 (p3.mass + p4.mass))⟩])).bind fun d2=>(k1 d2 (w64 (y2 + (1:Int))) (w64 (y3 + (1:Int)))))))))
def F117_j2 (k1:(List Part)→Int→Int→Option (List Part)) (x0:List Part) (x1:List Part) (y1:List Part) (y2:Int) (y3:Int) (y5:Bool):Option (List Part) :=
  (cond y5 ((getI x0 y2).bind fun p5=>((appC y1 ([⟨p5.lot,p5.mass⟩])).bind fun d3=>(k1 d3 (w64 (y2 + (1:Int))) y3))) (cond (y2 == (x0.length:Int)) (F117_j3 k1 x0 x1 y1 y2 y3 true) ((getI x1 y3).bind fun p6=>((getI x0 y2).bind fun p7=>(F117_j3 k1 x0 x1 y1 y2 y3 (decide (p6.lot<p7.lot)))))))
def F117_j1 (k1:(List Part)→Int→Int→Option (List Part)) (x0:List Part) (x1:List Part) (y1:List Part) (y2:Int) (y3:Int) (y6:Bool):Option (List Part) :=
  (cond y6 (cond (y3 == (x1.length:Int)) (F117_j2 k1 x0 x1 y1 y2 y3 true) (cond (decide (y2<(x0.length:Int))) ((getI x0 y2).bind fun p8=>((getI x1 y3).bind fun p9=>(F117_j2 k1 x0 x1 y1 y2 y3 (decide (p8.lot<p9.lot))))) (F117_j2 k1 x0 x1 y1 y2 y3 false))) (some (y1)))
def F117_l1 (x0:List Part) (x1:List Part):Nat→(List Part)→Int→Int→Option (List Part)
  | 0,_,_,_=>none
  | n1 + 1,y1,y2,y3 =>
    let k1:(List Part)→Int→Int→Option (List Part):=F117_l1 x0 x1 n1
    (cond (decide (y2<(x0.length:Int))) (F117_j1 k1 x0 x1 y1 y2 y3 true) (F117_j1 k1 x0 x1 y1 y2 y3 (decide (y3<(x1.length:Int)))))
def F117 (fuel:Nat) (x0:List Part) (x1:List Part):Option (List Part) :=
  (F117_l1 x0 x1 fuel ([]) 0 0)
set_option maxRecDepth 100000 in
theorem f117_ok (fuel:Nat) (x0:List Part) (x1:List Part) (r:List Part) (hr:F117 fuel x0 x1=some r) (h:Zone) (L:List Atom) (w:World) (hS:St h L w) (o_x0:Option Addr) (c_x0:Nat) (hx_x0:SliceR PartT h o_x0 c_x0 x0) (o_x1:Option Addr) (c_x1:Nat) (hx_x1:SliceR PartT h o_x1 c_x1 x1) :
    Calls Tryz.prog 117 #[.agg #[.slice o_x0 x0.length c_x0], .agg #[.slice o_x1 x1.length c_x1]] w fun e w'=>∃v,e= .returned v∧(∃h',∃o0:Option Addr,∃c0:Nat,Zone.le h h'∧v= .agg #[.slice o0 r.length c0]∧St h' L w'∧SliceR PartT h' o0 c0 r):=by
 refine calls_intro (N:=123) Tryz.func117 (by kernel_rfl) fun a hf=>c_sr (c_box [sL o_x0 x0 c_x0] 49 hS hf fun Y y z f g=>tv (c_box [sL o_x1 x1 c_x1] 49 f g fun Z A B k l=>tv (c_box [N0] 49 k l fun b3 C D m o=>tv (c_dt (c_sr (c_box [N0] 49 m o fun V F G q p=>tv (c_dt (c_sq [] [2,3,4,5,6,7] p .nil fun H t=>(c_seq (c_block 0 ?_))))))))))
 have f:=q.ownNil PartT 53
 refine c_loop (fun n a w=>∃k:Zone,∃K:List Part,∃M:Int,∃O:Int,∃Q:Option Addr,∃R:Nat,Zone.le h k∧Fr a 123 [(2,pB Y 0),(3,pB Z 0),(4,pB b3 0),(5,pB V 0),(6,vI M),(7,vI O)]∧St k (ownS PartT 53 Q R K::box V [sL Q K R] 49::box b3 [N0] 49::box Z [sL o_x1 x1 c_x1] 49::box Y [sL o_x0 x0 c_x0] 49::L) w∧(F117_l1 x0 x1 n K M O)=some r) fuel ⟨h,[],0,0,none,0,zr,t.to,f,hr⟩ ?_
 rintro f g l ⟨k,K,M,O,Q,R,W,o,p,I⟩
 cases f with
 | zero=>cases I
 | succ n1 =>
 refine c_seq (c_mid (fun a w=>∃F:Zone,∃m:Bool,Zone.le k F∧Fr a 123 [(2,pB Y 0),(3,pB Z 0),(4,pB b3 0),(5,pB V 0),(6,vI M),(7,vI O),(19, .bool m)]∧St F (ownS PartT 53 Q R K::box V [sL Q K R] 49::box b3 [N0] 49::box Z [sL o_x1 x1 c_x1] 49::box Y [sL o_x0 x0 c_x0] 49::L) w∧(F117_j1 (F117_l1 x0 x1 n1) x0 x1 K M O m)=some r) ?_ ?_)
 ·skip
  refine c_reg (c_n 6 [sL o_x0 x0 c_x0] [2,3,4,5,6,7,13] o (.cell (p.bx 4 0 rfl rfl) .nil) fun f o=>?_)
  rcases bft (decide (M<(x0.length:Int))) with f | f
  ·have u:=cond_t f I
   have g:=o.lit 13 f
   refine c_t [] [2,3,4,5,6,7,19] g .nil fun l g=>⟨k,true,zr,g.to,p,u⟩
  have u:=cond_f f I
  have f:=o.lit 13 f
  refine c_t [sL o_x1 x1 c_x1] [2,3,4,5,6,7,19] f (.cell (p.bx 3 0 rfl rfl) .nil) fun g f=>⟨k,(decide (O<(x1.length:Int))),zr,f.to,p,u⟩
 rintro f g ⟨F,m,S,a1,a2,a3⟩
 refine c_if m a1 (fun a0=>?_) (fun a0=>?_)
 ·have I:=cond_t a0 a3
  refine c_skip (n_then (c_block 1 (c_block 2 (c_mid (fun a w=>∃H:Zone,∃G:Bool,Zone.le F H∧Fr a 123 [(2,pB Y 0),(3,pB Z 0),(4,pB b3 0),(5,pB V 0),(6,vI M),(7,vI O),(49, .bool G)]∧St H (ownS PartT 53 Q R K::box V [sL Q K R] 49::box b3 [N0] 49::box Z [sL o_x1 x1 c_x1] 49::box Y [sL o_x0 x0 c_x0] 49::L) w∧(F117_j2 (F117_l1 x0 x1 n1) x0 x1 K M O G)=some r) ?_ ?_))))
  ·skip
   have p:=a2.drew
   refine c_regD (rD 28 []) [] (fun x=>x=g.drew) rfl (c_E 6 [sL o_x1 x1 c_x1] [2,3,4,5,6,7,55] a1 (.cell (p.bx 3 0 rfl rfl) .nil) .nil fun f l=>?_)
   rcases bft (O == (x1.length:Int)) with f | f
   ·have u:=cond_t f I
    have g:=l.lit 55 f
    refine c_tE [] [2,3,4,5,6,7,49] g .nil .nil fun k g=>⟨F,true,zr,g.to,p,u⟩
   have I:=cond_f f I
   have f:=l.lit 55 f
   refine c_E 6 [sL o_x0 x0 c_x0] [2,3,4,5,6,7,55,61] f (.cell (p.bx 4 0 rfl rfl) .nil) .nil fun f D=>?_
   rcases bft (decide (M<(x0.length:Int))) with o | o
   ·have u:=cond_t o I
    have C:=D.lit 61 o
    obtain ⟨q,f,u⟩:=bind_some u
    obtain ⟨t,y,z,f,rfl,A⟩:=SliceR.getI (SliceR.mono (zt W S) hx_x0) f
    obtain ⟨f,g,u⟩:=bind_some u
    obtain ⟨g,k,l,B,rfl,m⟩:=SliceR.getI (SliceR.mono (zt W S) hx_x1) g
    refine c_tE [sL o_x0 x0 c_x0, .pointer (some t),vI q.lot,sL o_x1 x1 c_x1, .pointer (some g),vI f.lot] [2,3,4,5,6,7,49] C (.cell (p.bx 4 0 rfl rfl) (.prop y (.prop z (.cell (p.cell (A 0 _ rfl)) (.cell (p.bx 3 0 rfl rfl) (.prop k (.prop l (.cell (p.cell (m 0 _ rfl)) .nil)))))))) .nil fun k g=>⟨F,(decide (q.lot<f.lot)),zr,g.to,p,u⟩
   have u:=cond_f o I
   have f:=D.lit 61 o
   refine c_tE [] [2,3,4,5,6,7,49] f .nil .nil fun g f=>⟨F,false,zr,f.to,p,u⟩
  rintro f A ⟨H,G,P,y,z,I⟩
  refine c_if G y (fun t=>?_) (fun t=>?_)
  ·have u:=cond_t t I
   refine c_seq ?_
   have p:=z.drew
   have o:=Sub.of zr p
   refine c_regD (rD 11 [7,8,10]) [8,10] _ o ?_
   obtain ⟨f,g,u⟩:=bind_some u
   obtain ⟨k,l,m,q,rfl,g⟩:=SliceR.getI (SliceR.mono (zt (zt W S) P) hx_x0) g
   refine c_S 7 [sL Q K R,sL o_x0 x0 c_x0, .pointer (some k),vI f.lot,vI f.mass] [2,3,4,5,6,7,78,83] o y (fun _ s=>(.cell (s.bx 1 0 rfl rfl) (.cell (s.bx 4 0 rfl rfl) (.prop l (.prop m (.cell (s.cell (g 0 _ rfl)) (.cell (s.cell (g 1 _ rfl)) .nil))))))) .nil fun k g=>p_box (i:=7) (d:=(some 84)) (cs:=[vI f.lot,vI f.mass]) (T:=53) (v:=fun k=> .slice (some ⟨k,0,none⟩) 1 1) p g (fun b=>by kernel_rfl) fun k l m g o=>⟨fun _=>Sub.of zr (St.drop 1 g),?_⟩
   have g:=g.ownBox (T:=PartT) (E:=53) (n:=1) (xs:=[⟨f.lot,f.mass⟩]) (i:=0) rfl (Rows.cons (c:=[vI f.lot,vI f.mass]) rfl rfl) rfl (by decide)
   have l:=Sub.of zr (St.drop 1 g)
   obtain ⟨l,m,u⟩:=bind_some u
   refine p_append (T:=PartT) (i:=8) (j:=1) (d:=some 85) (o2:=(some ⟨k,0,none⟩)) (c2:=1) (ys:=([⟨f.lot,f.mass⟩])) el47 g o rfl (by kernel_rfl) (g.ownSrc (j:=0) rfl) m fun f g o p m k=>⟨fun e=>absurd e (by decide),?_⟩
   refine p_qP 1 [] [(2,pB Y 0),(3,pB Z 0),(4,pB b3 0),(5,pB V 0),(6,vI M),(7,vI O),(85,sL f l g),(86,pB V 0)] [] k (by kernel_rfl) (fun _=> .nil) fun o k=>c_st 2 [sL f l g] m k rfl fun o p m k=>⟨fun e=>absurd e (by decide),?_⟩
   refine c_dt (c_q [] [2,3,4,5,6,7] k .nil fun o k=>(n_block (n_block (n_then (⟨n1,Nat.lt_succ_self n1,H,l,(w64 (M + (1:Int))),O,f,g,(zt (zt W S) P),k.to,(St.drop 1 m),u⟩)))))
  have I:=cond_f t I
  refine c_mid (fun a w=>∃X:Zone,∃C:Bool,Zone.le H X∧Fr a 123 [(2,pB Y 0),(3,pB Z 0),(4,pB b3 0),(5,pB V 0),(6,vI M),(7,vI O),(89, .bool C)]∧St X (ownS PartT 53 Q R K::box V [sL Q K R] 49::box b3 [N0] 49::box Z [sL o_x1 x1 c_x1] 49::box Y [sL o_x0 x0 c_x0] 49::L) w∧(F117_j3 (F117_l1 x0 x1 n1) x0 x1 K M O C)=some r) ?_ ?_
  ·skip
   have o:=z.drew
   refine c_regD (rD 21 []) [] (fun x=>x=A.drew) rfl (c_E 6 [sL o_x0 x0 c_x0] [2,3,4,5,6,7,95] y (.cell (o.bx 4 0 rfl rfl) .nil) .nil fun f l=>?_)
   rcases bft (M == (x0.length:Int)) with f | f
   ·have u:=cond_t f I
    have g:=l.lit 95 f
    refine c_tE [] [2,3,4,5,6,7,89] g .nil .nil fun k g=>⟨H,true,zr,g.to,o,u⟩
   have u:=cond_f f I
   have B:=l.lit 95 f
   obtain ⟨p,f,u⟩:=bind_some u
   obtain ⟨q,t,y,f,rfl,z⟩:=SliceR.getI (SliceR.mono (zt (zt W S) P) hx_x1) f
   obtain ⟨f,g,u⟩:=bind_some u
   obtain ⟨g,k,l,A,rfl,m⟩:=SliceR.getI (SliceR.mono (zt (zt W S) P) hx_x0) g
   refine c_tE [sL o_x1 x1 c_x1, .pointer (some q),vI p.lot,sL o_x0 x0 c_x0, .pointer (some g),vI f.lot] [2,3,4,5,6,7,89] B (.cell (o.bx 3 0 rfl rfl) (.prop t (.prop y (.cell (o.cell (z 0 _ rfl)) (.cell (o.bx 4 0 rfl rfl) (.prop k (.prop l (.cell (o.cell (m 0 _ rfl)) .nil)))))))) .nil fun k g=>⟨H,(decide (p.lot<f.lot)),zr,g.to,o,u⟩
  rintro f g ⟨X,C,J,U,y,I⟩
  refine c_if C U (fun t=>?_) (fun t=>?_)
  ·have u:=cond_t t I
   refine c_seq ?_
   have p:=y.drew
   have o:=Sub.of zr p
   refine c_regD (rD 11 [7,8,10]) [8,10] _ o ?_
   obtain ⟨f,g,u⟩:=bind_some u
   obtain ⟨k,l,m,q,rfl,g⟩:=SliceR.getI (SliceR.mono (zt (zt (zt W S) P) J) hx_x1) g
   refine c_S 7 [sL Q K R,sL o_x1 x1 c_x1, .pointer (some k),vI f.lot,vI f.mass] [2,3,4,5,6,7,111,116] o U (fun _ s=>(.cell (s.bx 1 0 rfl rfl) (.cell (s.bx 3 0 rfl rfl) (.prop l (.prop m (.cell (s.cell (g 0 _ rfl)) (.cell (s.cell (g 1 _ rfl)) .nil))))))) .nil fun k g=>p_box (i:=7) (d:=(some 117)) (cs:=[vI f.lot,vI f.mass]) (T:=53) (v:=fun k=> .slice (some ⟨k,0,none⟩) 1 1) p g (fun b=>by kernel_rfl) fun k l m g o=>⟨fun _=>Sub.of zr (St.drop 1 g),?_⟩
   have g:=g.ownBox (T:=PartT) (E:=53) (n:=1) (xs:=[⟨f.lot,f.mass⟩]) (i:=0) rfl (Rows.cons (c:=[vI f.lot,vI f.mass]) rfl rfl) rfl (by decide)
   have l:=Sub.of zr (St.drop 1 g)
   obtain ⟨l,m,u⟩:=bind_some u
   refine p_append (T:=PartT) (i:=8) (j:=1) (d:=some 118) (o2:=(some ⟨k,0,none⟩)) (c2:=1) (ys:=([⟨f.lot,f.mass⟩])) el47 g o rfl (by kernel_rfl) (g.ownSrc (j:=0) rfl) m fun f g o p m k=>⟨fun e=>absurd e (by decide),?_⟩
   refine p_qP 1 [] [(2,pB Y 0),(3,pB Z 0),(4,pB b3 0),(5,pB V 0),(6,vI M),(7,vI O),(118,sL f l g),(119,pB V 0)] [] k (by kernel_rfl) (fun _=> .nil) fun o k=>c_st 2 [sL f l g] m k rfl fun o p m k=>⟨fun e=>absurd e (by decide),?_⟩
   refine c_dt (c_q [] [2,3,4,5,6,7] k .nil fun o k=>(n_block (n_block (n_then (⟨n1,Nat.lt_succ_self n1,X,l,M,(w64 (O + (1:Int))),f,g,(zt (zt (zt W S) P) J),k.to,(St.drop 1 m),u⟩)))))
  have u:=cond_f t I
  refine c_seq ?_
  have H:=y.drew
  have B:=Sub.of zr H
  refine c_regD (rD 26 [22,23,25]) [23,25] _ B ?_
  obtain ⟨p,f,u⟩:=bind_some u
  obtain ⟨C,D,F,f,rfl,G⟩:=SliceR.getI (SliceR.mono (zt (zt (zt W S) P) J) hx_x0) f
  obtain ⟨l,f,u⟩:=bind_some u
  obtain ⟨q,t,y,f,rfl,z⟩:=SliceR.getI (SliceR.mono (zt (zt (zt W S) P) J) hx_x0) f
  obtain ⟨g,f,u⟩:=bind_some u
  obtain ⟨f,k,m,A,rfl,o⟩:=SliceR.getI (SliceR.mono (zt (zt (zt W S) P) J) hx_x1) f
  refine c_S 22 [sL Q K R,sL o_x0 x0 c_x0, .pointer (some C),vI p.lot,sL o_x0 x0 c_x0, .pointer (some q),vI l.mass,sL o_x1 x1 c_x1, .pointer (some f),vI g.mass] [2,3,4,5,6,7,21,41] B U (fun _ s=>(.cell (s.bx 1 0 rfl rfl) (.cell (s.bx 4 0 rfl rfl) (.prop D (.prop F (.cell (s.cell (G 0 _ rfl)) (.cell (s.bx 4 0 rfl rfl) (.prop t (.prop y (.cell (s.cell (z 1 _ rfl)) (.cell (s.bx 3 0 rfl rfl) (.prop k (.prop m (.cell (s.cell (o 1 _ rfl)) .nil)))))))))))))) .nil fun k f=>p_box (i:=22) (d:=(some 42)) (cs:=[vI p.lot,vI (w64 (l.mass + g.mass))]) (T:=53) (v:=fun k=> .slice (some ⟨k,0,none⟩) 1 1) H f (fun b=>by kernel_rfl) fun k m o f q=>⟨fun _=>Sub.of zr (St.drop 1 f),?_⟩
  have f:=f.ownBox (T:=PartT) (E:=53) (n:=1) (xs:=[⟨p.lot,(w64 (l.mass + g.mass))⟩]) (i:=0) rfl (Rows.cons (c:=[vI p.lot,vI (w64 (l.mass + g.mass))]) rfl rfl) rfl (by decide)
  have m:=Sub.of zr (St.drop 1 f)
  obtain ⟨m,o,u⟩:=bind_some u
  refine p_append (T:=PartT) (i:=23) (j:=1) (d:=some 43) (o2:=(some ⟨k,0,none⟩)) (c2:=1) (ys:=([⟨p.lot,(w64 (l.mass + g.mass))⟩])) el47 f q rfl (by kernel_rfl) (f.ownSrc (j:=0) rfl) o fun f g o p l k=>⟨fun e=>absurd e (by decide),?_⟩
  refine p_qP 1 [] [(2,pB Y 0),(3,pB Z 0),(4,pB b3 0),(5,pB V 0),(6,vI M),(7,vI O),(43,sL f m g),(44,pB V 0)] [] k (by kernel_rfl) (fun _=> .nil) fun o k=>c_st 2 [sL f m g] l k rfl fun o p l k=>⟨fun e=>absurd e (by decide),?_⟩
  refine c_dt (c_q [] [2,3,4,5,6,7] k .nil fun o k=>(n_block (n_block (n_then (⟨n1,Nat.lt_succ_self n1,X,m,(w64 (M + (1:Int))),(w64 (O + (1:Int))),f,g,(zt (zt (zt W S) P) J),k.to,(St.drop 1 l),u⟩)))))
 have u:=cond_f a0 a3
 refine c_exit 0 (x_then (x_then (x_block (n_then (c_sr (c_n 1 [sL Q K R] [4,122] a1 (.cell (a2.bx 1 0 rfl rfl) .nil) fun l f=>(c_st 2 [sL Q K R] a2 f rfl fun m o g k=>tv (c_dt (c_ret ?_)))))))))
 obtain ⟨g,l,f,m⟩:=g.share (j:=0) rfl
 refine c_rt [sL Q K R] (.agg #[sL Q K R]) k (.cell (f.bx 2 0 rfl rfl) .nil) ?_
 obtain rfl:=some_eq u
 exact ⟨_,rfl,g,Q,R,(zt (zt W S) l),rfl,(St.drop 5 f),m⟩
def F111_l1 (x0p:List Part) (x0y:List (Int×Bool)) (x1p:List Part) (x1y:List (Int×Bool)) (r1:List Part):Nat→(List (Int×Bool))→Int→Option (List Part×List (Int×Bool))
  | 0,_,_=>none
  | n1 + 1,y1,y2 =>
    let k1:(List (Int×Bool))→Int→Option (List Part×List (Int×Bool)):=F111_l1 x0p x0y x1p x1y r1 n1
    (cond (decide (y2<(2:Int))) ((getI ([(⟨x0p,x0y⟩:Bag),(⟨x1p,x1y⟩:Bag)]) y2).bind fun p1=>(k1 (uniK y1 p1.may) (w64 (y2 + (1:Int))))) (some (r1,y1)))
def F111 (fuel:Nat) (x0p:List Part) (x0y:List (Int×Bool)) (x1p:List Part) (x1y:List (Int×Bool)):Option (List Part×List (Int×Bool)) :=
  ((F117 fuel x0p x1p).bind fun r1=>(F111_l1 x0p x0y x1p x1y r1 fuel ([]) 0))
set_option maxRecDepth 100000 in
theorem f111_ok (fuel:Nat) (x0p:List Part) (x0y:List (Int×Bool)) (x1p:List Part) (x1y:List (Int×Bool)) (r:List Part×List (Int×Bool)) (hr:F111 fuel x0p x0y x1p x1y=some r) (h:Zone) (L:List Atom) (w:World) (hS:St h L w) (o_x0p:Option Addr) (c_x0p:Nat) (hx_x0p:SliceR PartT h o_x0p c_x0p x0p) (o_x0y:Option Nat) (hx_x0y:MapR Value.bool h o_x0y x0y) (o_x1p:Option Addr) (c_x1p:Nat) (hx_x1p:SliceR PartT h o_x1p c_x1p x1p) (o_x1y:Option Nat) (hx_x1y:MapR Value.bool h o_x1y x1y) :
    Calls Tryz.prog 111 #[.agg #[.slice o_x0p x0p.length c_x0p, .map o_x0y], .agg #[.slice o_x1p x1p.length c_x1p, .map o_x1y]] w fun e w'=>∃v,e= .returned v∧(∃h',∃o0:Option Addr,∃c0:Nat,∃o1:Option Nat,Zone.le h h'∧v= .agg #[.slice o0 r.1.length c0, .map o1]∧St h' L w'∧SliceR PartT h' o0 c0 r.1∧MapR Value.bool h' o1 r.2):=by
 refine calls_intro (N:=36) Tryz.func111 (by kernel_rfl) fun a hf=>c_sr (c_box [sL o_x0p x0p c_x0p, .map o_x0y] 103 hS hf fun b1 y z g l=>tv (c_box [sL o_x1p x1p c_x1p, .map o_x1y] 103 g l fun b2 A B m p=>tv (c_box [N0, .map none] 103 m p fun S C D f q=>tv (c_dt (c_sr (c_n 4 [sL o_x0p x0p c_x0p,sL o_x1p x1p c_x1p] [2,3,4,10,12] q (.cell (f.bx 2 0 rfl rfl) (.cell (f.bx 1 0 rfl rfl) .nil)) fun F s=>?_))))))
 obtain ⟨M,g,u⟩:=bind_some hr
 refine c_call s (f117_ok fuel x0p x1p M g h _ _ f o_x0p c_x0p hx_x0p o_x1p c_x1p hx_x1p) ?_
 rintro l m p ⟨s,P,Q,W,rfl,f,a0⟩ g
 refine tv (p_makeMap (i:=5) (d:=(some 14)) Value.bool f g (fun b=>by kernel_rfl) fun H l m g f=>tv (c_n 1 [] [2,3,4,15] f .nil fun l f=>c_box [N0, .map none] 103 g f fun O l m f g=>tv (c_st 0 [sL P M Q, .map (some H)] f g rfl fun l m f g=>tv (c_dt (c_seq (c_sr (c_n 2 [sL o_x0p x0p c_x0p, .map o_x0y,sL o_x1p x1p c_x1p, .map o_x1y] [4,5,16,17] g (.cell (f.bx 4 0 rfl rfl) (.cell (f.bx 4 1 rfl rfl) (.cell (f.bx 3 0 rfl rfl) (.cell (f.bx 3 1 rfl rfl) .nil)))) fun m g=>(p_box (i:=2) (d:=(some 18)) (cs:=[sL o_x0p x0p c_x0p, .map o_x0y,sL o_x1p x1p c_x1p, .map o_x1y]) (T:=103) (v:=fun D=> .slice (some ⟨D,0,none⟩) 2 2) f g (fun b=>by kernel_rfl) fun D p q f l=>tv ?_))))))))
 have g:=f.ownBox (T:=BagT) (E:=103) (n:=2) (xs:=[(⟨x0p,x0y⟩:Bag),(⟨x1p,x1y⟩:Bag)]) (i:=0) rfl (Rows.cons (c:=[sL o_x0p x0p c_x0p, .map o_x0y]) (bagRep (x:=⟨x0p,x0y⟩) ((SliceR.mono W hx_x0p)) (MapR.mono W hx_x0y)) (Rows.cons (c:=[sL o_x1p x1p c_x1p, .map o_x1y]) (bagRep (x:=⟨x1p,x1y⟩) ((SliceR.mono W hx_x1p)) (MapR.mono W hx_x1y)) rfl)) rfl (by decide)
 refine c_t [] [4,5,18,19,20] l .nil fun l f=>c_block 0 (c_loop (fun n a w=>∃K:Zone,∃I:List (Int×Bool),∃J:Int,Zone.le s K∧Fr a 36 [(4,pB S 0),(5,pB O 0),(18, .slice (some ⟨D,0,none⟩) ([(⟨x0p,x0y⟩:Bag),(⟨x1p,x1y⟩:Bag)].length) 2),(19,vI 2),(20,vI J)]∧St K (ownS BagT 103 (some ⟨D,0,none⟩) 2 ([(⟨x0p,x0y⟩:Bag),(⟨x1p,x1y⟩:Bag)])::box O [sL P M Q, .map (some H)] 103::mapA Value.bool H I::box S [N0, .map none] 103::box b2 [sL o_x1p x1p c_x1p, .map o_x1y] 103::box b1 [sL o_x0p x0p c_x0p, .map o_x0y] 103::L) w∧(F111_l1 x0p x0y x1p x1y M n I J)=some r) fuel ⟨s,[],0,zr,f.to,g,u⟩ ?_)
 rintro f g l ⟨K,I,J,Z,m,R,Y⟩
 cases f with
 | zero=>cases Y
 | succ X =>
 refine c_sq [] [4,5,18,19,20,21] m .nil fun f V=>c_seq (c_if (decide (J<(2:Int))) V (fun U=>?_) (fun U=>?_))
 ·have u:=cond_t U Y
  refine c_skip (n_then (c_seq (c_block 1 (c_sr ?_))))
  obtain ⟨z,f,u⟩:=bind_some u
  obtain ⟨l,m,p,q,g,f⟩:=R.ownGet (j:=0) rfl f
  obtain ⟨q,s,g,rfl,y,B⟩:=g
  refine c_n 2 [.pointer (some l),sL q z.parts s, .map g] [4,5,18,19,20,23] V (.prop m (.prop p (.cell (f 0 _ rfl) (.cell (f 1 _ rfl) .nil)))) fun l f=>c_box [N0, .map none] 103 R f fun G m p f l=>tv (c_st 0 [sL q z.parts s, .map g] f l rfl fun m p f l=>tv (c_dt (c_sr (c_n 2 [.map g] [4,5,18,19,20,25] l (.cell (f.bx 0 1 rfl rfl) .nil) fun A l=>(p_range (i:=2) (d:=(some 26)) (t:=101) (o:=g) f l (by kernel_rfl) mp101 B fun F B C m f p y=>tv (c_dt (c_block 2 ?_)))))))
  have hU2182:=uniK_same (p.mapRise (j:=4) rfl) f
  refine c_loop (fun n a w=>∃f l,f.length=n∧uniK l f=(uniK I z.may)∧Fr a 36 [(4,pB S 0),(5,pB O 0),(18, .slice (some ⟨D,0,none⟩) ([(⟨x0p,x0y⟩:Bag),(⟨x1p,x1y⟩:Bag)].length) 2),(19,vI 2),(20,vI J),(26,pB F 0)]∧St K (iterA Value.bool F f::box G [sL q z.parts s, .map g] 103::ownS BagT 103 (some ⟨D,0,none⟩) 2 ([(⟨x0p,x0y⟩:Bag),(⟨x1p,x1y⟩:Bag)])::box O [sL P M Q, .map (some H)] 103::mapA Value.bool H l::box S [N0, .map none] 103::box b2 [sL o_x1p x1p c_x1p, .map o_x1y] 103::box b1 [sL o_x0p x0p c_x0p, .map o_x0y] 103::L) w) m.length ⟨m,_,rfl,hU2182,y.to,p⟩ ?_
  rintro g m p ⟨f,l,q,D,f,B⟩
  refine c_sr (p_next (i:=0) (j:=0) (d:=(some 27)) (b:=F) B f (by kernel_rfl) rfl (fun g f m=>tv ?_) (fun G p C q f O s A m=>tv ?_))
  ·skip
   subst g
   obtain rfl:=(show l=(uniK I z.may) from D)
   have g:=B.dropAt (i:=0) rfl
   refine c_t [] [4,5,18,19,20,26,28] m .nil fun l f=>c_seq (w_if_false f (by kernel_rfl) (c_exit 2 (x_then (x_then (x_block (n_block (n_then (c_q [] [4,5,18,19,20] f .nil fun l f=>(n_then (⟨X,Nat.lt_succ_self X,K,(uniK I z.may),(w64 (J + (1:Int))),Z,f.to,(St.drop 2 g),u⟩))))))))))
  skip
  refine c_t [] [4,5,18,19,20,26,28] m .nil fun g f=>c_seq (w_if_true f (by kernel_rfl) (c_skip (n_then (c_block 3 (c_sr (p_entry (i:=0) (j:=0) (d:=(some 29)) (b:=F) A f (by kernel_rfl) rfl fun q f=>tv (c_t [] [4,5,8,18,19,20,26] f .nil fun s g=>(c_reg (c_n 3 [.map (some H)] [4,5,18,19,20,26,32,33] g (.cell (A.bx 3 1 rfl rfl) .nil) fun y l=>(p_put (i:=3) (j:=4) (t:=101) (r:=H) (k:=G) (v:=true) A l rfl (by kernel_rfl) mp101 fun z A m p=>tv (c_done (n_block (n_then ?_)))))))))))))
  have f:=(m).conv (i:=0) rfl iterE_A
  exact ⟨C.length,by omega,C,_,rfl,(uniK_step (B.mapRise (j:=4) rfl) O).symm.trans D,p.to,f⟩
 have u:=cond_f U Y
 refine c_exit 0 (x_then (x_then (x_block (n_then (c_sr (c_n 1 [sL P M Q, .map (some H)] [4,35] V (.cell (R.bx 1 0 rfl rfl) (.cell (R.bx 1 1 rfl rfl) .nil)) fun m f=>(c_st 3 [sL P M Q, .map (some H)] R f rfl fun p q g l=>tv (c_dt (c_ret ?_)))))))))
 obtain ⟨m,g,f,p⟩:=g.mapShare (j:=2) rfl
 refine c_rt [sL P M Q, .map (some H)] (.agg #[sL P M Q, .map (some H)]) l (.cell (f.bx 3 0 rfl rfl) (.cell (f.bx 3 1 rfl rfl) .nil)) ?_
 obtain rfl:=some_eq u
 exact ⟨_,rfl,m,P,Q,(some H),(zt (zt W Z) g),rfl,(St.drop 6 f),(SliceR.mono (zt Z g) a0),p⟩
def F112 (fuel:Nat) (x0:Pl) (x1:Int):Option (List Part×List (Int×Bool)×Pl) :=
  ((getI x0.holds x1).bind fun p1=>(cond (decide ((w64 ((p1.length:Int) - (1:Int)))<(0:Int))) (some ([],[],x0)) ((getI x0.holds x1).bind fun p2=>((getI x0.may x1).bind fun p3=>((getI p2 (w64 ((p1.length:Int) - (1:Int)))).bind fun p4=>((getI p3 (w64 ((p1.length:Int) - (1:Int)))).bind fun p5=>(some (p4,p5,x0))))))))
set_option maxRecDepth 100000 in
theorem f112_ok (fuel:Nat) (x0:Pl) (x1:Int) (r:List Part×List (Int×Bool)×Pl) (hr:F112 fuel x0 x1=some r) (h:Zone) (L:List Atom) (w:World) (b_x0:Nat) (hS:St h (plA 69 49 101 b_x0 x0::L) w)  :
    Calls Tryz.prog 112 #[pB b_x0 0,vI x1] w fun e w'=>∃v,e= .returned v∧(∃h',∃o0:Option Addr,∃c0:Nat,∃o1:Option Nat,Zone.le h h'∧v= .agg #[.slice o0 r.1.length c0, .map o1]∧St h' (plA 69 49 101 b_x0 r.2.2::L) w'∧SliceR PartT h' o0 c0 r.1∧MapR Value.bool h' o1 r.2.1):=by
 refine calls_intro (N:=38) Tryz.func112 (by kernel_rfl) fun a hf=>c_sr (c_box [N0, .map none] 103 hS hf fun c R d b G=>tv (c_dt ?_))
 obtain ⟨o,p,c,d,f,g,l,n,q,s,t,u,y,z,A,B,C,D,E,F,H,b⟩:=b.plOpen (i:=1) rfl
 obtain ⟨n,d,I⟩:=bind_some hr
 obtain ⟨f,g,b,l,c⟩:=b.ownOpen (j:=0) rfl d
 refine c_seq (c_q [sL f n g] [0,1,4,5] G (.prop l (.cell ((arrAddr b_x0 1 (Int.toNat x1)) ▸ (c.box (i:=4) rfl (getElem?_app_right [sL o x0.lots p] _ _ b [u,y,z,A,B,C,D,E,F]))) .nil)) fun f g=>?_)
 have b:=c.ownClose' (j:=1) (k:=0) rfl rfl (by decide) b (getI_spec d).2
 have o:=b.plClose (i:=4) (j:=1) (k:=2) rfl H rfl rfl (by decide) (by decide) (by decide)
 refine n_then (c_seq (c_sq [] [0,1,4,5,16] g .nil fun b E=>(c_if (decide ((w64 ((n.length:Int) - (1:Int)))<(0:Int))) E (fun f=>?_) (fun f=>?_))))
 ·have m:=cond_t f I
  refine c_sr (c_n 1 [] [4,17] E .nil fun g c=>(c_st 3 [N0, .map none] o c rfl fun l n b d=>tv (c_dt (c_ret (r_then (c_rt [N0, .map none] (.agg #[N0, .map none]) d (.cell (b.bx 3 0 rfl rfl) (.cell (b.bx 3 1 rfl rfl) .nil)) ?_))))))
  obtain rfl:=some_eq m
  exact ⟨_,rfl,h,none,0,none,zr,rfl,(St.pick 5 [4] b (by kernel_rfl)),SliceR.nil' _ _,(MapR.nil' _ _)⟩
 have m:=cond_f f I
 refine c_skip (n_then (c_seq ?_))
 obtain ⟨z,A,S,T,U,V,W,X,Y,Z,a0,a1,a2,a3,a4,a5,a6,a7,a8,a9,aa,b⟩:=o.plOpen (i:=4) rfl
 obtain ⟨Q,F,m⟩:=bind_some m
 obtain ⟨M,O,C,P,b⟩:=b.ownOpen (j:=0) rfl F
 obtain ⟨K,D,m⟩:=bind_some m
 obtain ⟨G,H,B,J,b⟩:=b.ownOpen (j:=2) rfl D
 have b:=b.drew
 refine c_regD (rD 21 [20]) [20] (fun x=>x=R.drew) rfl ?_
 obtain ⟨p,c,m⟩:=bind_some m
 obtain ⟨s,t,u,d,c,y⟩:=b.ownGet (j:=1) rfl c
 obtain ⟨f,g,rfl,R⟩:=c
 obtain ⟨d,c,m⟩:=bind_some m
 obtain ⟨d,l,n,q,c,o⟩:=b.ownGet (j:=0) rfl c
 obtain ⟨c,rfl,q⟩:=c
 refine c_E 20 [sL M Q O, .pointer (some s),sL f p g,sL G K H, .pointer (some d), .map c] [4,37] E (.prop P (.cell ((arrAddr b_x0 1 (Int.toNat x1)) ▸ (b.box (i:=8) rfl (getElem?_app_right [sL z x0.lots A] _ _ C [a1,a2,a3,a4,a5,a6,a7,a8,a9]))) (.prop t (.prop u (.cell (y 0 _ rfl) (.prop J (.cell ((arrAddr b_x0 10 (Int.toNat x1)) ▸ (b.box (i:=8) rfl (getElem?_app_right [sL z x0.lots A,S,T,U,V,W,X,Y,Z,a0] _ _ B []))) (.prop l (.prop n (.cell (o 0 _ rfl) .nil)))))))))) .nil fun l d=>?_
 refine c_st 7 [sL f p g, .map c] b d rfl fun d l b n=>⟨fun e=>absurd e (by decide),?_⟩
 refine c_done ?_
 have b:=b.ownClose' (j:=2) (k:=1) rfl rfl (by decide) C (getI_spec F).2
 have b:=b.ownClose' (j:=3) (k:=0) rfl rfl (by decide) B (getI_spec D).2
 have b:=b.plClose (i:=8) (j:=2) (k:=3) rfl aa rfl rfl (by decide) (by decide) (by decide)
 refine n_then (c_ret (c_rt [sL f p g, .map c] (.agg #[sL f p g, .map c]) n (.cell (b.bx 7 0 rfl rfl) (.cell (b.bx 7 1 rfl rfl) .nil)) ?_))
 obtain rfl:=some_eq m
 exact ⟨_,rfl,h,f,g,c,zr,rfl,(St.pick 9 [8] b (by kernel_rfl)),R,q⟩
def F113 (fuel:Nat) (x0:Pl) (x1:Int):Option (Pl) :=
  ((getI x0.holds x1).bind fun p1=>(cond (decide ((w64 ((p1.length:Int) - (1:Int)))≥(0:Int))) ((getI x0.holds x1).bind fun p2=>((getI x0.may x1).bind fun p3=>((subI p2 0 (w64 ((p1.length:Int) - (1:Int)))).bind fun d1=>((subI p3 0 (w64 ((p1.length:Int) - (1:Int)))).bind fun d2=>(some ((⟨x0.lots,(x0.holds.set (Int.toNat x1) d1),(x0.may.set (Int.toNat x1) d2)⟩:Pl))))))) (some (x0))))
set_option maxRecDepth 100000 in
theorem f113_ok (fuel:Nat) (x0:Pl) (x1:Int) (r:Pl) (hr:F113 fuel x0 x1=some r) (h:Zone) (L:List Atom) (w:World) (b_x0:Nat) (hS:St h (plA 69 49 101 b_x0 x0::L) w)  :
    Calls Tryz.prog 113 #[pB b_x0 0,vI x1] w fun e w'=>∃v,e= .returned v∧(∃h',Zone.le h h'∧v= .tuple #[]∧St h' (plA 69 49 101 b_x0 r::L) w'):=by
 refine calls_intro (N:=44) Tryz.func113 (by kernel_rfl) fun a hf=>?_
 obtain ⟨p,q,d,f,g,l,m,o,s,t,u,y,z,A,B,C,D,E,F,G,H,c⟩:=hS.plOpen (i:=0) rfl
 obtain ⟨o,f,a5⟩:=bind_some hr
 obtain ⟨g,l,c,m,d⟩:=c.ownOpen (j:=0) rfl f
 refine c_seq (c_q [sL g o l] [0,1,4] hf (.prop m (.cell ((arrAddr b_x0 1 (Int.toNat x1)) ▸ (d.box (i:=3) rfl (getElem?_app_right [sL p x0.lots q] _ _ c [y,z,A,B,C,D,E,F,G]))) .nil)) fun g l=>?_)
 have c:=d.ownClose' (j:=1) (k:=0) rfl rfl (by decide) c (getI_spec f).2
 have a4:=c.plClose (i:=3) (j:=1) (k:=2) rfl H rfl rfl (by decide) (by decide) (by decide)
 refine n_then (c_sq [] [0,1,4,15] l .nil fun c a3=>(c_if (decide ((w64 ((o.length:Int) - (1:Int)))≥(0:Int))) a3 (fun a2=>?_) (fun a2=>?_)))
 ·have n:=cond_t a2 a5
  obtain ⟨O,P,y,z,A,B,C,H,I,J,K,Q,R,S,T,U,V,W,X,Y,a6,c⟩:=a4.plOpen (i:=3) rfl
  obtain ⟨p2,a0,n⟩:=bind_some n
  obtain ⟨p,q,Z,l,c⟩:=c.ownOpen (j:=0) rfl a0
  obtain ⟨M,a1,n⟩:=bind_some n
  obtain ⟨D,E,G,F,c⟩:=c.ownOpen (j:=2) rfl a1
  have s:=c.drew
  refine c_regD [(0,true),(1,true),(2,true),(3,true),(4,true),(5,true),(6,true),(7,true),(8,true),(9,true),(10,true),(11,true),(12,true),(13,true),(14,true),(15,true),(16,true),(17,true),(18,true),(19,true),(20,true),(21,true),(22,true),(23,true),(24,true),(26,true),(27,true),(25,false),(28,true),(29,false)] [25,29] (fun x=>x=w.drew) rfl ?_
  obtain ⟨g,c,n⟩:=bind_some n
  obtain ⟨t,u,c⟩:=s.ownSub (j:=1) rfl c
  obtain ⟨m,d,n⟩:=bind_some n
  obtain ⟨d,f,o⟩:=c.ownSub (j:=0) rfl d
  refine c_E 27 [sL p p2 q,sL p g q,sL D M E,sL D m E] [19,28,36,40,42] a3 (.prop l (.cell ((arrAddr b_x0 1 (Int.toNat x1)) ▸ (s.box (i:=7) rfl (getElem?_app_right [sL O x0.lots P] _ _ Z [Q,R,S,T,U,V,W,X,Y]))) (.prop t (.prop u (.prop F (.cell ((arrAddr b_x0 10 (Int.toNat x1)) ▸ (c.box (i:=7) rfl (getElem?_app_right [sL O x0.lots P,y,z,A,B,C,H,I,J,K] _ _ G []))) (.prop d (.prop f (.prop l .nil))))))))) .nil fun d c=>?_
  refine p_storeA (i:=25) (j:=7) (b:=b_x0) (ix:=x1) (pre:=[sL O x0.lots P]) (vs:=[y,z,A,B,C,H,I,J,K]) (post:=[Q,R,S,T,U,V,W,X,Y]) (v:=sL p g q) o c rfl (by have G:=l.1; have c:=l.2; simp at c ⊢; omega) (by kernel_rfl) rfl fun f o d M=>⟨fun e=>absurd e (by decide),?_⟩
  obtain ⟨o,s,t,u,y,z,A,B,C,H⟩:=nine (vs:=[y,z,A,B,C,H,I,J,K].set (Int.toNat x1) (sL p g q)) (by simp)
  rw [H] at d
  have f:[o,s,t,u,y,z,A,B,C][Int.toNat x1]? =some (sL p g q):=by rw [← H]; exact List.getElem?_set_self (by have G:=l.1; have c:=l.2; simp at c ⊢; omega)
  have f:=d
  refine p_qP 1 [] [(36,sL D m E),(43, .pointer (some ((⟨b_x0,10,none⟩:Addr).add (Int.toNat x1 * 1))))] [.prop (0≤x1∧x1<(9:Nat))] M (by kernel_rfl) (fun _=>(.prop F .nil)) fun g d=>p_storeA (i:=29) (j:=7) (b:=b_x0) (ix:=x1) (pre:=[sL O x0.lots P,o,s,t,u,y,z,A,B,C]) (vs:=[Q,R,S,T,U,V,W,X,Y]) (post:=[]) (v:=sL D m E) f d rfl (by have G:=F.1; have c:=F.2; simp at c ⊢; omega) (by kernel_rfl) rfl fun f g d z=>⟨fun e=>absurd e (by decide),?_⟩
  obtain ⟨f,g,l,o,p,q,s,t,u,y⟩:=nine (vs:=[Q,R,S,T,U,V,W,X,Y].set (Int.toNat x1) (sL D m E)) (by simp)
  rw [y] at d
  have c:[f,g,l,o,p,q,s,t,u][Int.toNat x1]? =some (sL D m E):=by rw [← y]; exact List.getElem?_set_self (by have G:=F.1; have c:=F.2; simp at c ⊢; omega)
  have c:=d
  refine c_done ?_
  have c:=c.ownClose (j:=2) (k:=1) rfl rfl (by decide) (List.getElem?_eq_some_iff.1 (getI_spec a0).2).1
  rw [H] at c
  have c:=c.ownClose (j:=3) (k:=0) rfl rfl (by decide) (List.getElem?_eq_some_iff.1 (getI_spec a1).2).1
  rw [y] at c
  have c:=c.plClose (i:=7) (j:=2) (k:=3) rfl a6 rfl rfl (by decide) (by decide) (by decide)
  refine c_fall [] (.tuple #[]) z .nil ?_
  obtain rfl:=some_eq n
  exact ⟨_,rfl,h,zr,rfl,(St.pick 8 [7] c (by kernel_rfl))⟩
 have n:=cond_f a2 a5
 refine c_skip (c_fall [] (.tuple #[]) a3 .nil ?_)
 obtain rfl:=some_eq n
 exact ⟨_,rfl,h,zr,rfl,(St.pick 4 [3] a4 (by kernel_rfl))⟩
def F107_j1 (fuel:Nat) (x1:Int) (y1:Pl) (y2:List Part) (y3:List (Int×Bool)):Option (Pl) :=
  ((F113 fuel y1 x1).bind fun r1=>((F109 fuel r1 x1 y2 y3).bind fun r2=>(some (r2))))
def F107 (fuel:Nat) (x0:Pl) (x1:Int) (x2p:List Part) (x2y:List (Int×Bool)):Option (Pl) :=
  ((F112 fuel x0 x1).bind fun r3=>((F111 fuel r3.1 r3.2.1 x2p x2y).bind fun r4=>(F107_j1 fuel x1 r3.2.2 r4.1 r4.2)))
set_option maxRecDepth 100000 in
theorem f107_ok (fuel:Nat) (x0:Pl) (x1:Int) (x2p:List Part) (x2y:List (Int×Bool)) (r:Pl) (hr:F107 fuel x0 x1 x2p x2y=some r) (h:Zone) (L:List Atom) (w:World) (b_x0:Nat) (hS:St h (plA 69 49 101 b_x0 x0::L) w) (o_x2p:Option Addr) (c_x2p:Nat) (hx_x2p:SliceR PartT h o_x2p c_x2p x2p) (o_x2y:Option Nat) (hx_x2y:MapR Value.bool h o_x2y x2y) :
    Calls Tryz.prog 107 #[pB b_x0 0,vI x1, .agg #[.slice o_x2p x2p.length c_x2p, .map o_x2y]] w fun e w'=>∃v,e= .returned v∧(∃h',Zone.le h h'∧v= .tuple #[]∧St h' (plA 69 49 101 b_x0 r::L) w'):=by
 refine calls_intro (N:=19) Tryz.func107 (by kernel_rfl) fun a hf=>c_sr (c_box [sL o_x2p x2p c_x2p, .map o_x2y] 103 hS hf fun c d f b g=>tv (c_dt (c_mid (fun a w=>∃I:Zone,∃Q:Pl,∃J:List Part,∃S:List (Int×Bool),∃T:Nat,∃M:Option Addr,∃O:Nat,∃P:Option Nat,Zone.le h I∧Fr a 19 [(0,pB b_x0 0),(1,vI x1),(6,pB T 0)]∧St I (box T [sL M J O, .map P] 103::box c [sL o_x2p x2p c_x2p, .map o_x2y] 103::plA 69 49 101 b_x0 Q::L) w∧SliceR PartT I M O J∧MapR Value.bool I P S∧(F107_j1 fuel x1 Q J S)=some r) ?_ ?_)))
 ·skip
  have K:=b.drew
  have b:=Sub.of zr (K.mask (i:=1) rfl)
  refine w_regB (by kernel_rfl) [4,6] (Sub h (box c [sL o_x2p x2p c_x2p, .map o_x2y] 103::anyA::L)) (by kernel_rfl) (k_seg' 4 [(0,true),(1,true),(3,true)] (by kernel_rfl) (by kernel_rfl) (At.start b) (by kernel_rfl) (c_S 3 [sL o_x2p x2p c_x2p, .map o_x2y] [0,1,7,8,10] b g (fun _ s=>(.cell (s.bx 0 0 rfl rfl) (.cell (s.bx 0 1 rfl rfl) .nil))) .nil fun b R=>c_done ?_))
  intro b
  refine k_any' 3 [2,5] (by kernel_rfl) b (by kernel_rfl) (by kernel_rfl) ((all_cons ?_ (all_cons ?_ all_nil)))
  ·skip
   have b:=St.swapTo (i:=2) (j:=0) (St.addEmp K) rfl rfl (by decide)
   have c:=b
   obtain ⟨y,b,H⟩:=bind_some hr
   refine c_call R (f112_ok fuel x0 x1 y b h _ _ b_x0 c ) ?_
   rintro c d f ⟨B,C,D,E,o,rfl,b,F,G⟩ A
   have b:=St.swapTo (i:=0) (j:=2) b rfl rfl (by decide)
   have t:=b
   refine ⟨fun _=>Sub.of o ((St.drop 1 t).mask (i:=1) rfl),?_⟩
   refine c_done ?_
   intro b
   have c:=Sub.of o ((St.drop 1 t).mask (i:=1) rfl)
   refine k_seg' 3 [] (by kernel_rfl) (by kernel_rfl) b (by kernel_rfl) (c_done ?_)
   intro b
   refine k_any' 2 [4,5] (by kernel_rfl) b (by kernel_rfl) (by kernel_rfl) ((all_cons ?_ (all_cons ?_ all_nil)))
   ·skip
    obtain ⟨g,b,p⟩:=bind_some H
    refine c_call A (f111_ok fuel y.1 y.2.1 x2p x2y g b B _ _ t C D F E G o_x2p c_x2p (SliceR.mono o hx_x2p) o_x2y (MapR.mono o hx_x2y)) ?_
    rintro b c d ⟨u,m,n,q,k,rfl,f,x,z⟩ l
    refine ⟨fun e=>absurd e (by decide),?_⟩
    refine c_done ?_
    intro b
    refine k_seg' 0 [(5,false),(6,false)] (by kernel_rfl) (by kernel_rfl) b (by kernel_rfl) (c_box [N0, .map none] 103 f l fun l d f b c=>⟨fun _=>Sub.of (zt o k) ((St.drop 2 b).mask (i:=1) rfl),?_⟩)
    have d:=Sub.of (zt o k) ((St.drop 2 b).mask (i:=1) rfl)
    refine c_st 0 [sL m g.1 n, .map q] b c rfl fun b c d f=>⟨fun e=>absurd e (by decide),?_⟩
    refine c_done ?_
    intro b
    refine k_done' (by kernel_rfl) (by kernel_rfl) (n_then (⟨u,y.2.2,g.1,g.2,l,m,n,q,(zt o k),f.to,(St.pick 2 [0] d (by kernel_rfl)),x,z,p⟩))
   skip
   refine c_box [N0, .map none] 103 t A fun z b d c f=>⟨fun _=>Sub.of o ((St.drop 2 c).mask (i:=1) rfl),?_⟩
   refine c_done ?_
   intro b
   have d:=Sub.of o ((St.drop 2 c).mask (i:=1) rfl)
   refine k_seg' 0 [(4,false),(6,false)] (by kernel_rfl) (by kernel_rfl) b (by kernel_rfl) ?_
   obtain ⟨d,b,p⟩:=bind_some H
   refine c_call f (f111_ok fuel y.1 y.2.1 x2p x2y d b B _ _ c C D F E G o_x2p c_x2p (SliceR.mono o hx_x2p) o_x2y (MapR.mono o hx_x2y)) ?_
   rintro f g k ⟨q,l,m,n,t,rfl,b,u,x⟩ c
   refine ⟨fun e=>absurd e (by decide),?_⟩
   refine c_st 0 [sL l d.1 m, .map n] b c rfl fun b c f g=>⟨fun e=>absurd e (by decide),?_⟩
   refine c_done ?_
   intro b
   refine k_done' (by kernel_rfl) (by kernel_rfl) (n_then (⟨q,y.2.2,d.1,d.2,z,l,m,n,(zt o t),g.to,(St.pick 2 [0] f (by kernel_rfl)),u,x,p⟩))
  skip
  refine c_box [N0, .map none] 103 K R fun z c d b f=>⟨fun _=>Sub.of zr ((St.drop 1 b).mask (i:=1) rfl),?_⟩
  refine c_done ?_
  intro c
  have d:=Sub.of zr ((St.drop 1 b).mask (i:=1) rfl)
  refine k_seg' 0 [(2,false),(4,false),(6,false)] (by kernel_rfl) (by kernel_rfl) c (by kernel_rfl) ?_
  have b:=St.swapTo (i:=3) (j:=0) (St.addEmp b) rfl rfl (by decide)
  have c:=b
  obtain ⟨q,b,p⟩:=bind_some hr
  refine c_call f (f112_ok fuel x0 x1 q b h _ _ b_x0 c ) ?_
  rintro c d g ⟨k,l,m,n,f,rfl,b,o,t⟩ u
  have b:=St.swapTo (i:=0) (j:=3) b rfl rfl (by decide)
  have b:=b
  refine ⟨fun _=>Sub.of f ((St.drop 2 b).mask (i:=1) rfl),?_⟩
  have c:=Sub.of f ((St.drop 2 b).mask (i:=1) rfl)
  obtain ⟨d,c,p⟩:=bind_some p
  refine c_call u (f111_ok fuel q.1 q.2.1 x2p x2y d c k _ _ b l m o n t o_x2p c_x2p (SliceR.mono f hx_x2p) o_x2y (MapR.mono f hx_x2y)) ?_
  rintro g k l ⟨t,m,n,o,u,rfl,b,x,y⟩ c
  refine ⟨fun e=>absurd e (by decide),?_⟩
  refine c_st 1 [sL m d.1 n, .map o] b c rfl fun b c g k=>⟨fun e=>absurd e (by decide),?_⟩
  refine c_done ?_
  intro b
  refine k_done' (by kernel_rfl) (by kernel_rfl) (n_then (⟨t,q.2.2,d.1,d.2,z,m,n,o,(zt f u),k.to,(St.pick 2 [1] g (by kernel_rfl)),x,y,p⟩))
 rintro d f ⟨I,Q,J,S,T,M,O,P,q,b,c,n,o,p⟩
 refine c_sr (c_n 2 [] [0,1,6,12,13] b .nil fun b d=>?_)
 have b:=St.swapTo (i:=3) (j:=0) (St.addEmp c) rfl rfl (by decide)
 have c:=b
 obtain ⟨k,b,p⟩:=bind_some p
 refine c_call d (f113_ok fuel Q x1 k b I _ _ b_x0 c ) ?_
 rintro c d f ⟨m,l,rfl,b⟩ g
 have b:=St.swapTo (i:=0) (j:=3) b rfl rfl (by decide)
 have b:=b
 refine tv (c_dt (c_reg (c_n 3 [sL M J O, .map P] [15,16,17] g (.cell (b.bx 1 0 rfl rfl) (.cell (b.bx 1 1 rfl rfl) .nil)) fun c f=>?_)))
 have b:=St.swapTo (i:=4) (j:=0) (St.addEmp b) rfl rfl (by decide)
 have d:=b
 obtain ⟨b,c,p⟩:=bind_some p
 refine c_call f (f109_ok fuel k x1 J S b c m _ _ b_x0 d M O (SliceR.mono l n) P (MapR.mono l o)) ?_
 rintro c d f ⟨k,m,rfl,b⟩ g
 have b:=St.swapTo (i:=0) (j:=4) b rfl rfl (by decide)
 have b:=b
 refine tv (c_done (c_fall [] (.tuple #[]) g .nil ?_))
 obtain rfl:=some_eq p
 exact ⟨_,rfl,k,(zt (zt q l) m),rfl,(St.pick 5 [4] b (by kernel_rfl))⟩
def F108 (fuel:Nat) (x0k:Int) (x0o:Int) (x0f:Int) (x0t:Int) (x0m:Int):Option (List Part×List (Int×Bool)) :=
  (some ([⟨x0o,x0m⟩],(putK ([]) x0o true)))
set_option maxRecDepth 100000 in
theorem f108_ok (fuel:Nat) (x0k:Int) (x0o:Int) (x0f:Int) (x0t:Int) (x0m:Int) (r:List Part×List (Int×Bool)) (hr:F108 fuel x0k x0o x0f x0t x0m=some r) (h:Zone) (L:List Atom) (w:World) (hS:St h L w)  :
    Calls Tryz.prog 108 #[.agg #[vI x0k,vI x0o,vI x0f,vI x0t,vI x0m]] w fun e w'=>∃v,e= .returned v∧(∃h',∃o0:Option Addr,∃c0:Nat,∃o1:Option Nat,Zone.le h h'∧v= .agg #[.slice o0 r.1.length c0, .map o1]∧St h' L w'∧SliceR PartT h' o0 c0 r.1∧MapR Value.bool h' o1 r.2):=by
 refine calls_intro (N:=15) Tryz.func108 (by kernel_rfl) fun a hf=>c_sr (c_box [vI x0k,vI x0o,vI x0f,vI x0t,vI x0m] 74 hS hf fun u x y g l=>tv (c_box [N0, .map none] 103 g l fun z A B f m=>tv (c_dt (c_sr (c_n 5 [vI x0o,vI x0m] [1,2,7] m (.cell (f.bx 1 1 rfl rfl) (.cell (f.bx 1 4 rfl rfl) .nil)) fun C o=>(p_box (i:=5) (d:=(some 8)) (cs:=[vI x0o,vI x0m]) (T:=53) (v:=fun q=> .slice (some ⟨q,0,none⟩) 1 1) f o (fun b=>by kernel_rfl) fun q D F p s=>tv ?_))))))
 have g:=p.ownBox (T:=PartT) (E:=53) (n:=1) (xs:=[⟨x0o,x0m⟩]) (i:=0) rfl (Rows.cons (c:=[vI x0o,vI x0m]) rfl rfl) rfl (by decide)
 refine c_n 1 [] [1,2,9] s .nil fun l f=>p_makeMap (i:=7) (d:=(some 10)) Value.bool g f (fun b=>by kernel_rfl) fun l m o f g=>tv (c_n 2 [vI x0o] [2,9,10,12] g (.cell (f.bx 3 1 rfl rfl) .nil) fun m g=>p_put (i:=10) (j:=0) (t:=101) (r:=l) (k:=x0o) (v:=true) f g rfl (by kernel_rfl) mp101 fun m o g f=>tv (c_n 2 [] [2,14] f .nil fun m f=>c_st 2 [.slice (some ⟨q,0,none⟩) 1 1, .map (some l)] g f rfl fun g m f p=>tv (c_dt (c_ret ?_))))
 obtain ⟨g,s,f,u⟩:=f.share (j:=1) rfl
 obtain ⟨m,g,f,o⟩:=f.mapShare (j:=0) rfl
 refine c_rt [.slice (some ⟨q,0,none⟩) 1 1, .map (some l)] (.agg #[.slice (some ⟨q,0,none⟩) 1 1, .map (some l)]) p (.cell (f.bx 2 0 rfl rfl) (.cell (f.bx 2 1 rfl rfl) .nil)) ?_
 obtain rfl:=some_eq hr
 exact ⟨_,rfl,m,(some ⟨q,0,none⟩),1,(some l),(zt s g),rfl,(St.drop 4 f),(SliceR.mono g u),o⟩
end Go.Proofs.YtlmgjjmighajdaaGreat
set_option linter.unusedVariables false
namespace Go.Proofs.YtlmgjjmighajdaaGreat
open Go.Sl Go.Sx
def F94 (fuel:Nat) (x0:Pl) (x1k:Int) (x1o:Int) (x1f:Int) (x1t:Int) (x1m:Int):Option (List Part×List (Int×Bool)×Pl) :=
  ((F108 fuel x1k x1o x1f x1t x1m).bind fun r1=>((F107 fuel x0 x1t r1.1 r1.2).bind fun r2=>((F108 fuel x1k x1o x1f x1t x1m).bind fun r3=>(some (r3.1,r3.2,r2)))))
set_option maxRecDepth 100000 in
theorem f94_ok (fuel:Nat) (x0:Pl) (x1k:Int) (x1o:Int) (x1f:Int) (x1t:Int) (x1m:Int) (r:List Part×List (Int×Bool)×Pl) (hr:F94 fuel x0 x1k x1o x1f x1t x1m=some r) (h:Zone) (L:List Atom) (w:World) (b_x0:Nat) (hS:St h (plA 69 49 101 b_x0 x0::L) w)  :
    Calls Tryz.prog 94 #[pB b_x0 0, .agg #[vI x1k,vI x1o,vI x1f,vI x1t,vI x1m]] w fun e w'=>∃v,e= .returned v∧(∃h',∃o0:Option Addr,∃c0:Nat,∃o1:Option Nat,Zone.le h h'∧v= .agg #[.slice o0 r.1.length c0, .map o1]∧St h' (plA 69 49 101 b_x0 r.2.2::L) w'∧SliceR PartT h' o0 c0 r.1∧MapR Value.bool h' o1 r.2.1):=by
 refine calls_intro (N:=13) Tryz.func94 (by kernel_rfl) fun a hf=>c_sr (c_box [vI x1k,vI x1o,vI x1f,vI x1t,vI x1m] 74 hS hf fun f g k b c=>tv (c_box [N0, .map none] 103 b c fun l m n d o=>tv (c_dt (c_seq ?_))))
 have d:=d.drew
 have b:=Sub.of zr d
 refine c_regD (rD 6 [4,5]) [5] _ b (c_S 4 [vI x1t,vI x1k,vI x1o,vI x1f,vI x1t,vI x1m] [3,4,5,7,8] b o (fun _ s=>(.cell (s.bx 1 3 rfl rfl) (.cell (s.bx 1 0 rfl rfl) (.cell (s.bx 1 1 rfl rfl) (.cell (s.bx 1 2 rfl rfl) (.cell (s.bx 1 3 rfl rfl) (.cell (s.bx 1 4 rfl rfl) .nil))))))) .nil fun b c=>?_)
 obtain ⟨f,b,u⟩:=bind_some hr
 refine c_call c (f108_ok fuel x1k x1o x1f x1t x1m f b h _ _ d ) ?_
 rintro c d g ⟨k,l,m,n,x,rfl,b,o,p⟩ q
 refine ⟨fun _=>Sub.of x b,?_⟩
 have c:=Sub.of x b
 have b:=St.swapTo (i:=3) (j:=0) (St.addEmp b) rfl rfl (by decide)
 have d:=b
 obtain ⟨b,c,u⟩:=bind_some u
 refine c_call q (f107_ok fuel x0 x1t f.1 f.2 b c k _ _ b_x0 d l m o n p) ?_
 rintro c d f ⟨k,y,rfl,b⟩ g
 have b:=St.swapTo (i:=0) (j:=3) b rfl rfl (by decide)
 have b:=b
 refine ⟨fun e=>absurd e (by decide),?_⟩
 refine c_dt (c_sr (c_n 1 [vI x1k,vI x1o,vI x1f,vI x1t,vI x1m] [4,11] g (.cell (b.bx 2 0 rfl rfl) (.cell (b.bx 2 1 rfl rfl) (.cell (b.bx 2 2 rfl rfl) (.cell (b.bx 2 3 rfl rfl) (.cell (b.bx 2 4 rfl rfl) .nil))))) fun c f=>?_))
 obtain ⟨c,d,u⟩:=bind_some u
 refine c_call f (f108_ok fuel x1k x1o x1f x1t x1m c d k _ _ b ) ?_
 rintro l m n ⟨o,d,f,g,p,rfl,b,q,t⟩ k
 refine tv (c_st 1 [sL d c.1 f, .map g] b k rfl fun l m b k=>tv (c_dt (c_ret (c_rt [sL d c.1 f, .map g] (.agg #[sL d c.1 f, .map g]) k (.cell (b.bx 1 0 rfl rfl) (.cell (b.bx 1 1 rfl rfl) .nil)) ?_))))
 obtain rfl:=some_eq u
 exact ⟨_,rfl,o,d,f,g,(zt (zt x y) p),rfl,(St.pick 4 [3] b (by kernel_rfl)),q,t⟩
def F95 (fuel:Nat) (x0:Pl) (x1k:Int) (x1o:Int) (x1f:Int) (x1t:Int) (x1m:Int):Option (List Part×List (Int×Bool)×Pl) :=
  ((F108 fuel x1k x1o x1f x1t x1m).bind fun r1=>((F109 fuel x0 x1t r1.1 r1.2).bind fun r2=>((F108 fuel x1k x1o x1f x1t x1m).bind fun r3=>(some (r3.1,r3.2,r2)))))
set_option maxRecDepth 100000 in
theorem f95_ok (fuel:Nat) (x0:Pl) (x1k:Int) (x1o:Int) (x1f:Int) (x1t:Int) (x1m:Int) (r:List Part×List (Int×Bool)×Pl) (hr:F95 fuel x0 x1k x1o x1f x1t x1m=some r) (h:Zone) (L:List Atom) (w:World) (b_x0:Nat) (hS:St h (plA 69 49 101 b_x0 x0::L) w)  :
    Calls Tryz.prog 95 #[pB b_x0 0, .agg #[vI x1k,vI x1o,vI x1f,vI x1t,vI x1m]] w fun e w'=>∃v,e= .returned v∧(∃h',∃o0:Option Addr,∃c0:Nat,∃o1:Option Nat,Zone.le h h'∧v= .agg #[.slice o0 r.1.length c0, .map o1]∧St h' (plA 69 49 101 b_x0 r.2.2::L) w'∧SliceR PartT h' o0 c0 r.1∧MapR Value.bool h' o1 r.2.1):=by
 refine calls_intro (N:=13) Tryz.func95 (by kernel_rfl) fun a hf=>c_sr (c_box [vI x1k,vI x1o,vI x1f,vI x1t,vI x1m] 74 hS hf fun f g k b c=>tv (c_box [N0, .map none] 103 b c fun l m n d o=>tv (c_dt (c_seq ?_))))
 have d:=d.drew
 have b:=Sub.of zr d
 refine c_regD (rD 6 [4,5]) [5] _ b (c_S 4 [vI x1t,vI x1k,vI x1o,vI x1f,vI x1t,vI x1m] [3,4,5,7,8] b o (fun _ s=>(.cell (s.bx 1 3 rfl rfl) (.cell (s.bx 1 0 rfl rfl) (.cell (s.bx 1 1 rfl rfl) (.cell (s.bx 1 2 rfl rfl) (.cell (s.bx 1 3 rfl rfl) (.cell (s.bx 1 4 rfl rfl) .nil))))))) .nil fun b c=>?_)
 obtain ⟨f,b,u⟩:=bind_some hr
 refine c_call c (f108_ok fuel x1k x1o x1f x1t x1m f b h _ _ d ) ?_
 rintro c d g ⟨k,l,m,n,x,rfl,b,o,p⟩ q
 refine ⟨fun _=>Sub.of x b,?_⟩
 have c:=Sub.of x b
 have b:=St.swapTo (i:=3) (j:=0) (St.addEmp b) rfl rfl (by decide)
 have d:=b
 obtain ⟨b,c,u⟩:=bind_some u
 refine c_call q (f109_ok fuel x0 x1t f.1 f.2 b c k _ _ b_x0 d l m o n p) ?_
 rintro c d f ⟨k,y,rfl,b⟩ g
 have b:=St.swapTo (i:=0) (j:=3) b rfl rfl (by decide)
 have b:=b
 refine ⟨fun e=>absurd e (by decide),?_⟩
 refine c_dt (c_sr (c_n 1 [vI x1k,vI x1o,vI x1f,vI x1t,vI x1m] [4,11] g (.cell (b.bx 2 0 rfl rfl) (.cell (b.bx 2 1 rfl rfl) (.cell (b.bx 2 2 rfl rfl) (.cell (b.bx 2 3 rfl rfl) (.cell (b.bx 2 4 rfl rfl) .nil))))) fun c f=>?_))
 obtain ⟨c,d,u⟩:=bind_some u
 refine c_call f (f108_ok fuel x1k x1o x1f x1t x1m c d k _ _ b ) ?_
 rintro l m n ⟨o,d,f,g,p,rfl,b,q,t⟩ k
 refine tv (c_st 1 [sL d c.1 f, .map g] b k rfl fun l m b k=>tv (c_dt (c_ret (c_rt [sL d c.1 f, .map g] (.agg #[sL d c.1 f, .map g]) k (.cell (b.bx 1 0 rfl rfl) (.cell (b.bx 1 1 rfl rfl) .nil)) ?_))))
 obtain rfl:=some_eq u
 exact ⟨_,rfl,o,d,f,g,(zt (zt x y) p),rfl,(St.pick 4 [3] b (by kernel_rfl)),q,t⟩
def F96_l1 (fuel:Nat) (x1f:Int):Nat→Pl→(List Part)→(List (Int×Bool))→Int→Option (List Part×List (Int×Bool)×Pl)
  | 0,_,_,_,_=>none
  | n1 + 1,y1,y2,y3,y4 =>
    let k1:Pl→(List Part)→(List (Int×Bool))→Int→Option (List Part×List (Int×Bool)×Pl):=F96_l1 fuel x1f n1
    ((getI y1.holds x1f).bind fun p1=>(cond (decide ((p1.length:Int) > (0:Int))) ((F112 fuel y1 x1f).bind fun r1=>((F113 fuel r1.2.2 x1f).bind fun r2=>((F38 fuel r1.1).bind fun r3=>((F39 fuel r1.1 (if r3<y4 then r3 else y4)).bind fun r4=>((F111 fuel y2 y3 r4.1 r1.2.1).bind fun r5=>(cond ((w64 (y4 - (if r3<y4 then r3 else y4))) == (0:Int)) ((F109 fuel r2 x1f r4.2 r1.2.1).bind fun r6=>(some (r5.1,r5.2,r6))) (k1 r2 r5.1 r5.2 (w64 (y4 - (if r3<y4 then r3 else y4)))))))))) (some (y2,y3,y1))))
def F96_j1 (fuel:Nat) (x0:Pl) (x1f:Int) (x1m:Int):Option (List Part×List (Int×Bool)×Pl) :=
  (F96_l1 fuel x1f fuel x0 ([]) ([]) x1m)
def F96 (fuel:Nat) (x0:Pl) (x1k:Int) (x1o:Int) (x1f:Int) (x1t:Int) (x1m:Int):Option (List Part×List (Int×Bool)×Pl) :=
  (F96_j1 fuel x0 x1f x1m)
set_option maxRecDepth 100000 in
theorem f96_ok (fuel:Nat) (x0:Pl) (x1k:Int) (x1o:Int) (x1f:Int) (x1t:Int) (x1m:Int) (r:List Part×List (Int×Bool)×Pl) (hr:F96 fuel x0 x1k x1o x1f x1t x1m=some r) (h:Zone) (L:List Atom) (w:World) (b_x0:Nat) (hS:St h (plA 69 49 101 b_x0 x0::L) w)  :
    Calls Tryz.prog 96 #[pB b_x0 0, .agg #[vI x1k,vI x1o,vI x1f,vI x1t,vI x1m]] w fun e w'=>∃v,e= .returned v∧(∃h',∃o0:Option Addr,∃c0:Nat,∃o1:Option Nat,Zone.le h h'∧v= .agg #[.slice o0 r.1.length c0, .map o1]∧St h' (plA 69 49 101 b_x0 r.2.2::L) w'∧SliceR PartT h' o0 c0 r.1∧MapR Value.bool h' o1 r.2.1):=by
 refine calls_intro (N:=51) Tryz.func96 (by kernel_rfl) fun a hf=>c_sr (c_box [pB b_x0 0] 61 hS hf fun R q t b c=>tv (c_box [vI x1k,vI x1o,vI x1f,vI x1t,vI x1m] 74 b c fun S u x m o=>tv (c_box [N0, .map none] 103 m o fun T y z p A=>tv (c_dt (c_mid (fun a w=>∃I:Zone,∃W:Nat,∃X:Nat,Zone.le h I∧Fr a 51 [(2,pB R 0),(3,pB S 0),(4,pB T 0),(5,pB W 0),(6,pB X 0)]∧St I (box W [N0, .map none] 103::box X [vI x1m] 3::box T [N0, .map none] 103::box S [vI x1k,vI x1o,vI x1f,vI x1t,vI x1m] 74::box R [pB b_x0 0] 61::plA 69 49 101 b_x0 x0::L) w∧(F96_j1 fuel x0 x1f x1m)=some r) ?_ ?_)))))
 ·skip
  have q:=p.drew
  have b:Sub h (box T [N0, .map none] 103::box S [vI x1k,vI x1o,vI x1f,vI x1t,vI x1m] 74::box R [pB b_x0 0] 61::plA 69 49 101 b_x0 x0::L) _:=Sub.of zr q
  refine w_regB (by kernel_rfl) [6] (Sub h (box T [N0, .map none] 103::box S [vI x1k,vI x1o,vI x1f,vI x1t,vI x1m] 74::box R [pB b_x0 0] 61::plA 69 49 101 b_x0 x0::L)) (by kernel_rfl) (k_seg' 4 [(0,true),(1,true),(2,true)] (by kernel_rfl) (by kernel_rfl) (At.start b) (by kernel_rfl) (c_S 3 [vI x1m] [2,3,4,11,13] b A (fun _ s=>(.cell (s.bx 1 4 rfl rfl) .nil)) .nil fun b t=>c_done ?_))
  intro b
  refine k_any' 3 [3,4] (by kernel_rfl) b (by kernel_rfl) (by kernel_rfl) ((all_cons ?_ (all_cons ?_ all_nil)))
  ·skip
   refine c_box [N0, .map none] 103 q t fun u c m b o=>⟨fun _=>Sub.of zr (St.drop 1 b),?_⟩
   refine c_done ?_
   intro c
   have m:Sub h (box T [N0, .map none] 103::box S [vI x1k,vI x1o,vI x1f,vI x1t,vI x1m] 74::box R [pB b_x0 0] 61::plA 69 49 101 b_x0 x0::L) _:=Sub.of zr (St.drop 1 b)
   refine k_seg' 0 [(4,false),(5,false),(6,false)] (by kernel_rfl) (by kernel_rfl) c (by kernel_rfl) (c_box [vI 0] 3 b o fun p m o b c=>⟨fun _=>Sub.of zr (St.drop 2 b),?_⟩)
   have m:Sub h (box T [N0, .map none] 103::box S [vI x1k,vI x1o,vI x1f,vI x1t,vI x1m] 74::box R [pB b_x0 0] 61::plA 69 49 101 b_x0 x0::L) _:=Sub.of zr (St.drop 2 b)
   refine c_st 1 [N0, .map none] b c rfl fun m o b c=>⟨fun _=>Sub.of zr (St.drop 2 b),?_⟩
   have m:Sub h (box T [N0, .map none] 103::box S [vI x1k,vI x1o,vI x1f,vI x1t,vI x1m] 74::box R [pB b_x0 0] 61::plA 69 49 101 b_x0 x0::L) _:=Sub.of zr (St.drop 2 b)
   refine c_st 0 [vI x1m] b c rfl fun b c m o=>⟨fun e=>absurd e (by decide),?_⟩
   refine c_done ?_
   intro b
   refine k_done' (by kernel_rfl) (by kernel_rfl) (n_then (⟨h,u,p,zr,o.to,(St.pick 2 [1,0] m (by kernel_rfl)),hr⟩))
  skip
  refine c_box [vI 0] 3 q t fun q c m b o=>⟨fun _=>Sub.of zr (St.drop 1 b),?_⟩
  refine c_done ?_
  intro c
  have m:Sub h (box T [N0, .map none] 103::box S [vI x1k,vI x1o,vI x1f,vI x1t,vI x1m] 74::box R [pB b_x0 0] 61::plA 69 49 101 b_x0 x0::L) _:=Sub.of zr (St.drop 1 b)
  refine k_seg' 0 [(3,false),(5,false),(6,false)] (by kernel_rfl) (by kernel_rfl) c (by kernel_rfl) (c_box [N0, .map none] 103 b o fun p m o b c=>⟨fun _=>Sub.of zr (St.drop 2 b),?_⟩)
  have m:Sub h (box T [N0, .map none] 103::box S [vI x1k,vI x1o,vI x1f,vI x1t,vI x1m] 74::box R [pB b_x0 0] 61::plA 69 49 101 b_x0 x0::L) _:=Sub.of zr (St.drop 2 b)
  refine c_st 0 [N0, .map none] b c rfl fun m o b c=>⟨fun _=>Sub.of zr (St.drop 2 b),?_⟩
  have m:Sub h (box T [N0, .map none] 103::box S [vI x1k,vI x1o,vI x1f,vI x1t,vI x1m] 74::box R [pB b_x0 0] 61::plA 69 49 101 b_x0 x0::L) _:=Sub.of zr (St.drop 2 b)
  refine c_st 1 [vI x1m] b c rfl fun b c m o=>⟨fun e=>absurd e (by decide),?_⟩
  refine c_done ?_
  intro b
  refine k_done' (by kernel_rfl) (by kernel_rfl) (n_then (⟨h,p,q,zr,o.to,(St.pick 2 [0,1] m (by kernel_rfl)),hr⟩))
 rintro m o ⟨I,W,X,k2,c,b,G⟩
 refine c_seq (c_sr (c_n 3 [pB b_x0 0,vI x1f] [2,3,4,5,6,14,16] c (.cell (b.bx 4 0 rfl rfl) (.cell (b.bx 3 2 rfl rfl) .nil)) fun u c=>(p_inl (i:=3) (d:=some 17) (f:=110) (args:= #[pB b_x0 0,vI x1f]) (N':=6) c (by kernel_rfl) Tryz.func110 (by kernel_rfl) fun x m=>(c_sr (c_box [pB b_x0 0] 61 b m fun J y z b o=>tv (c_box [vI x1f] 3 b o fun K A B H p=>tv (c_t [] [2,3] p .nil fun C q=>(c_sq [] [4] q .nil fun D t=>(c_ret (c_rt [] (.func (.func 116) #[] #[pB J 0,pB K 0]) t .nil (⟨_,rfl,fun E F=>?_⟩)))))))))))
 refine tv (c_dt (c_block 0 ?_))
 have b:=Fr.to (r:=[(2,pB R 0),(3,pB S 0),(4,pB T 0),(5,pB W 0),(6,pB X 0),(17, .func (.func 116) #[] #[pB J 0,pB K 0])]) F
 refine w_range (g:=17) (gf:=116) (lb:= #[pB J 0,pB K 0]) (by kernel_rfl) b H (by kernel_rfl) (fun l=>by kernel_rfl) fun a4 RA1 RB1 a0 a1 a3 l1 D1 b c=>calls_intro (N:=24) Tryz.func116 (by kernel_rfl) fun m b=>c_block 0 (c_loop (fun n a w=>∃z2:Zone,∃A:Pl,∃Y:List Part,∃y3:List (Int×Bool),∃y:Int,∃Z:Option Addr,∃q1:Nat,∃e2:Option Nat,Zone.le I z2∧Fr a 24 [(0, .func (.yield l1) #[] #[]),(1,pB J 0),(2,pB K 0)]∧St z2 (loopA l1 51 [(2,pB R 0),(3,pB S 0),(4,pB T 0),(5,pB W 0),(6,pB X 0),(17, .func (.func 116) #[] #[pB J 0,pB K 0])] a4 RA1 RB1 D1 .ready none::defA D1::box K [vI x1f] 3::box J [pB b_x0 0] 61::box W [sL Z Y q1, .map e2] 103::box X [vI y] 3::box T [N0, .map none] 103::box S [vI x1k,vI x1o,vI x1f,vI x1t,vI x1m] 74::box R [pB b_x0 0] 61::plA 69 49 101 b_x0 A::L) w∧SliceR PartT z2 Z q1 Y∧MapR Value.bool z2 e2 y3∧(F96_l1 fuel x1f n A Y y3 y)=some r) fuel ⟨I,x0,[],[],x1m,none,0,none,zr,b.to,c,SliceR.nil' _ _,(MapR.nil' _ _),G⟩ ?_)
 rintro b c m ⟨z2,A,Y,y3,y,Z,q1,e2,k3,V,o,ae,af,G⟩
 cases b with
 | zero=>cases G
 | succ n1 =>
 refine c_seq ?_
 obtain ⟨B,C,c,m,o,p,q,t,u,x,z,D,E,F,H,I,M,O,P,Q,U,b⟩:=o.plOpen (i:=9) rfl
 obtain ⟨t,m,ad⟩:=bind_some G
 obtain ⟨o,p,c,q,b⟩:=b.ownOpen (j:=0) rfl m
 have b:=b.drew
 refine c_seq (c_qD [(0,true),(1,true),(2,true),(3,true),(4,true),(5,true),(6,true),(7,true),(8,true)] [] [pB b_x0 0,vI x1f,sL o t p] [0,1,2,13] V (.cell (b.bx 6 0 rfl rfl) (.cell (b.bx 5 0 rfl rfl) (.prop q (.cell ((arrAddr b_x0 1 (Int.toNat x1f)) ▸ (b.box (i:=12) rfl (getElem?_app_right [sL B A.lots C] _ _ c [D,E,F,H,I,M,O,P,Q]))) .nil)))) .nil fun o ac=>?_)
 have b:=b.ownClose' (j:=1) (k:=0) rfl rfl (by decide) c (getI_spec m).2
 have a9:=b.plClose (i:=12) (j:=1) (k:=2) rfl U rfl rfl (by decide) (by decide) (by decide)
 refine n_then (c_if (decide ((t.length:Int) > (0:Int))) ac (fun ab=>?_) (fun ab=>?_))
 ·have G:=cond_t ab ad
  refine c_skip (n_then (c_block 1 (c_sr (c_n 2 [pB b_x0 0,vI x1f] [0,1,2,14,15] ac (.cell (a9.bx 6 0 rfl rfl) (.cell (a9.bx 5 0 rfl rfl) .nil)) fun b m=>?_))))
  have b:=St.swapTo (i:=13) (j:=0) (St.addEmp a9) rfl rfl (by decide)
  have c:St z2 (plA 69 49 101 b_x0 A::emp::emp::emp::loopA l1 51 [(2,pB R 0),(3,pB S 0),(4,pB T 0),(5,pB W 0),(6,pB X 0),(17, .func (.func 116) #[] #[pB J 0,pB K 0])] a4 RA1 RB1 D1 .ready none::defA D1::box K [vI x1f] 3::box J [pB b_x0 0] 61::box W [sL Z Y q1, .map e2] 103::box X [vI y] 3::box T [N0, .map none] 103::box S [vI x1k,vI x1o,vI x1f,vI x1t,vI x1m] 74::box R [pB b_x0 0] 61::emp::L) _:=b
  obtain ⟨p,b,G⟩:=bind_some G
  refine c_call m (f112_ok fuel A x1f p b z2 _ _ b_x0 c ) ?_
  rintro c m o ⟨x,q,t,u,k4,rfl,b,F,aa⟩ z
  have b:=St.swapTo (i:=0) (j:=13) b rfl rfl (by decide)
  have b:St x (emp::emp::emp::emp::loopA l1 51 [(2,pB R 0),(3,pB S 0),(4,pB T 0),(5,pB W 0),(6,pB X 0),(17, .func (.func 116) #[] #[pB J 0,pB K 0])] a4 RA1 RB1 D1 .ready none::defA D1::box K [vI x1f] 3::box J [pB b_x0 0] 61::box W [sL Z Y q1, .map e2] 103::box X [vI y] 3::box T [N0, .map none] 103::box S [vI x1k,vI x1o,vI x1f,vI x1t,vI x1m] 74::box R [pB b_x0 0] 61::plA 69 49 101 b_x0 p.2.2::L) _:=b
  refine tv (c_box [N0, .map none] 103 b z fun a2 m o b c=>tv (c_st 0 [sL q p.1 t, .map u] b c rfl fun m o b c=>tv (c_dt (c_sr (c_n 2 [pB b_x0 0,vI x1f] [0,1,2,4,17,18] c (.cell (b.bx 8 0 rfl rfl) (.cell (b.bx 7 0 rfl rfl) .nil)) fun c m=>?_)))))
  have b:=St.swapTo (i:=15) (j:=0) (St.addEmp b) rfl rfl (by decide)
  have c:St x (plA 69 49 101 b_x0 p.2.2::box a2 [sL q p.1 t, .map u] 103::emp::emp::emp::emp::loopA l1 51 [(2,pB R 0),(3,pB S 0),(4,pB T 0),(5,pB W 0),(6,pB X 0),(17, .func (.func 116) #[] #[pB J 0,pB K 0])] a4 RA1 RB1 D1 .ready none::defA D1::box K [vI x1f] 3::box J [pB b_x0 0] 61::box W [sL Z Y q1, .map e2] 103::box X [vI y] 3::box T [N0, .map none] 103::box S [vI x1k,vI x1o,vI x1f,vI x1t,vI x1m] 74::box R [pB b_x0 0] 61::emp::L) _:=b
  obtain ⟨r2,b,G⟩:=bind_some G
  refine c_call m (f113_ok fuel p.2.2 x1f r2 b x _ _ b_x0 c ) ?_
  rintro c m o ⟨D,k5,rfl,b⟩ x
  have b:=St.swapTo (i:=0) (j:=15) b rfl rfl (by decide)
  have c:St D (emp::box a2 [sL q p.1 t, .map u] 103::emp::emp::emp::emp::loopA l1 51 [(2,pB R 0),(3,pB S 0),(4,pB T 0),(5,pB W 0),(6,pB X 0),(17, .func (.func 116) #[] #[pB J 0,pB K 0])] a4 RA1 RB1 D1 .ready none::defA D1::box K [vI x1f] 3::box J [pB b_x0 0] 61::box W [sL Z Y q1, .map e2] 103::box X [vI y] 3::box T [N0, .map none] 103::box S [vI x1k,vI x1o,vI x1f,vI x1t,vI x1m] 74::box R [pB b_x0 0] 61::plA 69 49 101 b_x0 r2::L) _:=b
  refine tv (c_dt (c_seq (w_regY 2 (by kernel_rfl) (c_z [sL q p.1 t, .map u] [0,1,2,20,21] x (.cell (c.bx 1 0 rfl rfl) (.cell (c.bx 1 1 rfl rfl) .nil)) fun o b=>(p_yield (d:=some 22) (l:=l1) (args:= #[.agg #[sL q p.1 t, .map u]]) b (by kernel_rfl) c (j:=6) rfl (by rw [a0]; kernel_rfl) fun x m=>?_)))))
  rw [a0] at m
  refine cw_eq a1 (c_reg (c_box [N0, .map none] 103 c m fun a1 x z b c=>tv (c_st 0 [sL q p.1 t, .map u] b c rfl fun A B m E=>tv (c_dt (p_begin m (j:=7) rfl fun C o=>(cw_eq a3 (c_block 1 (c_seq ?_))))))))
  have m:=o.drew
  have b:Sub D (box a1 [sL q p.1 t, .map u] 103::emp::box a2 [sL q p.1 t, .map u] 103::emp::emp::emp::emp::loopA l1 51 [(2,pB R 0),(3,pB S 0),(4,pB T 0),(5,pB W 0),(6,pB X 0),(17, .func (.func 116) #[] #[pB J 0,pB K 0])] a4 RA1 RB1 D1 .busy none::defA D1::box K [vI x1f] 3::box J [pB b_x0 0] 61::box W [sL Z Y q1, .map e2] 103::box X [vI y] 3::box T [N0, .map none] 103::box S [vI x1k,vI x1o,vI x1f,vI x1t,vI x1m] 74::box R [pB b_x0 0] 61::plA 69 49 101 b_x0 r2::L) _:=Sub.of zr m
  refine c_regD (rD 6 [3]) [] (Sub D (box a1 [sL q p.1 t, .map u] 103::emp::box a2 [sL q p.1 t, .map u] 103::emp::emp::emp::emp::loopA l1 51 [(2,pB R 0),(3,pB S 0),(4,pB T 0),(5,pB W 0),(6,pB X 0),(17, .func (.func 116) #[] #[pB J 0,pB K 0])] a4 RA1 RB1 D1 .busy none::defA D1::box K [vI x1f] 3::box J [pB b_x0 0] 61::box W [sL Z Y q1, .map e2] 103::box X [vI y] 3::box T [N0, .map none] 103::box S [vI x1k,vI x1o,vI x1f,vI x1t,vI x1m] 74::box R [pB b_x0 0] 61::plA 69 49 101 b_x0 r2::L)) b (c_S 3 [vI y,sL q p.1 t] [2,3,5,6,7,19,21] b E (fun _ s=>(.cell (s.bx 12 0 rfl rfl) (.cell (s.bx 0 0 rfl rfl) .nil))) .nil fun b c=>?_)
  obtain ⟨I,b,G⟩:=bind_some G
  refine c_call c (f38_ok fuel p.1 I b D _ _ m q t (SliceR.mono k5 F)) ?_
  rintro c m o ⟨z,U,rfl,b⟩ x
  refine ⟨fun _=>Sub.of U b,?_⟩
  have c:Sub D (box a1 [sL q p.1 t, .map u] 103::emp::box a2 [sL q p.1 t, .map u] 103::emp::emp::emp::emp::loopA l1 51 [(2,pB R 0),(3,pB S 0),(4,pB T 0),(5,pB W 0),(6,pB X 0),(17, .func (.func 116) #[] #[pB J 0,pB K 0])] a4 RA1 RB1 D1 .busy none::defA D1::box K [vI x1f] 3::box J [pB b_x0 0] 61::box W [sL Z Y q1, .map e2] 103::box X [vI y] 3::box T [N0, .map none] 103::box S [vI x1k,vI x1o,vI x1f,vI x1t,vI x1m] 74::box R [pB b_x0 0] 61::plA 69 49 101 b_x0 r2::L) _:=Sub.of U b
  refine c_S 2 [] [2,3,5,6,7,8] c x (fun _ s=> .nil) .nil fun m c=>c_dt (c_sr (c_n 3 [sL q p.1 t] [2,3,5,6,7,8,26,27] c (.cell (b.bx 0 0 rfl rfl) .nil) fun c m=>?_))
  obtain ⟨o,c,G⟩:=bind_some G
  refine c_call m (f39_ok fuel p.1 (if I<y then I else y) o c z _ _ b q t (SliceR.mono (zt k5 U) F)) ?_
  rintro c m x ⟨A,M,O,P,Q,k7,rfl,z,B,V⟩ b
  refine tv (c_n 3 [] [2,3,5,6,7,8,29,30] b .nil fun c b=>c_box [N0] 49 z b fun a5 m x b c=>tv (c_box [N0] 49 b c fun a3 m x b c=>tv (c_st 1 [sL M o.1 O] b c rfl fun m x b c=>tv (c_st 0 [sL P o.2 Q] b c rfl fun m x b c=>tv (c_dt (c_sr (c_n 5 [sL Z Y q1, .map e2,sL M o.1 O, .map u] [2,3,5,6,7,8,10,31,35] c (.cell (b.bx 13 0 rfl rfl) (.cell (b.bx 13 1 rfl rfl) (.cell (b.bx 1 0 rfl rfl) (.cell (b.bx 2 1 rfl rfl) .nil)))) fun c m=>?_)))))))
  obtain ⟨x,c,a6⟩:=bind_some G
  refine c_call m (f111_ok fuel Y y3 o.1 p.2.1 x c A _ _ b Z q1 (SliceR.mono (zt (zt (zt k4 k5) U) k7) ae) e2 (MapR.mono (zt (zt (zt k4 k5) U) k7) af) M O B u (MapR.mono (zt (zt k5 U) k7) aa)) ?_
  rintro m C D ⟨z7,z,A,B,k8,rfl,b,a7,a8⟩ c
  refine tv (c_st 13 [sL z x.1 A, .map B] b c rfl fun m C b c=>tv (c_dt (c_sr (c_n 3 [vI y] [2,3,6,7,10,39] c (.cell (b.bx 14 0 rfl rfl) .nil) fun C c=>(c_st 14 [vI (w64 (y - (if I<y then I else y)))] b c rfl fun D E F b=>tv (c_dt (c_sq [vI (w64 (y - (if I<y then I else y)))] [2,3,7,10,41] b (.cell (F.bx 14 0 rfl rfl) .nil) fun H m=>(c_if ((w64 (y - (if I<y then I else y))) == (0:Int)) m (fun a0=>?_) (fun a0=>?_)))))))))
  ·have G:=cond_t a0 a6
   refine c_sr (c_n 7 [pB b_x0 0,vI x1f,sL P o.2 Q, .map u] [42,44,48] m (.cell (F.bx 17 0 rfl rfl) (.cell (F.bx 16 2 rfl rfl) (.cell (F.bx 0 0 rfl rfl) (.cell (F.bx 2 1 rfl rfl) .nil)))) fun b C=>?_)
   have b:=St.swapTo (i:=19) (j:=0) (St.addEmp F) rfl rfl (by decide)
   have m:St z7 (plA 69 49 101 b_x0 r2::box a3 [sL P o.2 Q] 49::box a5 [sL M o.1 O] 49::box a1 [sL q p.1 t, .map u] 103::emp::box a2 [sL q p.1 t, .map u] 103::emp::emp::emp::emp::loopA l1 51 [(2,pB R 0),(3,pB S 0),(4,pB T 0),(5,pB W 0),(6,pB X 0),(17, .func (.func 116) #[] #[pB J 0,pB K 0])] a4 RA1 RB1 D1 .busy none::defA D1::box K [vI x1f] 3::box J [pB b_x0 0] 61::box W [sL z x.1 A, .map B] 103::box X [vI (w64 (y - (if I<y then I else y)))] 3::box T [N0, .map none] 103::box S [vI x1k,vI x1o,vI x1f,vI x1t,vI x1m] 74::box R [pB b_x0 0] 61::emp::L) _:=b
   obtain ⟨c,b,G⟩:=bind_some G
   refine c_call C (f109_ok fuel r2 x1f o.2 p.2.1 c b z7 _ _ b_x0 m P Q (SliceR.mono k8 V) u (MapR.mono (zt (zt (zt k5 U) k7) k8) aa)) ?_
   rintro m C D ⟨V,H,rfl,b⟩ E
   have b:=St.swapTo (i:=0) (j:=19) b rfl rfl (by decide)
   have b:St V (emp::box a3 [sL P o.2 Q] 49::box a5 [sL M o.1 O] 49::box a1 [sL q p.1 t, .map u] 103::emp::box a2 [sL q p.1 t, .map u] 103::emp::emp::emp::emp::loopA l1 51 [(2,pB R 0),(3,pB S 0),(4,pB T 0),(5,pB W 0),(6,pB X 0),(17, .func (.func 116) #[] #[pB J 0,pB K 0])] a4 RA1 RB1 D1 .busy none::defA D1::box K [vI x1f] 3::box J [pB b_x0 0] 61::box W [sL z x.1 A, .map B] 103::box X [vI (w64 (y - (if I<y then I else y)))] 3::box T [N0, .map none] 103::box S [vI x1k,vI x1o,vI x1f,vI x1t,vI x1m] 74::box R [pB b_x0 0] 61::plA 69 49 101 b_x0 c::L) _:=b
   refine tv (c_dt (c_exit 0 (x_pass rfl (p_roundX b (j:=10) rfl fun m o b c=>?_))))
   have m:=St.drop 4 b
   refine c_t [] [0,1,2,23] c .nil fun c b=>w_if_true b (by kernel_rfl) (c_ret (r_block (r_then (r_block (c_rt [] (.tuple #[]) b .nil (⟨_,rfl,fun b c=>?_⟩))))))
   refine p_jumpX m (j:=6) rfl (fun h=>by cases h) fun m b=>x_block (n_then (c_sr (c_n 1 [sL z x.1 A, .map B] [4,50] c (.cell (b.bx 10 0 rfl rfl) (.cell (b.bx 10 1 rfl rfl) .nil)) fun p m=>(c_st 12 [sL z x.1 A, .map B] b m rfl fun q t o b=>tv (c_dt (c_ret (p_retM b (p_mark o (j:=7) rfl fun u c=>(p_end (os:=[sL z x.1 A, .map B]) (v:= .agg #[sL z x.1 A, .map B]) (obs:=[.cell ⟨T,0,none⟩ (sL z x.1 A), .cell ⟨T,1,none⟩ (.map B)]) b (by kernel_rfl) (.cell (c.bx 12 0 rfl rfl) (.cell (c.bx 12 1 rfl rfl) .nil)) ?_)))))))))
   obtain rfl:=some_eq G
   exact ⟨_,rfl,V,z,A,B,(zt (zt (zt (zt (zt (zt (zt k2 k3) k4) k5) U) k7) k8) H),rfl,(St.pick 16 [15] c (by kernel_rfl)),(SliceR.mono H a7),(MapR.mono H a8)⟩
  have G:=cond_f a0 a6
  refine c_skip (n_block (p_roundN F (j:=9) rfl fun m o b c=>?_))
  have m:=St.drop 3 b
  refine c_t [] [0,1,2,23] c .nil fun c b=>w_if_false b (by kernel_rfl) (c_skip (n_block (n_then (⟨n1,Nat.lt_succ_self n1,z7,r2,x.1,x.2,(w64 (y - (if I<y then I else y))),z,A,B,(zt (zt (zt (zt (zt k3 k4) k5) U) k7) k8),b.to,(St.drop 6 m),a7,a8,G⟩))))
 have G:=cond_f ab ad
 refine c_exit 0 (x_then (x_then (x_block (c_fall [] (.tuple #[]) ac .nil (⟨_,rfl,fun b c=>?_⟩)))))
 refine p_jump0 a9 (j:=3) rfl (fun h=>by cases h) fun m b=>n_block (n_then (c_sr (c_n 1 [sL Z Y q1, .map e2] [4,50] c (.cell (b.bx 7 0 rfl rfl) (.cell (b.bx 7 1 rfl rfl) .nil)) fun p m=>(c_st 9 [sL Z Y q1, .map e2] b m rfl fun q t o b=>tv (c_dt (c_ret (p_retM b (p_mark o (j:=4) rfl fun u c=>(p_end (os:=[sL Z Y q1, .map e2]) (v:= .agg #[sL Z Y q1, .map e2]) (obs:=[.cell ⟨T,0,none⟩ (sL Z Y q1), .cell ⟨T,1,none⟩ (.map e2)]) b (by kernel_rfl) (.cell (c.bx 9 0 rfl rfl) (.cell (c.bx 9 1 rfl rfl) .nil)) ?_)))))))))
 obtain rfl:=some_eq G
 exact ⟨_,rfl,z2,Z,q1,e2,(zt k2 k3),rfl,(St.pick 13 [12] c (by kernel_rfl)),ae,af⟩
def F97 (fuel:Nat) (x0:Pl) (x1k:Int) (x1o:Int) (x1f:Int) (x1t:Int) (x1m:Int):Option (List Part×List (Int×Bool)×Pl) :=
  ((F96 fuel x0 x1k x1o x1f x1t x1m).bind fun r1=>((F107 fuel r1.2.2 x1t r1.1 r1.2.1).bind fun r2=>(some (r1.1,r1.2.1,r2))))
set_option maxRecDepth 100000 in
theorem f97_ok (fuel:Nat) (x0:Pl) (x1k:Int) (x1o:Int) (x1f:Int) (x1t:Int) (x1m:Int) (r:List Part×List (Int×Bool)×Pl) (hr:F97 fuel x0 x1k x1o x1f x1t x1m=some r) (h:Zone) (L:List Atom) (w:World) (b_x0:Nat) (hS:St h (plA 69 49 101 b_x0 x0::L) w)  :
    Calls Tryz.prog 97 #[pB b_x0 0, .agg #[vI x1k,vI x1o,vI x1f,vI x1t,vI x1m]] w fun e w'=>∃v,e= .returned v∧(∃h',∃o0:Option Addr,∃c0:Nat,∃o1:Option Nat,Zone.le h h'∧v= .agg #[.slice o0 r.1.length c0, .map o1]∧St h' (plA 69 49 101 b_x0 r.2.2::L) w'∧SliceR PartT h' o0 c0 r.1∧MapR Value.bool h' o1 r.2.1):=by
 refine calls_intro (N:=15) Tryz.func97 (by kernel_rfl) fun a hf=>c_sr (c_box [vI x1k,vI x1o,vI x1f,vI x1t,vI x1m] 74 hS hf fun g k l c d=>tv (c_box [N0, .map none] 103 c d fun m n o b f=>tv (c_dt (c_sr (c_n 2 [vI x1k,vI x1o,vI x1f,vI x1t,vI x1m] [0,3,4,6,7] f (.cell (b.bx 1 0 rfl rfl) (.cell (b.bx 1 1 rfl rfl) (.cell (b.bx 1 2 rfl rfl) (.cell (b.bx 1 3 rfl rfl) (.cell (b.bx 1 4 rfl rfl) .nil))))) fun p q=>?_)))))
 have b:=St.swapTo (i:=3) (j:=0) (St.addEmp b) rfl rfl (by decide)
 have c:=b
 obtain ⟨f,b,s⟩:=bind_some hr
 refine c_call q (f96_ok fuel x0 x1k x1o x1f x1t x1m f b h _ _ b_x0 c ) ?_
 rintro c d m ⟨o,g,k,l,x,rfl,b,t,u⟩ n
 have b:=St.swapTo (i:=0) (j:=3) b rfl rfl (by decide)
 have b:=b
 refine tv (c_box [N0, .map none] 103 b n fun d m n b c=>tv (c_st 0 [sL g f.1 k, .map l] b c rfl fun d m b c=>tv (c_dt (c_sr (c_n 4 [vI x1t,sL g f.1 k, .map l] [4,5,9,11,12] c (.cell (b.bx 3 3 rfl rfl) (.cell (b.bx 0 0 rfl rfl) (.cell (b.bx 0 1 rfl rfl) .nil))) fun c m=>?_)))))
 have b:=St.swapTo (i:=5) (j:=0) (St.addEmp b) rfl rfl (by decide)
 have d:=b
 obtain ⟨b,c,s⟩:=bind_some s
 refine c_call m (f107_ok fuel f.2.2 x1t f.1 f.2.1 b c o _ _ b_x0 d g k t l u) ?_
 rintro c d n ⟨q,m,rfl,b⟩ o
 have b:=St.swapTo (i:=0) (j:=5) b rfl rfl (by decide)
 have b:=b
 refine tv (c_dt (c_sr (c_n 1 [sL g f.1 k, .map l] [4,14] o (.cell (b.bx 1 0 rfl rfl) (.cell (b.bx 1 1 rfl rfl) .nil)) fun n c=>(c_st 3 [sL g f.1 k, .map l] b c rfl fun o p b d=>tv (c_dt (c_ret (c_rt [sL g f.1 k, .map l] (.agg #[sL g f.1 k, .map l]) d (.cell (b.bx 3 0 rfl rfl) (.cell (b.bx 3 1 rfl rfl) .nil)) ?_)))))))
 obtain rfl:=some_eq s
 exact ⟨_,rfl,q,g,k,l,(zt x m),rfl,(St.pick 6 [5] b (by kernel_rfl)),(SliceR.mono m t),(MapR.mono m u)⟩
def F98_j1 (k1:Pl→(List Part)→(List (Int×Bool))→Int→Option (List Part×List (Int×Bool)×Pl)) (y1:Int) (y2:Pl) (y3:List Part) (y4:List (Int×Bool)):Option (List Part×List (Int×Bool)×Pl) :=
  (k1 y2 y3 y4 (w64 (y1 + (1:Int))))
def F98_l2 (fuel:Nat) (x1f:Int) (p1:List (List Part)) (p2:List (List (Int×Bool))) (r1:List Int):Nat→Pl→(List Part)→(List (Int×Bool))→Int→Option (List Part×List (Int×Bool)×Pl)
  | 0,_,_,_,_=>none
  | n1 + 1,y5,y6,y7,y1 =>
    let k1:Pl→(List Part)→(List (Int×Bool))→Int→Option (List Part×List (Int×Bool)×Pl):=F98_l2 fuel x1f p1 p2 r1 n1
    (cond (decide (y1<(r1.length:Int))) ((getI r1 y1).bind fun p3=>((getI p1 y1).bind fun p4=>((F39 fuel p4 p3).bind fun r2=>((getI p2 y1).bind fun p5=>((F109 fuel y5 x1f r2.2 p5).bind fun r3=>(cond (decide (p3 > (0:Int))) ((getI p2 y1).bind fun p6=>((F111 fuel y6 y7 r2.1 p6).bind fun r4=>(F98_j1 k1 y1 r3 r4.1 r4.2))) (F98_j1 k1 y1 r3 y6 y7))))))) (some (y6,y7,y5)))
def F98_l1 (fuel:Nat) (x0:Pl) (x1f:Int) (x1m:Int) (p1:List (List Part)):Nat→(List Int)→Int→Option (List Part×List (Int×Bool)×Pl)
  | 0,_,_=>none
  | n2 + 1,y8,y9 =>
    let k2:(List Int)→Int→Option (List Part×List (Int×Bool)×Pl):=F98_l1 fuel x0 x1f x1m p1 n2
    (cond (decide (y9<(p1.length:Int))) ((getI p1 y9).bind fun p7=>((F38 fuel p7).bind fun r5=>((appC y8 ([r5])).bind fun d1=>(k2 d1 (w64 (y9 + (1:Int))))))) ((getI x0.may x1f).bind fun p2=>((F70 fuel x1m y8).bind fun r1=>(F98_l2 fuel x1f p1 p2 r1 fuel (⟨x0.lots,(x0.holds.set (Int.toNat x1f) ([])),(x0.may.set (Int.toNat x1f) ([]))⟩:Pl) ([]) ([]) 0))))
def F98 (fuel:Nat) (x0:Pl) (x1k:Int) (x1o:Int) (x1f:Int) (x1t:Int) (x1m:Int):Option (List Part×List (Int×Bool)×Pl) :=
  ((getI x0.holds x1f).bind fun p1=>(F98_l1 fuel x0 x1f x1m p1 fuel ([]) 0))
set_option maxRecDepth 100000 in
theorem f98_ok (fuel:Nat) (x0:Pl) (x1k:Int) (x1o:Int) (x1f:Int) (x1t:Int) (x1m:Int) (r:List Part×List (Int×Bool)×Pl) (hr:F98 fuel x0 x1k x1o x1f x1t x1m=some r) (h:Zone) (L:List Atom) (w:World) (b_x0:Nat) (hS:St h (plA 69 49 101 b_x0 x0::L) w)  :
    Calls Tryz.prog 98 #[pB b_x0 0, .agg #[vI x1k,vI x1o,vI x1f,vI x1t,vI x1m]] w fun e w'=>∃v,e= .returned v∧(∃h',∃o0:Option Addr,∃c0:Nat,∃o1:Option Nat,Zone.le h h'∧v= .agg #[.slice o0 r.1.length c0, .map o1]∧St h' (plA 69 49 101 b_x0 r.2.2::L) w'∧SliceR PartT h' o0 c0 r.1∧MapR Value.bool h' o1 r.2.1):=by
 refine calls_intro (N:=103) Tryz.func98 (by kernel_rfl) fun a hf=>c_sr (c_box [vI x1k,vI x1o,vI x1f,vI x1t,vI x1m] 74 hS hf fun b1 o p f g=>tv (c_box [N0, .map none] 103 f g fun b2 t u m l=>tv (c_dt (c_sq [] [0,3,4,5] l .nil fun y z=>(c_seq ?_)))))
 obtain ⟨e1,q1,H,v2,v3,v4,v5,v6,v7,v8,v9,J,K,P,Q,R,S,U,V,W,a2,f⟩:=m.plOpen (i:=2) rfl
 obtain ⟨M,a1,q⟩:=bind_some hr
 obtain ⟨e2,q2,G,I,f⟩:=f.ownOpen (j:=0) rfl a1
 have f:=f.drew
 refine c_sqD [(0,true),(1,true),(2,true),(3,true),(4,true),(5,true),(6,true),(7,true),(8,true),(9,true)] [] [vI x1f,sL e2 M q2] [0,3,4,5,22,23,24] z (.cell (f.bx 4 2 rfl rfl) (.prop I (.cell ((arrAddr b_x0 1 (Int.toNat x1f)) ▸ (f.box (i:=5) rfl (getElem?_app_right [sL e1 x0.lots q1] _ _ G [J,K,P,Q,R,S,U,V,W]))) .nil))) .nil fun g l=>?_
 refine c_block 0 ?_
 have f:=f.ownNil Ty.int 3
 refine c_loop (fun n a w=>∃y:Zone,∃y8:List Int,∃A:Int,∃e3:Option Addr,∃q3:Nat,Zone.le h y∧Fr a 103 [(0,pB b_x0 0),(3,pB b1 0),(4,pB b2 0),(5,sL e3 y8 q3),(22,sL e2 M q2),(23,vI (M.length:Int)),(24,vI A)]∧St y (ownS Ty.int 3 e3 q3 y8::ownS (Ty.slice PartT) 49 e2 q2 M::ownH (Ty.slice PartT) 49 [H,v2,v3,v4,v5,v6,v7,v8,v9] x0.holds (Int.toNat x1f)::ownA (Ty.map Value.bool) 101 [J,K,P,Q,R,S,U,V,W] x0.may::box b2 [N0, .map none] 103::box b1 [vI x1k,vI x1o,vI x1f,vI x1t,vI x1m] 74::box b_x0 [sL e1 x0.lots q1,H,v2,v3,v4,v5,v6,v7,v8,v9,J,K,P,Q,R,S,U,V,W] 69::L) w∧(F98_l1 fuel x0 x1f x1m M n y8 A)=some r) fuel ⟨h,[],0,none,0,zr,l.to,f,q⟩ ?_
 rintro f g l ⟨y,y8,A,e3,q3,k3,m,C,X⟩
 cases f with
 | zero=>cases X
 | succ F =>
 refine c_sq [] [0,3,4,5,22,23,24,25] m .nil fun f D=>c_seq (c_if (decide (A<(M.length:Int))) D (fun B=>?_) (fun B=>?_))
 ·have q:=cond_t B X
  refine c_skip (n_then (c_seq (c_block 1 (c_sr ?_))))
  obtain ⟨p,f,q⟩:=bind_some q
  obtain ⟨g,m,o,l,f,t⟩:=C.ownGet (j:=1) rfl f
  obtain ⟨f,l,rfl,z⟩:=f
  refine c_n 2 [.pointer (some g),sL f p l] [0,3,4,5,22,23,24,27] D (.prop m (.prop o (.cell (t 0 _ rfl) .nil))) fun m g=>c_box [N0] 49 C g fun o t u g m=>tv (c_st 0 [sL f p l] g m rfl fun o t m g=>tv (c_dt (c_reg (c_n 2 [sL f p l] [0,3,4,22,23,24,28,29] g (.cell (m.bx 0 0 rfl rfl) .nil) fun g t=>?_))))
  obtain ⟨g,o,q⟩:=bind_some q
  refine c_call t (f38_ok fuel p g o y _ _ m f l z) ?_
  rintro f o p ⟨u,y,rfl,l⟩ m
  refine tv (p_box (i:=3) (d:=(some 31)) (cs:=[vI g]) (T:=3) (v:=fun f=> .slice (some ⟨f,0,none⟩) 1 1) l m (fun b=>by kernel_rfl) fun f m o l p=>tv ?_)
  have l:=l.ownBox (T:=Ty.int) (E:=3) (n:=1) (xs:=[g]) (i:=0) rfl (Rows.cons (c:=[vI g]) rfl rfl) rfl (by decide)
  obtain ⟨t,m,q⟩:=bind_some q
  refine p_append (T:=Ty.int) (i:=4) (j:=2) (d:=some 32) (o2:=(some ⟨f,0,none⟩)) (c2:=1) (ys:=([g])) el76 l p rfl (by kernel_rfl) (l.ownSrc (j:=0) rfl) m fun g l m o p f=>tv (c_z [] [0,3,4,5,22,23,24] f .nil fun m f=>n_block (n_then (c_q [] [0,3,4,5,22,23,24] f .nil fun m f=>(n_then (⟨F,Nat.lt_succ_self F,u,t,(w64 (A + (1:Int))),g,l,(zt k3 y),f.to,(St.drop 2 p),q⟩)))))
 have q:=cond_f B X
 refine c_exit 0 (x_then (x_then (x_block (n_then ?_))))
 obtain ⟨O,a0,q⟩:=bind_some q
 obtain ⟨Y,Z,g,C,f⟩:=C.ownOpen (j:=3) rfl a0
 have f:=f.drew
 refine c_sqD [(0,true),(1,true),(2,true),(3,true),(4,true),(5,true),(6,true),(7,true),(8,true),(9,true),(10,true),(11,true),(12,true),(13,true),(14,true),(15,true),(16,true)] [] [vI x1f,sL e2 M q2,vI x1f,sL Y O Z] [0,3,4,5,8,9] D (.cell (f.bx 6 2 rfl rfl) (.prop I (.cell ((arrAddr b_x0 1 (Int.toNat x1f)) ▸ (f.box (i:=7) rfl (getElem?_app_right [sL e1 x0.lots q1] _ _ G [J,K,P,Q,R,S,U,V,W]))) (.cell (f.bx 6 2 rfl rfl) (.prop C (.cell ((arrAddr b_x0 10 (Int.toNat x1f)) ▸ (f.box (i:=7) rfl (getElem?_app_right [sL e1 x0.lots q1,H,v2,v3,v4,v5,v6,v7,v8,v9] _ _ g []))) .nil)))))) .nil fun g l=>?_
 refine c_seq ?_
 have g:=f.drew
 have f:=Sub.of zr (g.mask (i:=7) rfl)
 refine c_regD [(0,true),(1,true),(2,true),(3,true),(4,true),(5,true),(6,true),(7,true),(8,true),(9,true),(11,true),(12,true),(10,false),(13,true),(14,false)] [14] _ f (c_S 12 [vI x1f,vI x1f] [0,3,4,5,8,9,54,58,60] f l (fun _ s=>(.cell (s.bx 6 2 rfl rfl) (.cell (s.bx 6 2 rfl rfl) (.prop I .nil)))) .nil fun f l=>?_)
 have f:=g.ownNil (Ty.slice PartT) 49
 refine p_storeA (i:=10) (j:=8) (b:=b_x0) (ix:=x1f) (pre:=[sL e1 x0.lots q1]) (vs:=[H,v2,v3,v4,v5,v6,v7,v8,v9]) (post:=[J,K,P,Q,R,S,U,V,W]) (v:=N0) f l rfl (by have F:=I.1; have f:=I.2; simp at f ⊢; omega) (by kernel_rfl) rfl fun l m g G=>⟨fun _=>Sub.of zr ((St.drop 1 g).mask (i:=7) rfl),?_⟩
 obtain ⟨o,p,t,u,y,z,A,B,D,H⟩:=nine (vs:=[H,v2,v3,v4,v5,v6,v7,v8,v9].set (Int.toNat x1f) (N0)) (by simp)
 rw [H] at g
 have l:[o,p,t,u,y,z,A,B,D][Int.toNat x1f]? =some (N0):=by rw [← H]; exact List.getElem?_set_self (by have F:=I.1; have f:=I.2; simp at f ⊢; omega)
 have g:=g
 have l:=Sub.of zr ((St.drop 1 g).mask (i:=7) rfl)
 refine c_S 1 [] [0,3,4,5,8,9,61] l G (fun _ s=>(.prop C .nil)) .nil fun m l=>?_
 have g:=g.ownNil (Ty.map Value.bool) 101
 refine p_storeA (i:=14) (j:=9) (b:=b_x0) (ix:=x1f) (pre:=[sL e1 x0.lots q1,o,p,t,u,y,z,A,B,D]) (vs:=[J,K,P,Q,R,S,U,V,W]) (post:=[]) (v:=N0) g l rfl (by have F:=C.1; have f:=C.2; simp at f ⊢; omega) (by kernel_rfl) rfl fun l m g D=>⟨fun e=>absurd e (by decide),?_⟩
 obtain ⟨l,m,o,p,t,u,y,z,A,B⟩:=nine (vs:=[J,K,P,Q,R,S,U,V,W].set (Int.toNat x1f) (N0)) (by simp)
 rw [B] at g
 have f:[l,m,o,p,t,u,y,z,A][Int.toNat x1f]? =some (N0):=by rw [← B]; exact List.getElem?_set_self (by have F:=C.1; have f:=C.2; simp at f ⊢; omega)
 have f:=g
 refine c_done ?_
 have f:=f.ownClose (j:=5) (k:=1) rfl rfl (by decide) (List.getElem?_eq_some_iff.1 (getI_spec a1).2).1
 simp only [List.length_nil] at f
 rw [H] at f
 have f:=f.ownClose (j:=6) (k:=0) rfl rfl (by decide) (List.getElem?_eq_some_iff.1 (getI_spec a0).2).1
 simp only [List.length_nil] at f
 rw [B] at f
 have f:=f.plClose (i:=9) (j:=5) (k:=6) rfl (SliceR.mono k3 a2) rfl rfl (by decide) (by decide) (by decide)
 refine n_then (c_sr (c_box [N0, .map none] 103 f D fun u l m f g=>tv (c_dt (c_seq (c_sr (c_n 3 [vI x1m] [0,3,4,8,9,10,63,64] g (.cell (f.bx 9 4 rfl rfl) .nil) fun o p=>?_))))))
 obtain ⟨l,k5,m,o⟩:=f.share (j:=4) rfl
 obtain ⟨f,g,q⟩:=bind_some q
 refine c_call p (f70_ok fuel x1m y8 f g l _ _ m e3 q3 o) ?_
 rintro m o p ⟨g,y,z,k6,rfl,t,A⟩ l
 refine tv (c_t [] [0,3,4,8,9,10,65,66,67] l .nil fun m l=>c_block 2 (c_loop (fun n a w=>∃Q:Zone,∃D:Pl,∃H:List Part,∃y7:List (Int×Bool),∃S:Int,∃I:Option Addr,∃J:Nat,∃K:Option Nat,Zone.le g Q∧Fr a 103 [(0,pB b_x0 0),(3,pB b1 0),(4,pB b2 0),(8,sL e2 M q2),(9,sL Y O Z),(10,pB u 0),(65,sL y f z),(66,vI (f.length:Int)),(67,vI S)]∧St Q (box u [sL I H J, .map K] 103::emp::emp::ownS (Ty.map Value.bool) 101 Y Z O::emp::ownS (Ty.slice PartT) 49 e2 q2 M::emp::emp::box b2 [N0, .map none] 103::box b1 [vI x1k,vI x1o,vI x1f,vI x1t,vI x1m] 74::plA 69 49 101 b_x0 D::L) w∧SliceR PartT Q I J H∧MapR Value.bool Q K y7∧(F98_l2 fuel x1f M O f n D H y7 S)=some r) fuel ⟨g,(⟨x0.lots,(x0.holds.set (Int.toNat x1f) ([])),(x0.may.set (Int.toNat x1f) ([]))⟩:Pl),[],[],0,none,0,none,zr,l.to,t,SliceR.nil' _ _,(MapR.nil' _ _),q⟩ ?_))
 rintro g l m ⟨Q,D,H,y7,S,I,J,K,k7,o,a0,a6,a7,a5⟩
 cases g with
 | zero=>cases a5
 | succ n1 =>
 refine c_sq [] [0,3,4,8,9,10,65,66,67,68] o .nil fun g a4=>c_seq (c_if (decide (S<(f.length:Int))) a4 (fun a3=>?_) (fun a3=>?_))
 ·have q:=cond_t a3 a5
  refine c_skip (n_then (c_mid (fun a w=>∃U:Zone,∃y2:Pl,∃y3:List Part,∃y4:List (Int×Bool),∃a1:Option Addr,∃q9:Nat,∃a2:Option Nat,Zone.le Q U∧Fr a 103 [(0,pB b_x0 0),(3,pB b1 0),(4,pB b2 0),(8,sL e2 M q2),(9,sL Y O Z),(10,pB u 0),(65,sL y f z),(66,vI (f.length:Int)),(67,vI S)]∧St U (box u [sL a1 y3 q9, .map a2] 103::emp::emp::ownS (Ty.map Value.bool) 101 Y Z O::emp::ownS (Ty.slice PartT) 49 e2 q2 M::emp::emp::box b2 [N0, .map none] 103::box b1 [vI x1k,vI x1o,vI x1f,vI x1t,vI x1m] 74::plA 69 49 101 b_x0 y2::L) w∧SliceR PartT U a1 q9 y3∧MapR Value.bool U a2 y4∧(F98_j1 (F98_l2 fuel x1f M O f n1) S y2 y3 y4)=some r) ?_ ?_))
  ·skip
   refine c_block 3 ?_
   obtain ⟨F,f,q⟩:=bind_some q
   obtain ⟨f,g,l,o,rfl,m⟩:=SliceR.getI (SliceR.mono k7 A) f
   refine c_sq [.pointer (some f),vI F] [0,3,4,8,9,10,11,12,65,66,67] a4 (.prop g (.prop l (.cell (a0.cell (m 0 _ rfl)) .nil))) fun f y=>c_sr ?_
   obtain ⟨t,f,q⟩:=bind_some q
   obtain ⟨l,m,o,g,f,p⟩:=a0.ownGet (j:=5) rfl f
   obtain ⟨f,g,rfl,u⟩:=f
   refine c_n 5 [.pointer (some l),sL f t g] [0,3,4,8,9,10,11,12,65,66,67,76,77] y (.prop m (.prop o (.cell (p 0 _ rfl) .nil))) fun l m=>?_
   obtain ⟨A,l,q⟩:=bind_some q
   refine c_call m (f39_ok fuel t F A l Q _ _ a0 f g u) ?_
   rintro g l m ⟨G,V,W,y,z,M,rfl,o,Y,P⟩ f
   refine tv (c_n 3 [] [0,3,4,8,9,10,11,12,65,66,67,79,80] f .nil fun g f=>c_box [N0] 49 o f fun l m o f g=>tv (c_box [N0] 49 f g fun l m o f g=>tv (c_st 1 [sL V A.1 W] f g rfl fun l m f g=>tv (c_st 0 [sL y A.2 z] f g rfl fun g l f B=>tv (c_dt (c_seq ?_))))))
   have f:=f.drew
   refine c_regD (rD 10 [9]) [9] (fun x=>x=g.drew) rfl ?_
   obtain ⟨C,g,q⟩:=bind_some q
   obtain ⟨l,m,o,t,g,p⟩:=f.ownGet (j:=5) rfl g
   obtain ⟨t,rfl,u⟩:=g
   refine c_E 9 [vI x1f,sL y A.2 z, .pointer (some l), .map t] [0,3,4,8,9,10,11,12,13,65,66,67,81,83,89] B (.cell (f.bx 11 2 rfl rfl) (.cell (f.bx 0 0 rfl rfl) (.prop m (.prop o (.cell (p 0 _ rfl) .nil))))) .nil fun g l=>?_
   have f:=St.swapTo (i:=13) (j:=0) (St.addEmp f) rfl rfl (by decide)
   have g:=f
   obtain ⟨O,f,X⟩:=bind_some q
   refine c_call l (f109_ok fuel D x1f A.2 C O f G _ _ b_x0 g y z P t u) ?_
   rintro g o l ⟨R,u,rfl,f⟩ m
   have f:=St.swapTo (i:=0) (j:=13) f rfl rfl (by decide)
   have P:=f
   refine ⟨fun e=>absurd e (by decide),?_⟩
   refine c_dt (c_sq [] [0,3,4,8,9,10,11,13,65,66,67,92] m .nil fun f G=>(c_if (decide (F > (0:Int))) G (fun F=>?_) (fun F=>?_)))
   ·have q:=cond_t F X
    have f:=P.drew
    refine c_regD (rD 9 [7,8]) [7,8] (fun x=>x=o.drew) rfl ?_
    obtain ⟨z,g,q⟩:=bind_some q
    obtain ⟨m,o,p,l,g,t⟩:=f.ownGet (j:=6) rfl g
    obtain ⟨l,rfl,y⟩:=g
    refine c_E 7 [sL I H J, .map K,sL V A.1 W, .pointer (some m), .map l] [0,3,4,8,9,10,65,66,67,93,99] G (.cell (f.bx 3 0 rfl rfl) (.cell (f.bx 3 1 rfl rfl) (.cell (f.bx 2 0 rfl rfl) (.prop o (.prop p (.cell (t 0 _ rfl) .nil)))))) .nil fun g o=>?_
    obtain ⟨g,m,q⟩:=bind_some q
    refine c_call o (f111_ok fuel H y7 A.1 z g m R _ _ f I J (SliceR.mono (zt M u) a6) K (MapR.mono (zt M u) a7) V W (SliceR.mono u Y) l y) ?_
    rintro t y z ⟨A,f,l,m,B,rfl,o,C,D⟩ p
    refine ⟨fun e=>absurd e (by decide),?_⟩
    refine c_st 3 [sL f g.1 l, .map m] o p rfl fun t y o p=>⟨fun e=>absurd e (by decide),?_⟩
    refine c_done (n_block (n_then (⟨A,O,g.1,g.2,f,l,m,(zt (zt M u) B),p.to,(St.drop 3 o),C,D,q⟩)))
   have q:=cond_f F X
   refine c_skip (n_block (n_then (⟨R,O,H,y7,I,J,K,(zt M u),G.to,(St.drop 3 P),(SliceR.mono (zt M u) a6),(MapR.mono (zt M u) a7),q⟩)))
  rintro g l ⟨U,y2,y3,y4,a1,q9,a2,m,f,o,p,t,q⟩
  refine c_q [] [0,3,4,8,9,10,65,66,67] f .nil fun g f=>n_then (⟨n1,Nat.lt_succ_self n1,U,y2,y3,y4,(w64 (S + (1:Int))),a1,q9,a2,(zt k7 m),f.to,o,p,t,q⟩)
 have q:=cond_f a3 a5
 refine c_exit 2 (x_then (x_then (x_block (n_then (c_sr (c_n 1 [sL I H J, .map K] [4,102] a4 (.cell (a0.bx 0 0 rfl rfl) (.cell (a0.bx 0 1 rfl rfl) .nil)) fun m g=>(c_st 8 [sL I H J, .map K] a0 g rfl fun o p f l=>tv (c_dt (c_ret (c_rt [sL I H J, .map K] (.agg #[sL I H J, .map K]) l (.cell (f.bx 8 0 rfl rfl) (.cell (f.bx 8 1 rfl rfl) .nil)) ?_))))))))))
 obtain rfl:=some_eq q
 exact ⟨_,rfl,Q,I,J,K,(zt (zt (zt k3 k5) k6) k7),rfl,(St.pick 11 [10] f (by kernel_rfl)),a6,a7⟩
def F99 (fuel:Nat) (x0:Pl) (x1k:Int) (x1o:Int) (x1f:Int) (x1t:Int) (x1m:Int):Option (List Part×List (Int×Bool)×Pl) :=
  ((F112 fuel x0 x1f).bind fun r1=>((F113 fuel r1.2.2 x1f).bind fun r2=>((F107 fuel r2 x1f r1.1 r1.2.1).bind fun r3=>(some ([],[],r3)))))
set_option maxRecDepth 100000 in
theorem f99_ok (fuel:Nat) (x0:Pl) (x1k:Int) (x1o:Int) (x1f:Int) (x1t:Int) (x1m:Int) (r:List Part×List (Int×Bool)×Pl) (hr:F99 fuel x0 x1k x1o x1f x1t x1m=some r) (h:Zone) (L:List Atom) (w:World) (b_x0:Nat) (hS:St h (plA 69 49 101 b_x0 x0::L) w)  :
    Calls Tryz.prog 99 #[pB b_x0 0, .agg #[vI x1k,vI x1o,vI x1f,vI x1t,vI x1m]] w fun e w'=>∃v,e= .returned v∧(∃h',∃o0:Option Addr,∃c0:Nat,∃o1:Option Nat,Zone.le h h'∧v= .agg #[.slice o0 r.1.length c0, .map o1]∧St h' (plA 69 49 101 b_x0 r.2.2::L) w'∧SliceR PartT h' o0 c0 r.1∧MapR Value.bool h' o1 r.2.1):=by
 refine calls_intro (N:=20) Tryz.func99 (by kernel_rfl) fun a hf=>c_sr (c_box [vI x1k,vI x1o,vI x1f,vI x1t,vI x1m] 74 hS hf fun g k l c d=>tv (c_box [N0, .map none] 103 c d fun m n o b f=>tv (c_dt (c_sr (c_n 3 [vI x1f] [0,3,4,6,8] f (.cell (b.bx 1 2 rfl rfl) .nil) fun p q=>?_)))))
 have b:=St.swapTo (i:=3) (j:=0) (St.addEmp b) rfl rfl (by decide)
 have c:=b
 obtain ⟨k,b,s⟩:=bind_some hr
 refine c_call q (f112_ok fuel x0 x1f k b h _ _ b_x0 c ) ?_
 rintro c d f ⟨m,n,o,p,x,rfl,b,t,u⟩ g
 have b:=St.swapTo (i:=0) (j:=3) b rfl rfl (by decide)
 have b:=b
 refine tv (c_box [N0, .map none] 103 b g fun d f g b c=>tv (c_st 0 [sL n k.1 o, .map p] b c rfl fun d f b c=>tv (c_dt (c_sr (c_n 3 [vI x1f] [0,3,4,5,10,12] c (.cell (b.bx 3 2 rfl rfl) .nil) fun c d=>?_)))))
 have b:=St.swapTo (i:=5) (j:=0) (St.addEmp b) rfl rfl (by decide)
 have c:=b
 obtain ⟨l,b,s⟩:=bind_some s
 refine c_call d (f113_ok fuel k.2.2 x1f l b m _ _ b_x0 c ) ?_
 rintro c d f ⟨q,m,rfl,b⟩ g
 have b:=St.swapTo (i:=0) (j:=5) b rfl rfl (by decide)
 have b:=b
 refine tv (c_dt (c_sr (c_n 4 [vI x1f,sL n k.1 o, .map p] [4,14,16,17] g (.cell (b.bx 4 2 rfl rfl) (.cell (b.bx 1 0 rfl rfl) (.cell (b.bx 1 1 rfl rfl) .nil))) fun c f=>?_)))
 have b:=St.swapTo (i:=6) (j:=0) (St.addEmp b) rfl rfl (by decide)
 have d:=b
 obtain ⟨b,c,s⟩:=bind_some s
 refine c_call f (f107_ok fuel l x1f k.1 k.2.1 b c q _ _ b_x0 d n o (SliceR.mono m t) p (MapR.mono m u)) ?_
 rintro c d f ⟨l,n,rfl,b⟩ g
 have b:=St.swapTo (i:=0) (j:=6) b rfl rfl (by decide)
 have b:=b
 refine tv (c_dt (c_sr (c_n 1 [] [4,19] g .nil fun f c=>(c_st 4 [N0, .map none] b c rfl fun g k b d=>tv (c_dt (c_ret (c_rt [N0, .map none] (.agg #[N0, .map none]) d (.cell (b.bx 4 0 rfl rfl) (.cell (b.bx 4 1 rfl rfl) .nil)) ?_)))))))
 obtain rfl:=some_eq s
 exact ⟨_,rfl,l,none,0,none,(zt (zt x m) n),rfl,(St.pick 7 [6] b (by kernel_rfl)),SliceR.nil' _ _,(MapR.nil' _ _)⟩
def F51 (fuel:Nat) (x0:Pl) (x1k:Int) (x1o:Int) (x1f:Int) (x1t:Int) (x1m:Int):Option (List Part×List (Int×Bool)×Int×Pl) :=
  ((F78 fuel x0.lots x0.holds x1k x1o x1f x1t x1m).bind fun r1=>(cond (r1 != (0:Int)) (some ([],[],r1,x0)) ((F79 fuel ).bind fun r2=>(cond ((lkK r2 x1k zrow).fn == some 94) ((F94 fuel x0 x1k x1o x1f x1t x1m).bind fun r3=>(some (r3.1,r3.2.1,0,r3.2.2))) (cond ((lkK r2 x1k zrow).fn == some 95) ((F95 fuel x0 x1k x1o x1f x1t x1m).bind fun r4=>(some (r4.1,r4.2.1,0,r4.2.2))) (cond ((lkK r2 x1k zrow).fn == some 96) ((F96 fuel x0 x1k x1o x1f x1t x1m).bind fun r5=>(some (r5.1,r5.2.1,0,r5.2.2))) (cond ((lkK r2 x1k zrow).fn == some 97) ((F97 fuel x0 x1k x1o x1f x1t x1m).bind fun r6=>(some (r6.1,r6.2.1,0,r6.2.2))) (cond ((lkK r2 x1k zrow).fn == some 98) ((F98 fuel x0 x1k x1o x1f x1t x1m).bind fun r7=>(some (r7.1,r7.2.1,0,r7.2.2))) (cond ((lkK r2 x1k zrow).fn == some 99) ((F99 fuel x0 x1k x1o x1f x1t x1m).bind fun r8=>(some (r8.1,r8.2.1,0,r8.2.2))) none)))))))))
set_option maxRecDepth 100000 in
theorem f51_ok (fuel:Nat) (x0:Pl) (x1k:Int) (x1o:Int) (x1f:Int) (x1t:Int) (x1m:Int) (r:List Part×List (Int×Bool)×Int×Pl) (hr:F51 fuel x0 x1k x1o x1f x1t x1m=some r) (h:Zone) (L:List Atom) (w:World) (b_x0:Nat) (hS:St h (plA 69 49 101 b_x0 x0::L) w)  :
    Calls Tryz.prog 51 #[pB b_x0 0, .agg #[vI x1k,vI x1o,vI x1f,vI x1t,vI x1m]] w fun e w'=>∃v,e= .returned v∧(∃h',∃o0:Option Addr,∃c0:Nat,∃o1:Option Nat,Zone.le h h'∧v= .tuple #[.agg #[.slice o0 r.1.length c0, .map o1],vI r.2.2.1]∧St h' (plA 69 49 101 b_x0 r.2.2.2::L) w'∧SliceR PartT h' o0 c0 r.1∧MapR Value.bool h' o1 r.2.1):=by
 refine calls_intro (N:=25) Tryz.func51 (by kernel_rfl) fun a hf=>c_sr (c_box [vI x1k,vI x1o,vI x1f,vI x1t,vI x1m] 74 hS hf fun U m q b f=>tv (c_box [N0, .map none] 103 b f fun V K u l g=>tv (c_t [] [0,3,4] g .nil fun y R=>(c_seq (c_seq ?_)))))
 obtain ⟨u,y,A,B,C,E,F,G,H,I,J,f,g,l,m,q,M,O,P,Q,S,b⟩:=l.plOpen (i:=2) rfl
 have b:=b.drew
 refine c_regD (rD 7 [5]) [5] (fun x=>x=K.drew) rfl (c_E 5 [sL u x0.lots y,A,B,C,E,F,G,H,I,J,vI x1k,vI x1o,vI x1f,vI x1t,vI x1m] [0,3,4,10,11] R (.cell (b.bx 4 0 rfl rfl) (.cell (b.bx 4 1 rfl rfl) (.cell (b.bx 4 2 rfl rfl) (.cell (b.bx 4 3 rfl rfl) (.cell (b.bx 4 4 rfl rfl) (.cell (b.bx 4 5 rfl rfl) (.cell (b.bx 4 6 rfl rfl) (.cell (b.bx 4 7 rfl rfl) (.cell (b.bx 4 8 rfl rfl) (.cell (b.bx 4 9 rfl rfl) (.cell (b.bx 3 0 rfl rfl) (.cell (b.bx 3 1 rfl rfl) (.cell (b.bx 3 2 rfl rfl) (.cell (b.bx 3 3 rfl rfl) (.cell (b.bx 3 4 rfl rfl) .nil))))))))))))))) .nil fun g f=>?_)
 obtain ⟨q,m,T⟩:=bind_some hr
 refine c_call f (lend b (j:=0) rfl (n:=9) rfl fun b L112 f g l=>f78_ok fuel x0.lots x0.holds x1k x1o x1f x1t x1m q m b L112 _ l u y (SliceR.mono f S) A B C E F G H I J g) ?_
 rintro f g l ⟨F,M,rfl,m⟩ b
 refine ⟨fun e=>absurd e (by decide),?_⟩
 refine p_qP 1 [] [(0,pB b_x0 0),(3,pB U 0),(4,pB V 0),(6,vI q)] [] b (by kernel_rfl) (fun _=> .nil) fun b f=>c_done ?_
 have E:=m.plClose (i:=4) (j:=0) (k:=1) rfl (SliceR.mono M S) rfl rfl (by decide) (by decide) (by decide)
 refine n_then (c_sq [] [0,3,4,6,14] f .nil fun b C=>(c_if (q != (0:Int)) C (fun m=>?_) (fun m=>?_)))
 ·have p:=cond_t m T
  refine c_sr (c_n 2 [] [4,15,16] C .nil fun u f=>(c_st 2 [N0, .map none] E f rfl fun y A b g=>tv (c_t [] [4,5] g .nil fun B l=>(c_ret (r_then (c_rt [N0, .map none] (.tuple #[.agg #[N0, .map none],vI q]) l (.cell (b.bx 2 0 rfl rfl) (.cell (b.bx 2 1 rfl rfl) .nil)) ?_))))))
  obtain rfl:=some_eq p
  exact ⟨_,rfl,F,none,0,none,M,rfl,(St.pick 5 [4] b (by kernel_rfl)),SliceR.nil' _ _,(MapR.nil' _ _)⟩
 have p:=cond_f m T
 refine c_skip (n_then (c_seq ?_))
 have g:=E.drew
 have b:=Sub.of zr g
 refine c_regD [(1,true),(2,true),(5,true),(6,true),(0,false),(3,false),(4,true),(7,false),(8,false),(9,true)] [7,8] _ b (c_S 4 [vI x1k,vI x1k,vI x1o,vI x1f,vI x1t,vI x1m] [4,19,22,23] b C (fun _ s=>(.cell (s.bx 3 0 rfl rfl) (.cell (s.bx 3 0 rfl rfl) (.cell (s.bx 3 1 rfl rfl) (.cell (s.bx 3 2 rfl rfl) (.cell (s.bx 3 3 rfl rfl) (.cell (s.bx 3 4 rfl rfl) .nil))))))) .nil fun b f=>?_)
 obtain ⟨J,b,T⟩:=bind_some p
 refine c_call f (f79_ok fuel  J b F _ _ g ) ?_
 rintro b f g ⟨O,l,I,rfl,H,m⟩ q
 refine ⟨fun _=>Sub.of I H,?_⟩
 have b:=Sub.of I H
 refine p_lookup (i:=3) (d:=(some 20)) (t:=142) (o:=l) (k:=x1k) (c:=false) (z:=zrow) (D:=J) q (by kernel_rfl) mp142 (MapR.look m H) fun b f=>⟨fun _=>Sub.of I H,?_⟩
 have b:=Sub.of I H
 refine c_S 1 [] [4,21,22,23] b f (fun _ s=> .nil) .nil fun b K=>?_
 rcases bft ((lkK J x1k zrow).fn == some 94) with B | B
 ·have p:=cond_t B T
  have l:Fr _ 25 [(4,pB V 0),(21, .func (.func 94) #[] #[]),(22,pB b_x0 0),(23, .agg #[vI x1k,vI x1o,vI x1f,vI x1t,vI x1m])]:=Fr.conv K.to (congrArg (fun z=>([(4,pB V 0),(21,fnV z),(22,pB b_x0 0),(23, .agg #[vI x1k,vI x1o,vI x1f,vI x1t,vI x1m])]:FL)) (eq_of_beq B))
  have b:=St.swapTo (i:=5) (j:=0) (St.addEmp H) rfl rfl (by decide)
  have f:=b
  obtain ⟨g,b,p⟩:=bind_some p
  refine c_call l (f94_ok fuel x0 x1k x1o x1f x1t x1m g b O _ _ b_x0 f ) ?_
  rintro f u y ⟨C,l,m,q,E,rfl,b,F,G⟩ A
  have b:=St.swapTo (i:=0) (j:=5) b rfl rfl (by decide)
  have b:=b
  refine ⟨fun e=>absurd e (by decide),?_⟩
  refine c_st 3 [sL l g.1 m, .map q] b A rfl fun u y b f=>⟨fun e=>absurd e (by decide),?_⟩
  refine p_qP 1 [] [(4,pB V 0),(5,vI 0)] [] f (by kernel_rfl) (fun _=> .nil) fun u f=>c_dt (c_ret (c_rt [sL l g.1 m, .map q] (.tuple #[.agg #[sL l g.1 m, .map q],vI 0]) f (.cell (b.bx 3 0 rfl rfl) (.cell (b.bx 3 1 rfl rfl) .nil)) ?_))
  obtain rfl:=some_eq p
  exact ⟨_,rfl,C,l,m,q,(zt (zt M I) E),rfl,(St.pick 6 [5] b (by kernel_rfl)),F,G⟩
 have T:=cond_f B T
 rcases bft ((lkK J x1k zrow).fn == some 95) with B | B
 ·have p:=cond_t B T
  have l:Fr _ 25 [(4,pB V 0),(21, .func (.func 95) #[] #[]),(22,pB b_x0 0),(23, .agg #[vI x1k,vI x1o,vI x1f,vI x1t,vI x1m])]:=Fr.conv K.to (congrArg (fun z=>([(4,pB V 0),(21,fnV z),(22,pB b_x0 0),(23, .agg #[vI x1k,vI x1o,vI x1f,vI x1t,vI x1m])]:FL)) (eq_of_beq B))
  have b:=St.swapTo (i:=5) (j:=0) (St.addEmp H) rfl rfl (by decide)
  have f:=b
  obtain ⟨g,b,p⟩:=bind_some p
  refine c_call l (f95_ok fuel x0 x1k x1o x1f x1t x1m g b O _ _ b_x0 f ) ?_
  rintro f u y ⟨C,l,m,q,E,rfl,b,F,G⟩ A
  have b:=St.swapTo (i:=0) (j:=5) b rfl rfl (by decide)
  have b:=b
  refine ⟨fun e=>absurd e (by decide),?_⟩
  refine c_st 3 [sL l g.1 m, .map q] b A rfl fun u y b f=>⟨fun e=>absurd e (by decide),?_⟩
  refine p_qP 1 [] [(4,pB V 0),(5,vI 0)] [] f (by kernel_rfl) (fun _=> .nil) fun u f=>c_dt (c_ret (c_rt [sL l g.1 m, .map q] (.tuple #[.agg #[sL l g.1 m, .map q],vI 0]) f (.cell (b.bx 3 0 rfl rfl) (.cell (b.bx 3 1 rfl rfl) .nil)) ?_))
  obtain rfl:=some_eq p
  exact ⟨_,rfl,C,l,m,q,(zt (zt M I) E),rfl,(St.pick 6 [5] b (by kernel_rfl)),F,G⟩
 have T:=cond_f B T
 rcases bft ((lkK J x1k zrow).fn == some 96) with B | B
 ·have p:=cond_t B T
  have l:Fr _ 25 [(4,pB V 0),(21, .func (.func 96) #[] #[]),(22,pB b_x0 0),(23, .agg #[vI x1k,vI x1o,vI x1f,vI x1t,vI x1m])]:=Fr.conv K.to (congrArg (fun z=>([(4,pB V 0),(21,fnV z),(22,pB b_x0 0),(23, .agg #[vI x1k,vI x1o,vI x1f,vI x1t,vI x1m])]:FL)) (eq_of_beq B))
  have b:=St.swapTo (i:=5) (j:=0) (St.addEmp H) rfl rfl (by decide)
  have f:=b
  obtain ⟨g,b,p⟩:=bind_some p
  refine c_call l (f96_ok fuel x0 x1k x1o x1f x1t x1m g b O _ _ b_x0 f ) ?_
  rintro f u y ⟨C,l,m,q,E,rfl,b,F,G⟩ A
  have b:=St.swapTo (i:=0) (j:=5) b rfl rfl (by decide)
  have b:=b
  refine ⟨fun e=>absurd e (by decide),?_⟩
  refine c_st 3 [sL l g.1 m, .map q] b A rfl fun u y b f=>⟨fun e=>absurd e (by decide),?_⟩
  refine p_qP 1 [] [(4,pB V 0),(5,vI 0)] [] f (by kernel_rfl) (fun _=> .nil) fun u f=>c_dt (c_ret (c_rt [sL l g.1 m, .map q] (.tuple #[.agg #[sL l g.1 m, .map q],vI 0]) f (.cell (b.bx 3 0 rfl rfl) (.cell (b.bx 3 1 rfl rfl) .nil)) ?_))
  obtain rfl:=some_eq p
  exact ⟨_,rfl,C,l,m,q,(zt (zt M I) E),rfl,(St.pick 6 [5] b (by kernel_rfl)),F,G⟩
 have T:=cond_f B T
 rcases bft ((lkK J x1k zrow).fn == some 97) with B | B
 ·have p:=cond_t B T
  have l:Fr _ 25 [(4,pB V 0),(21, .func (.func 97) #[] #[]),(22,pB b_x0 0),(23, .agg #[vI x1k,vI x1o,vI x1f,vI x1t,vI x1m])]:=Fr.conv K.to (congrArg (fun z=>([(4,pB V 0),(21,fnV z),(22,pB b_x0 0),(23, .agg #[vI x1k,vI x1o,vI x1f,vI x1t,vI x1m])]:FL)) (eq_of_beq B))
  have b:=St.swapTo (i:=5) (j:=0) (St.addEmp H) rfl rfl (by decide)
  have f:=b
  obtain ⟨g,b,p⟩:=bind_some p
  refine c_call l (f97_ok fuel x0 x1k x1o x1f x1t x1m g b O _ _ b_x0 f ) ?_
  rintro f u y ⟨C,l,m,q,E,rfl,b,F,G⟩ A
  have b:=St.swapTo (i:=0) (j:=5) b rfl rfl (by decide)
  have b:=b
  refine ⟨fun e=>absurd e (by decide),?_⟩
  refine c_st 3 [sL l g.1 m, .map q] b A rfl fun u y b f=>⟨fun e=>absurd e (by decide),?_⟩
  refine p_qP 1 [] [(4,pB V 0),(5,vI 0)] [] f (by kernel_rfl) (fun _=> .nil) fun u f=>c_dt (c_ret (c_rt [sL l g.1 m, .map q] (.tuple #[.agg #[sL l g.1 m, .map q],vI 0]) f (.cell (b.bx 3 0 rfl rfl) (.cell (b.bx 3 1 rfl rfl) .nil)) ?_))
  obtain rfl:=some_eq p
  exact ⟨_,rfl,C,l,m,q,(zt (zt M I) E),rfl,(St.pick 6 [5] b (by kernel_rfl)),F,G⟩
 have T:=cond_f B T
 rcases bft ((lkK J x1k zrow).fn == some 98) with B | B
 ·have p:=cond_t B T
  have l:Fr _ 25 [(4,pB V 0),(21, .func (.func 98) #[] #[]),(22,pB b_x0 0),(23, .agg #[vI x1k,vI x1o,vI x1f,vI x1t,vI x1m])]:=Fr.conv K.to (congrArg (fun z=>([(4,pB V 0),(21,fnV z),(22,pB b_x0 0),(23, .agg #[vI x1k,vI x1o,vI x1f,vI x1t,vI x1m])]:FL)) (eq_of_beq B))
  have b:=St.swapTo (i:=5) (j:=0) (St.addEmp H) rfl rfl (by decide)
  have f:=b
  obtain ⟨g,b,p⟩:=bind_some p
  refine c_call l (f98_ok fuel x0 x1k x1o x1f x1t x1m g b O _ _ b_x0 f ) ?_
  rintro f u y ⟨C,l,m,q,E,rfl,b,F,G⟩ A
  have b:=St.swapTo (i:=0) (j:=5) b rfl rfl (by decide)
  have b:=b
  refine ⟨fun e=>absurd e (by decide),?_⟩
  refine c_st 3 [sL l g.1 m, .map q] b A rfl fun u y b f=>⟨fun e=>absurd e (by decide),?_⟩
  refine p_qP 1 [] [(4,pB V 0),(5,vI 0)] [] f (by kernel_rfl) (fun _=> .nil) fun u f=>c_dt (c_ret (c_rt [sL l g.1 m, .map q] (.tuple #[.agg #[sL l g.1 m, .map q],vI 0]) f (.cell (b.bx 3 0 rfl rfl) (.cell (b.bx 3 1 rfl rfl) .nil)) ?_))
  obtain rfl:=some_eq p
  exact ⟨_,rfl,C,l,m,q,(zt (zt M I) E),rfl,(St.pick 6 [5] b (by kernel_rfl)),F,G⟩
 have T:=cond_f B T
 rcases bft ((lkK J x1k zrow).fn == some 99) with B | B
 ·have p:=cond_t B T
  have l:Fr _ 25 [(4,pB V 0),(21, .func (.func 99) #[] #[]),(22,pB b_x0 0),(23, .agg #[vI x1k,vI x1o,vI x1f,vI x1t,vI x1m])]:=Fr.conv K.to (congrArg (fun z=>([(4,pB V 0),(21,fnV z),(22,pB b_x0 0),(23, .agg #[vI x1k,vI x1o,vI x1f,vI x1t,vI x1m])]:FL)) (eq_of_beq B))
  have b:=St.swapTo (i:=5) (j:=0) (St.addEmp H) rfl rfl (by decide)
  have f:=b
  obtain ⟨g,b,p⟩:=bind_some p
  refine c_call l (f99_ok fuel x0 x1k x1o x1f x1t x1m g b O _ _ b_x0 f ) ?_
  rintro f u y ⟨C,l,m,q,E,rfl,b,F,G⟩ A
  have b:=St.swapTo (i:=0) (j:=5) b rfl rfl (by decide)
  have b:=b
  refine ⟨fun e=>absurd e (by decide),?_⟩
  refine c_st 3 [sL l g.1 m, .map q] b A rfl fun u y b f=>⟨fun e=>absurd e (by decide),?_⟩
  refine p_qP 1 [] [(4,pB V 0),(5,vI 0)] [] f (by kernel_rfl) (fun _=> .nil) fun u f=>c_dt (c_ret (c_rt [sL l g.1 m, .map q] (.tuple #[.agg #[sL l g.1 m, .map q],vI 0]) f (.cell (b.bx 3 0 rfl rfl) (.cell (b.bx 3 1 rfl rfl) .nil)) ?_))
  obtain rfl:=some_eq p
  exact ⟨_,rfl,C,l,m,q,(zt (zt M I) E),rfl,(St.pick 6 [5] b (by kernel_rfl)),F,G⟩
 have p:=cond_f B T
 cases p
def F16_j7 (y1:Int) (y2:Int):Option (Bool×Int×Int) :=
  (cond (y2 != (0:Int)) (some (false,0,y2)) (some ((decide (y1<(0:Int))),y1,0)))
def F16_j8 (y1:Int) (y3:Int) (y4:Bool):Option (Bool×Int×Int) :=
  (cond y4 (F16_j7 y1 1) (F16_j7 y1 y3))
def F16_j6 (x2:Int) (x3:Int) (y1:Int) (y3:Int):Option (Bool×Int×Int) :=
  (cond (y3 == (0:Int)) (F16_j8 y1 y3 (x2 == x3)) (F16_j8 y1 y3 false))
def F16_j1 (fuel:Nat) (x0:List Lot) (x2:Int) (x3:Int) (y1:Int) (y5:Option Pl) (y6:Int) (y7:Int):Option (Bool×Int×Int) :=
  (cond (y7 == (0:Int)) ((F47 fuel x0 ([x2,x3])).bind fun r1=>(F16_j6 x2 x3 y1 r1)) (F16_j6 x2 x3 y1 y7))
def F16_j2 (k1:Int→Int→Option (Bool×Int×Int)) (y8:Int) (y9:Int):Option (Bool×Int×Int) :=
  (k1 y9 (w64 (y8 + (1:Int))))
def F16_j3 (k1:Int→Int→Option (Bool×Int×Int)) (y10:Int) (y11:Int) (y8:Int) (y12:Bool):Option (Bool×Int×Int) :=
  (cond y12 (F16_j2 k1 y8 y10) (F16_j2 k1 y8 y11))
def F16_j4 (k1:Int→Int→Option (Bool×Int×Int)) (y10:Int) (y11:Int) (y8:Int) (y13:Int):Option (Bool×Int×Int) :=
  (F16_j3 k1 y10 y11 y8 (decide (y13≥(0:Int))))
def F16_j5 (k1:Int→Int→Option (Bool×Int×Int)) (k2:Int→Option (Bool×Int×Int)) (y10:Int) (y11:Int) (y8:Int) (y14:Int) (y15:Bool):Option (Bool×Int×Int) :=
  (cond y15 (F16_j4 k1 y10 y11 y8 y14) (k2 (w64 (y14 + (1:Int)))))
def F16_l3 (k1:Int→Int→Option (Bool×Int×Int)) (x2:Int) (x3:Int) (y10:Int) (y11:Int) (y8:Int) (p1:List (List (Int×Bool))):Nat→Int→Option (Bool×Int×Int)
  | 0,_=>none
  | n1 + 1,y14 =>
    let k2:Int→Option (Bool×Int×Int):=F16_l3 k1 x2 x3 y10 y11 y8 p1 n1
    (cond (decide (y14<(p1.length:Int))) ((getI p1 y14).bind fun p2=>(cond (lkK p2 x2 false) (F16_j5 k1 k2 y10 y11 y8 y14 (lkK p2 x3 false)) (F16_j5 k1 k2 y10 y11 y8 y14 false))) (F16_j4 k1 y10 y11 y8 (-1)))
def F16_l2 (fuel:Nat) (k3:Pl→Int→Int→Option (Bool×Int×Int)) (x2:Int) (x3:Int) (y10:Int) (r2:List Part×List (Int×Bool)×Int×Pl):Nat→Int→Int→Option (Bool×Int×Int)
  | 0,_,_=>none
  | n2 + 1,y11,y8 =>
    let k1:Int→Int→Option (Bool×Int×Int):=F16_l2 fuel k3 x2 x3 y10 r2 n2
    (cond (decide (y8<(9:Int))) ((getI r2.2.2.2.may y8).bind fun p1=>(cond (decide (y11<(0:Int))) (F16_l3 k1 x2 x3 y10 y11 y8 p1 fuel 0) (F16_j3 k1 y10 y11 y8 false))) (k3 r2.2.2.2 y11 (w64 (y10 + (1:Int)))))
def F16_l1 (fuel:Nat) (x0:List Lot) (x1:List Deed) (x2:Int) (x3:Int):Nat→Pl→Int→Int→Option (Bool×Int×Int)
  | 0,_,_,_=>none
  | n3 + 1,y16,y17,y10 =>
    let k3:Pl→Int→Int→Option (Bool×Int×Int):=F16_l1 fuel x0 x1 x2 x3 n3
    (cond (decide (y10<(x1.length:Int))) ((getI x1 y10).bind fun p3=>((F51 fuel y16 p3.kind p3.lot p3.frm p3.to p3.mass).bind fun r2=>(cond (r2.2.2.1 != (0:Int)) (F16_j1 fuel x0 x2 x3 y17 none y10 r2.2.2.1) (F16_l2 fuel k3 x2 x3 y10 r2 fuel y17 0)))) (F16_j1 fuel x0 x2 x3 y17 (some y16) (x1.length:Int) 0))
def F16 (fuel:Nat) (x0:List Lot) (x1:List Deed) (x2:Int) (x3:Int):Option (Bool×Int×Int) :=
  ((F49 fuel x0 x1).bind fun r3=>(cond (r3 != (0:Int)) (F16_j1 fuel x0 x2 x3 (-1) none 0 r3) ((F50 fuel x0 ([[],[],[],[],[],[],[],[],[]])).bind fun r4=>(F16_l1 fuel x0 x1 x2 x3 fuel r4 (-1) 0))))
set_option maxRecDepth 100000 in
theorem f16_ok (fuel:Nat) (x0:List Lot) (x1:List Deed) (x2:Int) (x3:Int) (r:Bool×Int×Int) (hr:F16 fuel x0 x1 x2 x3=some r) (h:Zone) (L:List Atom) (w:World) (hS:St h L w) (o_x0:Option Addr) (c_x0:Nat) (hx_x0:SliceR LotT h o_x0 c_x0 x0) (o_x1:Option Addr) (c_x1:Nat) (hx_x1:SliceR DeedT h o_x1 c_x1 x1) :
    Calls Tryz.prog 16 #[.slice o_x0 x0.length c_x0, .slice o_x1 x1.length c_x1,vI x2,vI x3] w fun e w'=>∃v,e= .returned v∧(∃h',Zone.le h h'∧v= .tuple #[.bool r.1,vI r.2.1,vI r.2.2]∧St h' L w'):=by
 refine calls_intro (N:=43) Tryz.func16 (by kernel_rfl) fun a hf=>c_sr (c_box [vI x2] 3 hS hf fun b1 C F g l=>tv (c_box [vI x3] 3 g l fun b2 G H m p=>tv (c_t [] [0,1,6,7] p .nil fun I q=>(c_sr (c_box [vI 0] 3 m q fun b3 J K s u=>tv (c_st 0 [vI (-1)] s u rfl fun M O Q x=>tv (c_dt (c_sr (c_n 3 [] [0,6,7,11,16,17,18] x .nil fun P y=>(c_call (f:=18) (args:= #[sL o_x0 x0 c_x0,sL o_x1 x1 c_x1, .func (.func 44) #[] #[pB b3 0,pB b1 0,pB b2 0]]) (Φ:=fun v w=>∃z1:Zone,∃y1:Int,∃y5:Option Pl,∃y6:Int,∃y7:Int,∃p4:Option Addr,Zone.le h z1∧v= .tuple #[.pointer p4,vI y6,vI y7]∧St z1 (plO 69 49 101 p4 y5::box b3 [vI y1] 3::box b2 [vI x3] 3::box b1 [vI x2] 3::L) w∧(F16_j1 fuel x0 x2 x3 y1 y5 y6 y7)=some r) y ?_ ?_))))))))))
 ·refine calls_intro (N:=50) Tryz.func18 (by kernel_rfl) fun l g=>c_sq [] [0,1,2] g .nil fun l g=>c_seq (c_sr (c_n 2 [] [0,1,2,15,16] g .nil fun g l=>?_))
  obtain ⟨p,g,B⟩:=bind_some hr
  refine c_call l (f49_ok fuel x0 x1 p g h _ _ Q o_x0 c_x0 hx_x0 o_x1 c_x1 hx_x1) ?_
  rintro l m q ⟨s,k4,rfl,u⟩ g
  refine tv (c_t [] [0,1,2,9] g .nil fun l g=>c_sq [] [0,1,2,9,19] g .nil fun g m=>c_if (p != (0:Int)) m (fun l=>?_) (fun l=>?_))
  ·have A:=cond_t l B
   refine c_sq [] [6,7,8] m .nil fun q g=>c_ret (r_then (c_rt [] (.tuple #[.pointer none,vI 0,vI p]) g .nil ?_))
   have g:=u.plNone 69 49 101
   exact ⟨_,rfl,s, -1,none,0,p,none,k4,rfl,(St.pick 1 [0] g (by kernel_rfl)),A⟩
  have A:=cond_f l B
  refine c_skip (n_then (c_sr (c_n 2 [] [1,2,22] m .nil fun g l=>?_)))
  obtain ⟨m,g,A⟩:=bind_some A
  refine c_call l (f50_ok fuel x0 ([[],[],[],[],[],[],[],[],[]]) m g s _ _ u o_x0 c_x0 (SliceR.mono k4 hx_x0) (N0) (N0) (N0) (N0) (N0) (N0) (N0) (N0) (N0) ⟨rfl,(Rows.cons (c:=[_]) (sliceRep (SliceR.nil' _ _)) (Rows.cons (c:=[_]) (sliceRep (SliceR.nil' _ _)) (Rows.cons (c:=[_]) (sliceRep (SliceR.nil' _ _)) (Rows.cons (c:=[_]) (sliceRep (SliceR.nil' _ _)) (Rows.cons (c:=[_]) (sliceRep (SliceR.nil' _ _)) (Rows.cons (c:=[_]) (sliceRep (SliceR.nil' _ _)) (Rows.cons (c:=[_]) (sliceRep (SliceR.nil' _ _)) (Rows.cons (c:=[_]) (sliceRep (SliceR.nil' _ _)) (Rows.cons (c:=[_]) (sliceRep (SliceR.nil' _ _)) rfl)))))))))⟩) ?_
  rintro p q s ⟨l,b4,k5,rfl,u⟩ g
  refine tv (c_t [] [1,2,10] g .nil fun p g=>c_seq (c_sq [] [1,2,10,24,25,26] g .nil fun p g=>(c_block 0 (c_loop (fun n a w=>∃z4:Zone,∃am:Pl,∃ah:Int,∃a4:Int,Zone.le l z4∧Fr a 50 [(1,sL o_x1 x1 c_x1),(2, .func (.func 44) #[] #[pB b3 0,pB b1 0,pB b2 0]),(10,pB b4 0),(24,sL o_x1 x1 c_x1),(25,vI (x1.length:Int)),(26,vI a4)]∧St z4 (plA 69 49 101 b4 am::box b3 [vI ah] 3::box b2 [vI x3] 3::box b1 [vI x2] 3::L) w∧(F16_l1 fuel x0 x1 x2 x3 n am ah a4)=some r) fuel ⟨l,m, -1,0,zr,g.to,u,A⟩ ?_))))
  rintro g l m ⟨z4,am,ah,a4,k6,p,ad,ar⟩
  cases g with
  | zero=>cases ar
  | succ n3 =>
  refine c_sq [] [1,2,10,24,25,26,27] p .nil fun g aq=>c_seq (c_if (decide (a4<(x1.length:Int))) aq (fun ap=>?_) (fun ap=>?_))
  ·have A:=cond_t ap ar
   refine c_skip (n_then (c_seq (c_block 1 (c_sr ?_))))
   obtain ⟨l,g,A⟩:=bind_some A
   obtain ⟨m,p,q,s,rfl,g⟩:=SliceR.getI (SliceR.mono (zt (zt k4 k5) k6) hx_x1) g
   refine c_n 3 [.pointer (some m),vI l.kind,vI l.lot,vI l.frm,vI l.to,vI l.mass] [1,2,10,24,25,26,28,30] aq (.prop p (.prop q (.cell (ad.cell (g 0 _ rfl)) (.cell (ad.cell (g 1 _ rfl)) (.cell (ad.cell (g 2 _ rfl)) (.cell (ad.cell (g 3 _ rfl)) (.cell (ad.cell (g 4 _ rfl)) .nil))))))) fun m g=>c_box [vI 0,vI 0,vI 0,vI 0,vI 0] 74 ad g fun b5 p q m g=>tv (c_n 1 [] [1,2,10,11,12,24,25,26,30] g .nil fun p g=>c_st 0 [vI l.kind,vI l.lot,vI l.frm,vI l.to,vI l.mass] m g rfl fun p q g m=>tv (c_dt (c_sr (c_n 2 [vI l.kind,vI l.lot,vI l.frm,vI l.to,vI l.mass] [1,2,10,11,24,25,26,32,33] m (.cell (g.bx 0 0 rfl rfl) (.cell (g.bx 0 1 rfl rfl) (.cell (g.bx 0 2 rfl rfl) (.cell (g.bx 0 3 rfl rfl) (.cell (g.bx 0 4 rfl rfl) .nil))))) fun m p=>?_))))
   have g:=St.swapTo (i:=2) (j:=0) (St.addEmp g) rfl rfl (by decide)
   have m:=g
   obtain ⟨u,g,B⟩:=bind_some A
   refine c_call p (f51_ok fuel am l.kind l.lot l.frm l.to l.mass u g z4 _ _ b4 m ) ?_
   rintro m p q ⟨M,e1,q1,e2,k7,rfl,g,s,x⟩ y
   have g:=St.swapTo (i:=0) (j:=2) g rfl rfl (by decide)
   have m:=g
   refine tv (c_n 3 [] [1,2,10,11,24,25,26,35,36] y .nil fun p g=>c_box [N0, .map none] 103 m g fun b6 p q g m=>tv (c_st 0 [sL e1 u.1 q1, .map e2] g m rfl fun m q p g=>tv (c_t [] [1,2,10,11,13,14,24,25,26] g .nil fun m g=>c_seq (c_sq [] [1,2,10,11,13,14,24,25,26,38] g .nil fun g q=>(c_if (u.2.2.1 != (0:Int)) q (fun m=>?_) (fun m=>?_))))))
   ·have A:=cond_t m B
    refine c_sq [] [6,7,8] q .nil fun s g=>c_ret (r_then (r_block (r_then (r_then (r_block (r_then (c_rt [] (.tuple #[.pointer none,vI a4,vI u.2.2.1]) g .nil ?_)))))))
    have g:=p.plNone 69 49 101
    exact ⟨_,rfl,M,ah,none,a4,u.2.2.1,none,(zt (zt (zt k4 k5) k6) k7),rfl,(St.pick 5 [0] g (by kernel_rfl)),A⟩
   have A:=cond_f m B
   refine c_skip (n_then (c_reg (c_n 4 [sL e1 u.1 q1, .map e2] [1,2,10,24,25,26,41,42,43,44] q (.cell (p.bx 0 0 rfl rfl) (.cell (p.bx 0 1 rfl rfl) .nil)) fun s g=>(p_inl (i:=4) (d:=some 45) (f:=44) (args:= #[vI a4, .agg #[sL e1 u.1 q1, .map e2],pB b4 0,pB b3 0,pB b1 0,pB b2 0]) (N':=27) g (by kernel_rfl) Tryz.func44 (by kernel_rfl) fun x m=>(c_sr (c_box [sL e1 u.1 q1, .map e2] 103 p m fun b7 y C p q=>tv (c_dt ?_)))))))
   obtain ⟨e3,q2,R,S,U,V,W,X,Y,Z,a0,x,y,C,F,G,H,I,J,K,au,g⟩:=p.plOpen (i:=4) rfl
   refine c_sq [x,y,C,F,G,H,I,J,K] [0,3,4,5,14,15] q (.cell (g.bx 6 10 rfl rfl) (.cell (g.bx 6 11 rfl rfl) (.cell (g.bx 6 12 rfl rfl) (.cell (g.bx 6 13 rfl rfl) (.cell (g.bx 6 14 rfl rfl) (.cell (g.bx 6 15 rfl rfl) (.cell (g.bx 6 16 rfl rfl) (.cell (g.bx 6 17 rfl rfl) (.cell (g.bx 6 18 rfl rfl) .nil))))))))) fun p m=>c_block 0 (c_loop (fun n a w=>∃z6:Zone,∃a6:Int,∃y8:Int,Zone.le M z6∧Fr a 27 [(0,vI a4),(3,pB b3 0),(4,pB b1 0),(5,pB b2 0),(14, .agg #[x,y,C,F,G,H,I,J,K]),(15,vI y8)]∧St z6 (ownA (Ty.slice PartT) 49 [R,S,U,V,W,X,Y,Z,a0] u.2.2.2.holds::ownA (Ty.map Value.bool) 101 [x,y,C,F,G,H,I,J,K] u.2.2.2.may::box b7 [sL e1 u.1 q1, .map e2] 103::box b6 [sL e1 u.1 q1, .map e2] 103::emp::box b5 [vI l.kind,vI l.lot,vI l.frm,vI l.to,vI l.mass] 74::box b4 [sL e3 u.2.2.2.lots q2,R,S,U,V,W,X,Y,Z,a0,x,y,C,F,G,H,I,J,K] 69::box b3 [vI a6] 3::box b2 [vI x3] 3::box b1 [vI x2] 3::L) w∧(F16_l2 fuel (F16_l1 fuel x0 x1 x2 x3 n3) x2 x3 a4 u n a6 y8)=some r) fuel ⟨M,ah,0,zr,m.to,g,A⟩ ?_)
   rintro g m p ⟨z6,a6,y8,k8,q,ao,an⟩
   cases g with
   | zero=>cases an
   | succ n2 =>
   refine c_sq [] [0,3,4,5,14,15,16] q .nil fun g al=>c_seq (c_if (decide (y8<(9:Int))) al (fun aj=>?_) (fun aj=>?_))
   ·have A:=cond_t aj an
    refine c_skip (n_then (c_mid (fun a w=>∃z7:Zone,∃y9:Int,Zone.le z6 z7∧Fr a 27 [(0,vI a4),(3,pB b3 0),(4,pB b1 0),(5,pB b2 0),(14, .agg #[x,y,C,F,G,H,I,J,K]),(15,vI y8)]∧St z7 (ownA (Ty.slice PartT) 49 [R,S,U,V,W,X,Y,Z,a0] u.2.2.2.holds::ownA (Ty.map Value.bool) 101 [x,y,C,F,G,H,I,J,K] u.2.2.2.may::box b7 [sL e1 u.1 q1, .map e2] 103::box b6 [sL e1 u.1 q1, .map e2] 103::emp::box b5 [vI l.kind,vI l.lot,vI l.frm,vI l.to,vI l.mass] 74::box b4 [sL e3 u.2.2.2.lots q2,R,S,U,V,W,X,Y,Z,a0,x,y,C,F,G,H,I,J,K] 69::box b3 [vI y9] 3::box b2 [vI x3] 3::box b1 [vI x2] 3::L) w∧(F16_j2 (F16_l2 fuel (F16_l1 fuel x0 x1 x2 x3 n3) x2 x3 a4 u n2) y8 y9)=some r) ?_ ?_))
    ·skip
     refine c_block 1 ?_
     obtain ⟨O,ag,ak⟩:=bind_some A
     obtain ⟨e4,q3,ae,m,af⟩:=ao.ownOpen (j:=1) rfl ag
     have g:=arrIdx ae
     refine c_sq [sL e4 O q3] [0,3,4,5,10,14,15] al (.prop m (.prop g .nil)) fun g m=>c_mid (fun a w=>∃z8:Zone,∃ac:Bool,Zone.le z6 z8∧Fr a 27 [(0,vI a4),(3,pB b3 0),(4,pB b1 0),(5,pB b2 0),(14, .agg #[x,y,C,F,G,H,I,J,K]),(15,vI y8),(24, .bool ac)]∧St z8 (emp::ownA (Ty.slice PartT) 49 [R,S,U,V,W,X,Y,Z,a0] u.2.2.2.holds::ownA (Ty.map Value.bool) 101 [x,y,C,F,G,H,I,J,K] u.2.2.2.may::box b7 [sL e1 u.1 q1, .map e2] 103::box b6 [sL e1 u.1 q1, .map e2] 103::emp::box b5 [vI l.kind,vI l.lot,vI l.frm,vI l.to,vI l.mass] 74::box b4 [sL e3 u.2.2.2.lots q2,R,S,U,V,W,X,Y,Z,a0,x,y,C,F,G,H,I,J,K] 69::box b3 [vI a6] 3::box b2 [vI x3] 3::box b1 [vI x2] 3::L) w∧(F16_j3 (F16_l2 fuel (F16_l1 fuel x0 x1 x2 x3 n3) x2 x3 a4 u n2) a4 a6 y8 ac)=some r) ?_ ?_
     ·skip
      refine c_reg (c_n 3 [vI a6] [0,3,4,5,10,14,15,20] m (.cell (af.bx 8 0 rfl rfl) .nil) fun g ai=>?_)
      rcases bft (decide (a6<(0:Int))) with ab | ab
      ·have A:=cond_t ab ak
       have g:=ai.lit 20 ab
       refine c_n 2 [] [0,3,4,5,14,15,20,21,22] g .nil fun m g=>p_inl (i:=5) (d:=some 23) (f:=45) (args:= #[sL e4 O q3, .func (.func 46) #[] #[pB b1 0,pB b2 0]]) (N':=9) g (by kernel_rfl) Tryz.func45 (by kernel_rfl) fun m g=>c_sq [] [0,1] g .nil fun m g=>c_sr (c_n 2 [] [5,6] g .nil fun m g=>(c_call (f:=76) (args:= #[sL e4 O q3, .func (.func 46) #[] #[pB b1 0,pB b2 0]]) (Φ:=fun v w=>∃z9:Zone,∃a8:Int,Zone.le z6 z9∧v=vI a8∧St z9 (ownS (Ty.map Value.bool) 101 e4 q3 O::ownA (Ty.slice PartT) 49 [R,S,U,V,W,X,Y,Z,a0] u.2.2.2.holds::ownH (Ty.map Value.bool) 101 [x,y,C,F,G,H,I,J,K] u.2.2.2.may (Int.toNat y8)::box b7 [sL e1 u.1 q1, .map e2] 103::box b6 [sL e1 u.1 q1, .map e2] 103::emp::box b5 [vI l.kind,vI l.lot,vI l.frm,vI l.to,vI l.mass] 74::box b4 [sL e3 u.2.2.2.lots q2,R,S,U,V,W,X,Y,Z,a0,x,y,C,F,G,H,I,J,K] 69::box b3 [vI a6] 3::box b2 [vI x3] 3::box b1 [vI x2] 3::L) w∧(F16_j4 (F16_l2 fuel (F16_l1 fuel x0 x1 x2 x3 n3) x2 x3 a4 u n2) a4 a6 y8 a8)=some r) g ?_ ?_))
       ·refine calls_intro (N:=19) Tryz.func76 (by kernel_rfl) fun m g=>c_sq [] [0,1] g .nil fun m g=>c_seq (c_sq [] [0,1,7,8] g .nil fun m g=>(c_block 0 (c_loop (fun n a w=>∃a5:Zone,∃a1:Int,Zone.le z6 a5∧Fr a 19 [(0,sL e4 O q3),(1, .func (.func 46) #[] #[pB b1 0,pB b2 0]),(7,vI (O.length:Int)),(8,vI a1)]∧St a5 (ownS (Ty.map Value.bool) 101 e4 q3 O::ownA (Ty.slice PartT) 49 [R,S,U,V,W,X,Y,Z,a0] u.2.2.2.holds::ownH (Ty.map Value.bool) 101 [x,y,C,F,G,H,I,J,K] u.2.2.2.may (Int.toNat y8)::box b7 [sL e1 u.1 q1, .map e2] 103::box b6 [sL e1 u.1 q1, .map e2] 103::emp::box b5 [vI l.kind,vI l.lot,vI l.frm,vI l.to,vI l.mass] 74::box b4 [sL e3 u.2.2.2.lots q2,R,S,U,V,W,X,Y,Z,a0,x,y,C,F,G,H,I,J,K] 69::box b3 [vI a6] 3::box b2 [vI x3] 3::box b1 [vI x2] 3::L) w∧(F16_l3 (F16_l2 fuel (F16_l1 fuel x0 x1 x2 x3 n3) x2 x3 a4 u n2) x2 x3 a4 a6 y8 O n a1)=some r) fuel ⟨z6,0,zr,g.to,af,A⟩ ?_)))
        rintro g m p ⟨a5,a1,k9,q,a3,aa⟩
        cases g with
        | zero=>cases aa
        | succ n1 =>
        refine c_sq [] [0,1,7,8,9] q .nil fun g a9=>c_seq (c_if (decide (a1<(O.length:Int))) a9 (fun a7=>?_) (fun a7=>?_))
        ·have A:=cond_t a7 aa
         refine c_skip (n_then (c_seq (c_block 1 (c_sq [] [0,1,5,7,8] a9 .nil fun g P=>(c_sr ?_)))))
         obtain ⟨Q,g,B⟩:=bind_some A
         obtain ⟨m,p,q,M,g,s⟩:=a3.ownGet (j:=0) rfl g
         obtain ⟨M,rfl,a2⟩:=g
         refine c_n 5 [.pointer (some m), .map M] [0,1,5,7,8,11,15] P (.prop p (.prop q (.cell (s 0 _ rfl) .nil))) fun m g=>p_inl (i:=5) (d:=some 16) (f:=46) (args:= #[.map M,pB b1 0,pB b2 0]) (N':=13) g (by kernel_rfl) Tryz.func46 (by kernel_rfl) fun m g=>c_sq [] [0,1,2] g .nil fun g m=>c_mid (fun a w=>∃P:Zone,∃s:Bool,Zone.le a5 P∧Fr a 13 [(4, .bool s)]∧St P (ownS (Ty.map Value.bool) 101 e4 q3 O::ownA (Ty.slice PartT) 49 [R,S,U,V,W,X,Y,Z,a0] u.2.2.2.holds::ownH (Ty.map Value.bool) 101 [x,y,C,F,G,H,I,J,K] u.2.2.2.may (Int.toNat y8)::box b7 [sL e1 u.1 q1, .map e2] 103::box b6 [sL e1 u.1 q1, .map e2] 103::emp::box b5 [vI l.kind,vI l.lot,vI l.frm,vI l.to,vI l.mass] 74::box b4 [sL e3 u.2.2.2.lots q2,R,S,U,V,W,X,Y,Z,a0,x,y,C,F,G,H,I,J,K] 69::box b3 [vI a6] 3::box b2 [vI x3] 3::box b1 [vI x2] 3::L) w∧(F16_j5 (F16_l2 fuel (F16_l1 fuel x0 x1 x2 x3 n3) x2 x3 a4 u n2) (F16_l3 (F16_l2 fuel (F16_l1 fuel x0 x1 x2 x3 n3) x2 x3 a4 u n2) x2 x3 a4 a6 y8 O n1) a4 a6 y8 a1 s)=some r) ?_ ?_
         ·skip
          refine c_reg (c_n 2 [vI x2] [0,2,5,6] m (.cell (a3.bx 10 0 rfl rfl) .nil) fun m g=>(p_lookup (i:=2) (d:=(some 7)) (t:=101) (o:=M) (k:=x2) (c:=false) (z:=false) (D:=Q) g (by kernel_rfl) mp101 (MapR.look a2 a3) fun p l=>tv (c_n 1 [] [0,2,8] l .nil fun q x=>?_)))
          rcases bft (lkK Q x2 false) with g | g
          ·have A:=cond_t g B
           have l:=x.lit 8 g
           refine c_n 2 [vI x3] [8,9,10] l (.cell (a3.bx 9 0 rfl rfl) .nil) fun m l=>p_lookup (i:=6) (d:=(some 11)) (t:=101) (o:=M) (k:=x3) (c:=false) (z:=false) (D:=Q) l (by kernel_rfl) mp101 (MapR.look a2 a3) fun m l=>tv (c_t [] [4] l .nil fun m l=>⟨a5,(lkK Q x3 false),zr,l.to,a3,A⟩)
          have A:=cond_f g B
          have g:=x.lit 8 g
          refine c_t [] [4] g .nil fun l g=>⟨a5,false,zr,g.to,a3,A⟩
         rintro l m ⟨P,s,q,g,x,B⟩
         refine c_ret (c_rt [] (.bool s) g .nil (⟨_,rfl,fun g m=>?_⟩))
         refine tv (c_dt (c_if s m (fun g=>?_) (fun g=>?_)))
         ·have A:=cond_t g B
          refine c_sq [] [4] m .nil fun p l=>c_ret (r_block (r_then (r_then (r_block (r_then (c_rt [] (vI a1) l .nil (⟨_,rfl,P,a1,(zt k9 q),rfl,x,A⟩)))))))
         have A:=cond_f g B
         refine c_skip (n_block (n_then (c_q [] [0,1,7,8] m .nil fun l g=>(n_then (⟨n1,Nat.lt_succ_self n1,P,(w64 (a1 + (1:Int))),(zt k9 q),g.to,x,A⟩)))))
        have A:=cond_f a7 aa
        refine c_exit 0 (x_then (x_then (x_block (n_then (c_sq [] [4] a9 .nil fun l g=>(c_ret (c_rt [] (vI (-1)) g .nil (⟨_,rfl,a5, -1,k9,rfl,a3,A⟩))))))))
       rintro l m p ⟨z9,a8,s,rfl,q,A⟩ g
       refine tv (c_t [] [4] g .nil fun l g=>c_ret (c_rt [] (.bool (decide (a8≥(0:Int)))) g .nil (⟨_,rfl,fun l g=>?_⟩)))
       refine tv (c_z [] [0,3,4,5,14,15,24] g .nil fun g l=>?_)
       have g:=q.ownClose' (j:=2) (k:=0) rfl rfl (by decide) ae (getI_spec ag).2
       refine n_then (⟨z9,(decide (a8≥(0:Int))),s,l.to,g,A⟩)
      have A:=cond_f ab ak
      have g:=ai.lit 20 ab
      refine c_z [] [0,3,4,5,14,15,24] g .nil fun g l=>?_
      have g:=af.ownClose' (j:=2) (k:=0) rfl rfl (by decide) ae (getI_spec ag).2
      refine n_then (⟨z6,false,zr,l.to,g,A⟩)
     rintro g l ⟨z8,ac,C,q,F,B⟩
     refine c_if ac q (fun l=>?_) (fun l=>?_)
     ·have A:=cond_t l B
      refine c_reg (c_n 1 [] [0,3,4,5,14,15,25] q .nil fun s g=>(c_st 8 [vI a4] F g rfl fun x y m p=>tv (c_done (n_block (n_then (⟨z8,a4,C,p.to,(St.drop 1 m),A⟩))))))
     have A:=cond_f l B
     refine c_skip (n_block (n_then (⟨z8,a6,C,q.to,(St.drop 1 F),A⟩)))
    rintro l m ⟨z7,y9,p,g,q,A⟩
    refine c_q [] [0,3,4,5,14,15] g .nil fun l g=>n_then (⟨n2,Nat.lt_succ_self n2,z7,y9,(w64 (y8 + (1:Int))),(zt k8 p),g.to,q,A⟩)
   have A:=cond_f aj an
   refine c_exit 0 (x_then (x_then (x_block (c_fall [] (.tuple #[]) al .nil (⟨_,rfl,fun g m=>?_⟩)))))
   refine tv (c_done ?_)
   have l:=ao.plClose (i:=6) (j:=0) (k:=1) rfl (SliceR.mono k8 au) rfl rfl (by decide) (by decide) (by decide)
   refine n_block (n_then (c_q [] [1,2,10,24,25,26] m .nil fun m g=>(n_then (⟨n3,Nat.lt_succ_self n3,z6,u.2.2.2,a6,(w64 (a4 + (1:Int))),(zt (zt k6 k7) k8),g.to,(St.drop 6 l),A⟩))))
  have A:=cond_f ap ar
  refine c_exit 0 (x_then (x_then (x_block (n_then (c_sq [] [6,7,8] aq .nil fun l g=>(c_ret (c_rt [] (.tuple #[pB b4 0,vI (x1.length:Int),vI 0]) g .nil ?_)))))))
  have g:=ad.plSome (i:=0) rfl
  exact ⟨_,rfl,z4,ah,(some am),(x1.length:Int),0,(some ⟨b4,0,none⟩),(zt (zt k4 k5) k6),rfl,(St.pick 1 [0] g (by kernel_rfl)),A⟩
 rintro l m p ⟨z1,y1,y5,y6,y7,p4,J,rfl,H,B⟩ g
 refine tv (c_t [] [0,6,7,11,14] g .nil fun g l=>c_mid (fun a w=>∃F:Zone,∃I:Int,Zone.le z1 F∧Fr a 43 [(6,pB b1 0),(7,pB b2 0),(11,pB b3 0),(14,vI I)]∧St F (plO 69 49 101 p4 y5::box b3 [vI y1] 3::box b2 [vI x3] 3::box b1 [vI x2] 3::L) w∧(F16_j6 x2 x3 y1 I)=some r) ?_ ?_)
 ·skip
  refine c_sq [] [0,6,7,11,14,24] l .nil fun g G=>c_if (y7 == (0:Int)) G (fun C=>?_) (fun C=>?_)
  ·have A:=cond_t C B
   refine c_reg (c_n 3 [vI x2,vI x3] [6,7,11,25,26,27] G (.cell (H.bx 3 0 rfl rfl) (.cell (H.bx 2 0 rfl rfl) .nil)) fun p g=>(p_box (i:=3) (d:=(some 28)) (cs:=[vI x2,vI x3]) (T:=3) (v:=fun l=> .slice (some ⟨l,0,none⟩) 2 2) H g (fun b=>by kernel_rfl) fun l q s m x=>tv ?_))
   have g:=m.ownBox (T:=Ty.int) (E:=3) (n:=2) (xs:=[x2,x3]) (i:=0) rfl (Rows.cons (c:=[vI x2]) rfl (Rows.cons (c:=[vI x3]) rfl rfl)) rfl (by decide)
   obtain ⟨m,u,p,q⟩:=g.share (j:=0) rfl
   obtain ⟨s,g,A⟩:=bind_some A
   refine c_call x (f47_ok fuel x0 ([x2,x3]) s g m _ _ p o_x0 c_x0 (SliceR.mono (zt J u) hx_x0) (some ⟨l,0,none⟩) 2 q) ?_
   rintro l m p ⟨q,x,rfl,y⟩ g
   refine tv (c_t [] [6,7,11,14] g .nil fun l g=>⟨q,s,(zt u x),g.to,(St.drop 1 y),A⟩)
  have A:=cond_f C B
  refine c_skip (n_then (⟨z1,y7,zr,G.to,H,A⟩))
 rintro g l ⟨F,I,C,m,s,B⟩
 refine c_mid (fun a w=>∃y:Zone,∃x:Int,Zone.le F y∧Fr a 43 [(11,pB b3 0),(14,vI x)]∧St y (plO 69 49 101 p4 y5::box b3 [vI y1] 3::box b2 [vI x3] 3::box b1 [vI x2] 3::L) w∧(F16_j7 y1 x)=some r) ?_ ?_
 ·skip
  refine c_mid (fun a w=>∃u:Zone,∃p:Bool,Zone.le F u∧Fr a 43 [(11,pB b3 0),(14,vI I),(36, .bool p)]∧St u (plO 69 49 101 p4 y5::box b3 [vI y1] 3::box b2 [vI x3] 3::box b1 [vI x2] 3::L) w∧(F16_j8 y1 I p)=some r) ?_ ?_
  ·skip
   refine c_reg (c_n 3 [] [6,7,11,14,32] m .nil fun g q=>?_)
   rcases bft (I == (0:Int)) with g | g
   ·have A:=cond_t g B
    have l:=q.lit 32 g
    refine c_t [vI x2,vI x3] [11,14,36] l (.cell (s.bx 3 0 rfl rfl) (.cell (s.bx 2 0 rfl rfl) .nil)) fun m l=>⟨F,(x2 == x3),zr,l.to,s,A⟩
   have A:=cond_f g B
   have g:=q.lit 32 g
   refine c_t [] [11,14,36] g .nil fun l g=>⟨F,false,zr,g.to,s,A⟩
  rintro g l ⟨u,p,q,m,s,A⟩
  refine c_if p m (fun g=>?_) (fun g=>?_)
  ·have B:=cond_t g A
   refine c_q [] [11,14] m .nil fun p l=>n_then (⟨u,1,q,l.to,s,B⟩)
  have A:=cond_f g A
  refine c_skip (n_then (⟨u,I,q,m.to,s,A⟩))
 rintro l m ⟨y,x,s,g,q,B⟩
 refine c_seq (c_sq [] [11,14,38] g .nil fun g m=>(c_if (x != (0:Int)) m (fun l=>?_) (fun l=>?_)))
 ·have A:=cond_t l B
  refine c_sq [] [8,9,10] m .nil fun p g=>c_ret (r_then (c_rt [] (.tuple #[.bool false,vI 0,vI x]) g .nil ?_))
  obtain rfl:=some_eq A
  exact ⟨_,rfl,y,(zt (zt J C) s),rfl,(St.drop 4 q)⟩
 have A:=cond_f l B
 refine c_skip (n_then ?_)
 have g:=q.drew
 refine c_sqD [(0,true),(1,true),(2,true),(3,true),(4,true),(5,true)] [] [vI y1,vI y1] [8,9,10] m (.cell (g.bx 1 0 rfl rfl) (.cell (g.bx 1 0 rfl rfl) .nil)) .nil fun m l=>c_ret (c_rt [] (.tuple #[.bool (decide (y1<(0:Int))),vI y1,vI 0]) l .nil ?_)
 obtain rfl:=some_eq A
 exact ⟨_,rfl,y,(zt (zt J C) s),rfl,(St.drop 4 g)⟩
def F19 (fuel:Nat) (x0:Int) (x1p:List Part) (x1y:List (Int×Bool)) (x2:Pl):Option (Pl) :=
  (some (x2))
set_option maxRecDepth 100000 in
theorem f19_ok (fuel:Nat) (x0:Int) (x1p:List Part) (x1y:List (Int×Bool)) (x2:Pl) (r:Pl) (hr:F19 fuel x0 x1p x1y x2=some r) (h:Zone) (L:List Atom) (w:World) (b_x2:Nat) (hS:St h (plA 69 49 101 b_x2 x2::L) w) (o_x1p:Option Addr) (c_x1p:Nat) (hx_x1p:SliceR PartT h o_x1p c_x1p x1p) (o_x1y:Option Nat) (hx_x1y:MapR Value.bool h o_x1y x1y) :
    Calls Tryz.prog 19 #[vI x0, .agg #[.slice o_x1p x1p.length c_x1p, .map o_x1y],pB b_x2 0] w fun e w'=>∃v,e= .returned v∧(∃h',Zone.le h h'∧v= .tuple #[]∧St h' (plA 69 49 101 b_x2 r::L) w'):=by
 refine calls_intro (N:=6) Tryz.func19 (by kernel_rfl) fun a hf=>c_reg (c_box [sL o_x1p x1p c_x1p, .map o_x1y] 103 hS hf fun d f g c b=>tv (c_done (c_fall [] (.tuple #[]) b .nil ?_)))
 obtain rfl:=some_eq hr
 exact ⟨_,rfl,h,zr,rfl,(St.pick 2 [1] c (by kernel_rfl))⟩
def F6_j1 (fuel:Nat) (y1:Option Pl) (y2:Int) (y3:Int):Option (List Lot×List (List (List Part))×Int×Int) :=
  (cond (y3 != (0:Int)) (some ([],[[],[],[],[],[],[],[],[],[]],y2,y3)) ((y1).bind fun p1=>((F20 fuel p1.lots p1.holds).bind fun r1=>(some (r1.1,r1.2,y2,0)))))
def F6_l1 (fuel:Nat) (x1:List Deed):Nat→Pl→Int→Option (List Lot×List (List (List Part))×Int×Int)
  | 0,_,_=>none
  | n1 + 1,y4,y5 =>
    let k1:Pl→Int→Option (List Lot×List (List (List Part))×Int×Int):=F6_l1 fuel x1 n1
    (cond (decide (y5<(x1.length:Int))) ((getI x1 y5).bind fun p2=>((F51 fuel y4 p2.kind p2.lot p2.frm p2.to p2.mass).bind fun r2=>(cond (r2.2.2.1 != (0:Int)) (F6_j1 fuel none y5 r2.2.2.1) ((F19 fuel y5 r2.1 r2.2.1 r2.2.2.2).bind fun r3=>(k1 r3 (w64 (y5 + (1:Int)))))))) (F6_j1 fuel (some y4) (x1.length:Int) 0))
def F6 (fuel:Nat) (x0:List Lot) (x1:List Deed):Option (List Lot×List (List (List Part))×Int×Int) :=
  ((F49 fuel x0 x1).bind fun r4=>(cond (r4 != (0:Int)) (F6_j1 fuel none 0 r4) ((F50 fuel x0 ([[],[],[],[],[],[],[],[],[]])).bind fun r5=>(F6_l1 fuel x1 fuel r5 0))))
set_option maxRecDepth 100000 in
theorem f6_ok (fuel:Nat) (x0:List Lot) (x1:List Deed) (r:List Lot×List (List (List Part))×Int×Int) (hr:F6 fuel x0 x1=some r) (h:Zone) (L:List Atom) (w:World) (hS:St h L w) (o_x0:Option Addr) (c_x0:Nat) (hx_x0:SliceR LotT h o_x0 c_x0 x0) (o_x1:Option Addr) (c_x1:Nat) (hx_x1:SliceR DeedT h o_x1 c_x1 x1) :
    Calls Tryz.prog 6 #[.slice o_x0 x0.length c_x0, .slice o_x1 x1.length c_x1] w fun e w'=>∃v,e= .returned v∧(∃h',∃o0:Option Addr,∃c0:Nat,∃v1_0:Value,∃v1_1:Value,∃v1_2:Value,∃v1_3:Value,∃v1_4:Value,∃v1_5:Value,∃v1_6:Value,∃v1_7:Value,∃v1_8:Value,Zone.le h h'∧v= .tuple #[.agg #[.slice o0 r.1.length c0,v1_0,v1_1,v1_2,v1_3,v1_4,v1_5,v1_6,v1_7,v1_8],vI r.2.2.1,vI r.2.2.2]∧St h' L w'∧SliceR LotT h' o0 c0 r.1∧(Ty.arr 9 (Ty.slice (Ty.slice PartT))).rep h' [v1_0,v1_1,v1_2,v1_3,v1_4,v1_5,v1_6,v1_7,v1_8] r.2.1):=by
 refine calls_intro (N:=28) Tryz.func6 (by kernel_rfl) fun a hf=>c_sr (c_box [N0,N0,N0,N0,N0,N0,N0,N0,N0,N0] 29 hS hf fun U l m q d=>tv (c_t [] [0,1,4] d .nil fun o g=>(c_sr (c_n 2 [] [4,11,12] g .nil fun p k=>(c_call (f:=18) (args:= #[sL o_x0 x0 c_x0,sL o_x1 x1 c_x1, .func (.func 19) #[] #[]]) (Φ:=fun v w=>∃Q:Zone,∃S:Option Pl,∃R:Int,∃J:Int,∃T:Option Addr,Zone.le h Q∧v= .tuple #[.pointer T,vI R,vI J]∧St Q (plO 69 49 101 T S::box U [N0,N0,N0,N0,N0,N0,N0,N0,N0,N0] 29::L) w∧(F6_j1 fuel S R J)=some r) k ?_ ?_)))))
 ·refine calls_intro (N:=50) Tryz.func18 (by kernel_rfl) fun g d=>c_sq [] [0,1,2] d .nil fun g d=>c_seq (c_sr (c_n 2 [] [0,1,2,15,16] d .nil fun d g=>?_))
  obtain ⟨l,d,K⟩:=bind_some hr
  refine c_call g (f49_ok fuel x0 x1 l d h _ _ q o_x0 c_x0 hx_x0 o_x1 c_x1 hx_x1) ?_
  rintro g k m ⟨o,I,rfl,p⟩ d
  refine tv (c_t [] [0,1,2,9] d .nil fun g d=>c_sq [] [0,1,2,9,19] d .nil fun d k=>c_if (l != (0:Int)) k (fun g=>?_) (fun g=>?_))
  ·have A:=cond_t g K
   refine c_sq [] [6,7,8] k .nil fun m d=>c_ret (r_then (c_rt [] (.tuple #[.pointer none,vI 0,vI l]) d .nil ?_))
   have d:=p.plNone 69 49 101
   exact ⟨_,rfl,o,none,0,l,none,I,rfl,(St.pick 1 [0] d (by kernel_rfl)),A⟩
  have A:=cond_f g K
  refine c_skip (n_then (c_sr (c_n 2 [] [1,2,22] k .nil fun d g=>?_)))
  obtain ⟨k,d,A⟩:=bind_some A
  refine c_call g (f50_ok fuel x0 ([[],[],[],[],[],[],[],[],[]]) k d o _ _ p o_x0 c_x0 (SliceR.mono I hx_x0) (N0) (N0) (N0) (N0) (N0) (N0) (N0) (N0) (N0) ⟨rfl,(Rows.cons (c:=[_]) (sliceRep (SliceR.nil' _ _)) (Rows.cons (c:=[_]) (sliceRep (SliceR.nil' _ _)) (Rows.cons (c:=[_]) (sliceRep (SliceR.nil' _ _)) (Rows.cons (c:=[_]) (sliceRep (SliceR.nil' _ _)) (Rows.cons (c:=[_]) (sliceRep (SliceR.nil' _ _)) (Rows.cons (c:=[_]) (sliceRep (SliceR.nil' _ _)) (Rows.cons (c:=[_]) (sliceRep (SliceR.nil' _ _)) (Rows.cons (c:=[_]) (sliceRep (SliceR.nil' _ _)) (Rows.cons (c:=[_]) (sliceRep (SliceR.nil' _ _)) rfl)))))))))⟩) ?_
  rintro l m o ⟨g,y,M,rfl,p⟩ d
  refine tv (c_t [] [1,2,10] d .nil fun l d=>c_seq (c_sq [] [1,2,10,24,25,26] d .nil fun l d=>(c_block 0 (c_loop (fun n a w=>∃z:Zone,∃B:Pl,∃s:Int,Zone.le g z∧Fr a 50 [(1,sL o_x1 x1 c_x1),(2, .func (.func 19) #[] #[]),(10,pB y 0),(24,sL o_x1 x1 c_x1),(25,vI (x1.length:Int)),(26,vI s)]∧St z (plA 69 49 101 y B::box U [N0,N0,N0,N0,N0,N0,N0,N0,N0,N0] 29::L) w∧(F6_l1 fuel x1 n B s)=some r) fuel ⟨g,k,0,zr,d.to,p,A⟩ ?_))))
  rintro d g k ⟨z,B,s,D,l,u,P⟩
  cases d with
  | zero=>cases P
  | succ O =>
  refine c_sq [] [1,2,10,24,25,26,27] l .nil fun d H=>c_seq (c_if (decide (s<(x1.length:Int))) H (fun E=>?_) (fun E=>?_))
  ·have A:=cond_t E P
   refine c_skip (n_then (c_seq (c_block 1 (c_sr ?_))))
   obtain ⟨d,g,A⟩:=bind_some A
   obtain ⟨k,l,m,o,rfl,g⟩:=SliceR.getI (SliceR.mono (zt (zt I M) D) hx_x1) g
   refine c_n 3 [.pointer (some k),vI d.kind,vI d.lot,vI d.frm,vI d.to,vI d.mass] [1,2,10,24,25,26,28,30] H (.prop l (.prop m (.cell (u.cell (g 0 _ rfl)) (.cell (u.cell (g 1 _ rfl)) (.cell (u.cell (g 2 _ rfl)) (.cell (u.cell (g 3 _ rfl)) (.cell (u.cell (g 4 _ rfl)) .nil))))))) fun k g=>c_box [vI 0,vI 0,vI 0,vI 0,vI 0] 74 u g fun l m o k g=>tv (c_n 1 [] [1,2,10,11,12,24,25,26,30] g .nil fun l g=>c_st 0 [vI d.kind,vI d.lot,vI d.frm,vI d.to,vI d.mass] k g rfl fun l m g k=>tv (c_dt (c_sr (c_n 2 [vI d.kind,vI d.lot,vI d.frm,vI d.to,vI d.mass] [1,2,10,11,24,25,26,32,33] k (.cell (g.bx 0 0 rfl rfl) (.cell (g.bx 0 1 rfl rfl) (.cell (g.bx 0 2 rfl rfl) (.cell (g.bx 0 3 rfl rfl) (.cell (g.bx 0 4 rfl rfl) .nil))))) fun k m=>?_))))
   have g:=St.swapTo (i:=2) (j:=0) (St.addEmp g) rfl rfl (by decide)
   have l:=g
   obtain ⟨k,g,K⟩:=bind_some A
   refine c_call m (f51_ok fuel B d.kind d.lot d.frm d.to d.mass k g z _ _ y l ) ?_
   rintro g l m ⟨x,p,q,t,C,rfl,d,F,G⟩ o
   have d:=St.swapTo (i:=0) (j:=2) d rfl rfl (by decide)
   have g:=d
   refine tv (c_n 3 [] [1,2,10,11,24,25,26,35,36] o .nil fun l d=>c_box [N0, .map none] 103 g d fun l m o d g=>tv (c_st 0 [sL p k.1 q, .map t] d g rfl fun g l m d=>tv (c_t [] [1,2,10,11,13,14,24,25,26] d .nil fun g d=>c_seq (c_sq [] [1,2,10,11,13,14,24,25,26,38] d .nil fun d l=>(c_if (k.2.2.1 != (0:Int)) l (fun g=>?_) (fun g=>?_))))))
   ·have A:=cond_t g K
    refine c_sq [] [6,7,8] l .nil fun o d=>c_ret (r_then (r_block (r_then (r_then (r_block (r_then (c_rt [] (.tuple #[.pointer none,vI s,vI k.2.2.1]) d .nil ?_)))))))
    have d:=m.plNone 69 49 101
    exact ⟨_,rfl,x,none,s,k.2.2.1,none,(zt (zt (zt I M) D) C),rfl,(St.pick 5 [0] d (by kernel_rfl)),A⟩
   have A:=cond_f g K
   refine c_skip (n_then (c_reg (c_n 4 [sL p k.1 q, .map t] [1,2,10,24,25,26,41,42,43,44] l (.cell (m.bx 0 0 rfl rfl) (.cell (m.bx 0 1 rfl rfl) .nil)) fun d l=>?_)))
   have d:=St.swapTo (i:=4) (j:=0) (St.addEmp m) rfl rfl (by decide)
   have g:=d
   obtain ⟨m,d,A⟩:=bind_some A
   refine c_call l (f19_ok fuel s k.1 k.2.1 k.2.2.2 m d x _ _ y g p q F t G) ?_
   rintro g k l ⟨p,q,rfl,d⟩ o
   have d:=St.swapTo (i:=0) (j:=4) d rfl rfl (by decide)
   have g:=d
   refine tv (c_done (n_block (n_then (c_q [] [1,2,10,24,25,26] o .nil fun k d=>(n_then (⟨O,Nat.lt_succ_self O,p,m,(w64 (s + (1:Int))),(zt (zt D C) q),d.to,(St.drop 4 g),A⟩))))))
  have A:=cond_f E P
  refine c_exit 0 (x_then (x_then (x_block (n_then (c_sq [] [6,7,8] H .nil fun g d=>(c_ret (c_rt [] (.tuple #[pB y 0,vI (x1.length:Int),vI 0]) d .nil ?_)))))))
  have d:=u.plSome (i:=0) rfl
  exact ⟨_,rfl,z,(some B),(x1.length:Int),0,(some ⟨y,0,none⟩),(zt (zt I M) D),rfl,(St.pick 1 [0] d (by kernel_rfl)),A⟩
 rintro g k l ⟨Q,S,R,J,T,O,rfl,t,K⟩ d
 refine tv (c_t [] [4,7,8,9] d .nil fun g d=>c_seq (c_sq [] [4,7,8,9,18] d .nil fun d M=>(c_if (J != (0:Int)) M (fun m=>?_) (fun m=>?_))))
 ·have A:=cond_t m K
  refine c_sr (c_n 3 [] [4,19,20,21] M .nil fun o g=>(c_st 1 [N0,N0,N0,N0,N0,N0,N0,N0,N0,N0] t g rfl fun p q d k=>tv (c_t [] [4,5,6] k .nil fun s l=>(c_ret (r_then (c_rt [N0,N0,N0,N0,N0,N0,N0,N0,N0,N0] (.tuple #[.agg #[N0,N0,N0,N0,N0,N0,N0,N0,N0,N0],vI R,vI J]) l (.cell (d.bx 1 0 rfl rfl) (.cell (d.bx 1 1 rfl rfl) (.cell (d.bx 1 2 rfl rfl) (.cell (d.bx 1 3 rfl rfl) (.cell (d.bx 1 4 rfl rfl) (.cell (d.bx 1 5 rfl rfl) (.cell (d.bx 1 6 rfl rfl) (.cell (d.bx 1 7 rfl rfl) (.cell (d.bx 1 8 rfl rfl) (.cell (d.bx 1 9 rfl rfl) .nil)))))))))) ?_))))))
  obtain rfl:=some_eq A
  exact ⟨_,rfl,Q,none,0,N0,N0,N0,N0,N0,N0,N0,N0,N0,O,rfl,(St.drop 2 d),SliceR.nil' _ _,⟨rfl,(Rows.cons (c:=[_]) (sliceRep (SliceR.nil' _ _)) (Rows.cons (c:=[_]) (sliceRep (SliceR.nil' _ _)) (Rows.cons (c:=[_]) (sliceRep (SliceR.nil' _ _)) (Rows.cons (c:=[_]) (sliceRep (SliceR.nil' _ _)) (Rows.cons (c:=[_]) (sliceRep (SliceR.nil' _ _)) (Rows.cons (c:=[_]) (sliceRep (SliceR.nil' _ _)) (Rows.cons (c:=[_]) (sliceRep (SliceR.nil' _ _)) (Rows.cons (c:=[_]) (sliceRep (SliceR.nil' _ _)) (Rows.cons (c:=[_]) (sliceRep (SliceR.nil' _ _)) rfl)))))))))⟩⟩
 have A:=cond_f m K
 refine c_skip (n_then (c_seq ?_))
 obtain ⟨D,d,A⟩:=bind_some A
 rw [d] at t
 obtain ⟨k,d,g⟩:=t.plGet (i:=0) rfl
 subst d
 obtain ⟨g,l,m,o,p,q,s,t,u,x,y,k,z,B,C,E,F,G,H,I,J,d⟩:=g.plOpen (i:=0) rfl
 refine c_reg (c_n 4 [sL g D.lots l,m,o,p,q,s,t,u,x,y] [4,8,25] M (.cell (d.bx 2 0 rfl rfl) (.cell (d.bx 2 1 rfl rfl) (.cell (d.bx 2 2 rfl rfl) (.cell (d.bx 2 3 rfl rfl) (.cell (d.bx 2 4 rfl rfl) (.cell (d.bx 2 5 rfl rfl) (.cell (d.bx 2 6 rfl rfl) (.cell (d.bx 2 7 rfl rfl) (.cell (d.bx 2 8 rfl rfl) (.cell (d.bx 2 9 rfl rfl) .nil)))))))))) fun k E=>?_)
 obtain ⟨z,F,B,C⟩:=d.ownShareN (j:=0) rfl (n:=9) rfl
 obtain ⟨k,d,A⟩:=bind_some A
 refine c_call E (f20_ok fuel D.lots D.holds k d z _ _ B g l (SliceR.mono F J) m o p q s t u x y (Ty.mono _ zr C)) ?_
 rintro B C D ⟨E,l,m,o,p,q,s,t,u,x,y,z,G,rfl,g,H⟩ d
 refine tv (c_n 1 [] [4,26,27] d .nil fun d B=>?_)
 have d:=g.ownOnes (j:=0) rfl
 refine p_store_eq (i:=6) (j:=4) (b:=U) (off:=0) (vs:=[sL l k.1 m,o,p,q,s,t,u,x,y,z]) (cs':=[sL l k.1 m,o,p,q,s,t,u,x,y,z]) g B rfl (by kernel_rfl) d rfl fun g B C d=>tv (c_t [] [4,5,6] d .nil fun d B=>c_ret ?_)
 obtain ⟨C,g,d,D⟩:=C.ownShareN (j:=0) rfl (n:=9) rfl
 refine c_rt [sL l k.1 m,o,p,q,s,t,u,x,y,z] (.tuple #[.agg #[sL l k.1 m,o,p,q,s,t,u,x,y,z],vI R,vI 0]) B (.cell (d.bx 4 0 rfl rfl) (.cell (d.bx 4 1 rfl rfl) (.cell (d.bx 4 2 rfl rfl) (.cell (d.bx 4 3 rfl rfl) (.cell (d.bx 4 4 rfl rfl) (.cell (d.bx 4 5 rfl rfl) (.cell (d.bx 4 6 rfl rfl) (.cell (d.bx 4 7 rfl rfl) (.cell (d.bx 4 8 rfl rfl) (.cell (d.bx 4 9 rfl rfl) .nil)))))))))) ?_
 obtain rfl:=some_eq A
 exact ⟨_,rfl,C,l,m,o,p,q,s,t,u,x,y,z,(zt (zt (zt O F) G) g),rfl,(St.drop 5 d),(SliceR.mono g H),(Ty.mono _ zr D)⟩
def F5_j1 (y1:Bool):Option (Bool) :=
  (some (y1))
def F5 (fuel:Nat):Option (Bool) :=
  ((F12 fuel ).bind fun r1=>((F13 fuel ).bind fun r2=>((F6 fuel r1 r2).bind fun r3=>((F14 fuel ([⟨1,1⟩,⟨2,99⟩]) 50).bind fun r4=>((F15 fuel r3.1 r3.2.1 4).bind fun r5=>((F12 fuel ).bind fun r6=>((F13 fuel ).bind fun r7=>((F16 fuel r6 r7 1 3).bind fun r8=>(cond (r3.2.2.2 == (0:Int)) (cond (r3.2.2.1 == (5:Int)) (cond (r4.2.2 == (0:Int)) (cond ((r4.1.length:Int) == (2:Int)) (cond ((r4.2.1.length:Int) == (1:Int)) ((getI r4.2.1 0).bind fun p1=>(cond (p1.mass == (50:Int)) (cond (r5.2.2 == (0:Int)) (cond ((r5.1 == (1190:Int)) && ((r5.2.1 == (1:Int)) && true)) (cond (r8.2.2 == (0:Int)) (cond (!r8.1) (cond (r8.2.1 == (4:Int)) ((F17 fuel 0 0 0 0).bind fun r9=>(F5_j1 (r9 == (60:Int)))) (F5_j1 false)) (F5_j1 false)) (F5_j1 false)) (F5_j1 false)) (F5_j1 false)) (F5_j1 false))) (F5_j1 false)) (F5_j1 false)) (F5_j1 false)) (F5_j1 false)) (F5_j1 false))))))))))
set_option maxRecDepth 100000 in
theorem f5_ok (fuel:Nat)  (r:Bool) (hr:F5 fuel=some r) (h:Zone) (L:List Atom) (w:World) (hS:St h L w)  :
    Calls Tryz.prog 5 #[] w fun e w'=>∃v,e= .returned v∧(∃h',Zone.le h h'∧v= .bool r∧St h' L w'):=by
 refine calls_intro (N:=96) Tryz.func5 (by kernel_rfl) fun a hf=>c_sq [] [] hf .nil fun f g=>c_sr ?_
 obtain ⟨x,f,o⟩:=bind_some hr
 refine c_call g (f12_ok fuel  x f h _ _ hS ) ?_
 rintro f g k ⟨l,y,z,k1,rfl,m,A⟩ p
 refine tv ?_
 obtain ⟨g,f,o⟩:=bind_some o
 refine c_call p (f13_ok fuel  g f l _ _ m ) ?_
 rintro f k l ⟨m,p,q,k2,rfl,s,t⟩ u
 refine tv ?_
 obtain ⟨F,f,o⟩:=bind_some o
 refine c_call u (f6_ok fuel x g F f m _ _ s y z (SliceR.mono k2 A) p q t) ?_
 rintro g k l ⟨m,G,H,I,J,K,M,O,P,Q,R,S,k3,rfl,p,t,s⟩ f
 refine tv (c_n 4 [] [16,17,18] f .nil fun g f=>c_box [N0,N0,N0,N0,N0,N0,N0,N0,N0,N0] 29 p f fun b1 f l g k=>tv ?_)
 have f:=oneCells_of (Ty.one _ (Ty.mono _ zr s))
 refine p_store_eq (i:=8) (j:=0) (b:=b1) (off:=0) (vs:=[sL G F.1 H,I,J,K,M,O,P,Q,R,S]) (cs':=[sL G F.1 H,I,J,K,M,O,P,Q,R,S]) g k rfl (by kernel_rfl) f rfl fun g l k f=>tv (c_t [] [1,2,3] f .nil fun g f=>c_sr (c_n 2 [] [1,2,3,20,21] f .nil fun m f=>(p_box (i:=2) (d:=(some 22)) (cs:=[vI 1,vI 1,vI 2,vI 99]) (T:=53) (v:=fun g=> .slice (some ⟨g,0,none⟩) 2 2) k f (fun b=>by kernel_rfl) fun g p q k l=>tv ?_)))
 have f:=k.ownBox (T:=PartT) (E:=53) (n:=2) (xs:=[⟨1,1⟩,⟨2,99⟩]) (i:=0) rfl (Rows.cons (c:=[vI 1,vI 1]) rfl (Rows.cons (c:=[vI 2,vI 99]) rfl rfl)) rfl (by decide)
 refine c_n 1 [] [1,2,3,23] l .nil fun k p=>?_
 obtain ⟨k,k4,l,m⟩:=f.share (j:=0) rfl
 obtain ⟨y,f,o⟩:=bind_some o
 refine c_call p (f14_ok fuel ([⟨1,1⟩,⟨2,99⟩]) 50 y f k _ _ l (some ⟨g,0,none⟩) 2 m) ?_
 rintro g k l ⟨q,e4,q4,Y,Z,k5,rfl,m,p,a8⟩ f
 refine tv (c_n 4 [] [1,2,3,25,26,27] f .nil fun g f=>c_box [N0] 49 m f fun b3 k l f g=>tv (c_box [N0] 49 f g fun b4 k l f g=>tv (c_st 1 [sL e4 y.1 q4] f g rfl fun k l f g=>tv (c_st 0 [sL Y y.2.1 Z] f g rfl fun k l f g=>tv (c_t [] [1,2,3,4,5,6] g .nil fun k g=>c_sr (c_n 1 [sL G F.1 H,I,J,K,M,O,P,Q,R,S] [2,3,4,5,6,29] g (.cell (f.bx 3 0 rfl rfl) (.cell (f.bx 3 1 rfl rfl) (.cell (f.bx 3 2 rfl rfl) (.cell (f.bx 3 3 rfl rfl) (.cell (f.bx 3 4 rfl rfl) (.cell (f.bx 3 5 rfl rfl) (.cell (f.bx 3 6 rfl rfl) (.cell (f.bx 3 7 rfl rfl) (.cell (f.bx 3 8 rfl rfl) (.cell (f.bx 3 9 rfl rfl) .nil)))))))))) fun g k=>?_))))))
 obtain ⟨C,g,o⟩:=bind_some o
 refine c_call k (f15_ok fuel F.1 F.2.1 4 C g q _ _ f G H (SliceR.mono (zt k4 k5) t) I J K M O P Q R S (Ty.mono _ (zt k4 k5) s)) ?_
 rintro g k l ⟨p,k6,rfl,m⟩ f
 refine tv (c_n 3 [] [2,3,4,5,6,31,32] f .nil fun g f=>c_box [vI 0,vI 0] 55 m f fun V k l f g=>tv (c_st 0 [vI C.1,vI C.2.1] f g rfl fun g k l f=>tv (c_t [] [2,3,4,5,6,7,8] f .nil fun f g=>c_sr ?_)))
 obtain ⟨x,f,o⟩:=bind_some o
 refine c_call g (f12_ok fuel  x f p _ _ l ) ?_
 rintro f g k ⟨l,z,A,k7,rfl,m,B⟩ p
 refine tv ?_
 obtain ⟨g,f,o⟩:=bind_some o
 refine c_call p (f13_ok fuel  g f l _ _ m ) ?_
 rintro f k l ⟨m,p,q,k8,rfl,s,t⟩ u
 refine tv ?_
 obtain ⟨W,f,ac⟩:=bind_some o
 refine c_call u (f16_ok fuel x g 1 3 W f m _ _ s z A (SliceR.mono k8 B) p q t) ?_
 rintro g k l ⟨B,k9,rfl,z⟩ f
 refine tv (c_t [] [2,3,4,5,6,7,8,9,10,11] f .nil fun f g=>c_mid (fun a w=>∃a3:Zone,∃y1:Bool,Zone.le B a3∧Fr a 96 [(0, .bool y1)]∧St a3 (box V [vI C.1,vI C.2.1] 55::box b4 [sL Y y.2.1 Z] 49::box b3 [sL e4 y.1 q4] 49::emp::box b1 [sL G F.1 H,I,J,K,M,O,P,Q,R,S] 29::L) w∧(F5_j1 y1)=some r) ?_ ?_)
 ·skip
  refine c_reg (c_n 3 [] [2,4,5,6,7,8,9,10,11,42] g .nil fun f ab=>?_)
  rcases bft (F.2.2.2 == (0:Int)) with Q | Q
  ·have aa:=cond_t Q ac
   have f:=ab.lit 42 Q
   refine c_n 4 [] [4,5,6,7,8,9,10,11,46] f .nil fun f a9=>?_
   rcases bft (F.2.2.1 == (5:Int)) with O | O
   ·have a7:=cond_t O aa
    have f:=a9.lit 46 O
    refine c_n 4 [] [4,5,7,8,9,10,11,50] f .nil fun f a6=>?_
    rcases bft (y.2.2 == (0:Int)) with M | M
    ·have a5:=cond_t M a7
     have f:=a6.lit 50 M
     refine c_n 6 [sL e4 y.1 q4] [5,7,8,9,10,11,56] f (.cell (z.bx 2 0 rfl rfl) .nil) fun f V=>?_
     rcases bft ((y.1.length:Int) == (2:Int)) with J | J
     ·have a4:=cond_t J a5
      have f:=V.lit 56 J
      refine c_n 6 [sL Y y.2.1 Z] [5,7,8,9,10,11,62] f (.cell (z.bx 1 0 rfl rfl) .nil) fun f S=>?_
      rcases bft ((y.2.1.length:Int) == (1:Int)) with I | I
      ·have o:=cond_t I a4
       have p:=S.lit 62 I
       obtain ⟨f,g,a2⟩:=bind_some o
       obtain ⟨g,k,l,q,rfl,m⟩:=SliceR.getI (SliceR.mono (zt (zt (zt k6 k7) k8) k9) a8) g
       refine c_n 8 [sL Y y.2.1 Z, .pointer (some g),vI f.mass] [7,8,9,10,11,70] p (.cell (z.bx 1 0 rfl rfl) (.prop k (.prop l (.cell (z.cell (m 1 _ rfl)) .nil)))) fun g R=>?_
       rcases bft (f.mass == (50:Int)) with G | G
       ·have a1:=cond_t G a2
        have f:=R.lit 70 G
        refine c_n 4 [] [7,9,10,11,74] f .nil fun f P=>?_
        rcases bft (C.2.2 == (0:Int)) with F | F
        ·have a0:=cond_t F a1
         have f:=P.lit 74 F
         refine c_n 5 [vI C.1,vI C.2.1] [9,10,11,79] f (.cell (z.bx 0 0 rfl rfl) (.cell (z.bx 0 1 rfl rfl) .nil)) fun f K=>?_
         rcases bft ((C.1 == (1190:Int)) && ((C.2.1 == (1:Int)) && true)) with A | A
         ·have X:=cond_t A a0
          have f:=K.lit 79 A
          refine c_n 4 [] [9,10,83] f .nil fun f H=>?_
          rcases bft (W.2.2 == (0:Int)) with x | x
          ·have U:=cond_t x X
           have f:=H.lit 83 x
           refine c_n 4 [] [10,87] f .nil fun f C=>?_
           rcases bft (!W.1) with u | u
           ·have D:=cond_t u U
            have f:=C.lit 87 u
            refine c_n 4 [] [91] f .nil fun f y=>?_
            rcases bft (W.2.1 == (4:Int)) with g | g
            ·have o:=cond_t g D
             have f:=y.lit 91 g
             refine c_n 1 [] [91,92] f .nil fun f k=>?_
             obtain ⟨l,f,o⟩:=bind_some o
             refine c_call k (f17_ok fuel 0 0 0 0 l f B _ _ z ) ?_
             rintro k m p ⟨q,s,rfl,t⟩ f
             refine tv (c_t [] [0] f .nil fun k f=>⟨q,(l == (60:Int)),s,f.to,t,o⟩)
            have o:=cond_f g D
            have f:=y.lit 91 g
            refine c_t [] [0] f .nil fun g f=>⟨B,false,zr,f.to,z,o⟩
           have o:=cond_f u U
           have f:=C.lit 87 u
           refine c_t [] [0] f .nil fun g f=>⟨B,false,zr,f.to,z,o⟩
          have o:=cond_f x X
          have f:=H.lit 83 x
          refine c_t [] [0] f .nil fun g f=>⟨B,false,zr,f.to,z,o⟩
         have o:=cond_f A a0
         have f:=K.lit 79 A
         refine c_t [] [0] f .nil fun g f=>⟨B,false,zr,f.to,z,o⟩
        have o:=cond_f F a1
        have f:=P.lit 74 F
        refine c_t [] [0] f .nil fun g f=>⟨B,false,zr,f.to,z,o⟩
       have o:=cond_f G a2
       have f:=R.lit 70 G
       refine c_t [] [0] f .nil fun g f=>⟨B,false,zr,f.to,z,o⟩
      have o:=cond_f I a4
      have f:=S.lit 62 I
      refine c_t [] [0] f .nil fun g f=>⟨B,false,zr,f.to,z,o⟩
     have o:=cond_f J a5
     have f:=V.lit 56 J
     refine c_t [] [0] f .nil fun g f=>⟨B,false,zr,f.to,z,o⟩
    have o:=cond_f M a7
    have f:=a6.lit 50 M
    refine c_t [] [0] f .nil fun g f=>⟨B,false,zr,f.to,z,o⟩
   have o:=cond_f O aa
   have f:=a9.lit 46 O
   refine c_t [] [0] f .nil fun g f=>⟨B,false,zr,f.to,z,o⟩
  have o:=cond_f Q ac
  have f:=ab.lit 42 Q
  refine c_t [] [0] f .nil fun g f=>⟨B,false,zr,f.to,z,o⟩
 rintro g k ⟨a3,y1,l,f,m,o⟩
 refine c_ret (c_rt [] (.bool y1) f .nil ?_)
 obtain rfl:=some_eq o
 exact ⟨_,rfl,a3,(zt (zt (zt (zt (zt (zt (zt (zt (zt k1 k2) k3) k4) k5) k6) k7) k8) k9) l),rfl,(St.drop 5 m)⟩
end Go.Proofs.YtlmgjjmighajdaaGreat
