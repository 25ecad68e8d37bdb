/-
  A part of the walk and of the plain law of one given statement. No condition.
-/
import Derived.Test.YtlmgjjmighajdaaGreatM4
set_option linter.unusedVariables false
set_option linter.unusedSimpArgs false
namespace Go.Proofs.YtlmgjjmighajdaaGreat
open Go.Sl Go.Sx
def F24_j1 (k1:(List Int)→Pl→Int→Option (List Lot×List (List (List Part))×List Int×Int)) (y1:Int) (y2:List Int) (y3:Pl):Option (List Lot×List (List (List Part))×List Int×Int) :=
  (k1 y2 y3 (w64 (y1 + (1:Int))))
def F24_l1 (fuel:Nat) (x1:List Deed) (x2:Int):Nat→(List Int)→Pl→Int→Option (List Lot×List (List (List Part))×List Int×Int)
  | 0,_,_,_=>none
  | n1 + 1,y4,y5,y1 =>
    let k1:(List Int)→Pl→Int→Option (List Lot×List (List (List Part))×List Int×Int):=F24_l1 fuel x1 x2 n1
    (cond (decide (y1<(x1.length:Int))) ((getI x1 y1).bind fun p1=>(cond (y1 == x2) (F24_j1 k1 y1 y4 y5) ((F51 fuel y5 p1.kind p1.lot p1.frm p1.to p1.mass).bind fun r1=>(cond (r1.2.2.1 != (0:Int)) ((appC y4 ([y1])).bind fun d1=>(F24_j1 k1 y1 d1 r1.2.2.2)) (F24_j1 k1 y1 y4 r1.2.2.2))))) ((F20 fuel y5.lots y5.holds).bind fun r2=>(some (r2.1,r2.2,y4,0))))
def F24 (fuel:Nat) (x0:List Lot) (x1:List Deed) (x2:Int):Option (List Lot×List (List (List Part))×List Int×Int) :=
  ((F49 fuel x0 x1).bind fun r3=>(cond (r3 != (0:Int)) (some ([],[[],[],[],[],[],[],[],[],[]],[],r3)) ((F48 fuel x2 0 (w64 ((x1.length:Int) - (1:Int)))).bind fun r4=>(cond (!r4) (some ([],[[],[],[],[],[],[],[],[],[]],[],1)) ((F50 fuel x0 ([[],[],[],[],[],[],[],[],[]])).bind fun r5=>(F24_l1 fuel x1 x2 fuel ([]) r5 0))))))
set_option maxRecDepth 100000 in
theorem f24_ok (fuel:Nat) (x0:List Lot) (x1:List Deed) (x2:Int) (r:List Lot×List (List (List Part))×List Int×Int) (hr:F24 fuel x0 x1 x2=some r) (h:Zone) (L:List Atom) (w:World) (hS:St h L w) (o_x0:Option Addr) (c_x0:Nat) (hx_x0:SliceR LotT h o_x0 c_x0 x0) (o_x1:Option Addr) (c_x1:Nat) (hx_x1:SliceR DeedT h o_x1 c_x1 x1) :
    Calls Tryz.prog 24 #[.slice o_x0 x0.length c_x0, .slice o_x1 x1.length c_x1,vI x2] w fun e w'=>∃v,e= .returned v∧(∃h',∃o0:Option Addr,∃c0:Nat,∃v1_0:Value,∃v1_1:Value,∃v1_2:Value,∃v1_3:Value,∃v1_4:Value,∃v1_5:Value,∃v1_6:Value,∃v1_7:Value,∃v1_8:Value,∃o2:Option Addr,∃c2:Nat,Zone.le h h'∧v= .tuple #[.agg #[.slice o0 r.1.length c0,v1_0,v1_1,v1_2,v1_3,v1_4,v1_5,v1_6,v1_7,v1_8], .slice o2 r.2.2.1.length c2,vI r.2.2.2]∧St h' L w'∧SliceR LotT h' o0 c0 r.1∧(Ty.arr 9 (Ty.slice (Ty.slice PartT))).rep h' [v1_0,v1_1,v1_2,v1_3,v1_4,v1_5,v1_6,v1_7,v1_8] r.2.1∧SliceR Ty.int h' o2 c2 r.2.2.1):=by
 refine calls_intro (N:=62) Tryz.func24 (by kernel_rfl) fun a hf=>c_sr (c_box [N0,N0,N0,N0,N0,N0,N0,N0,N0,N0] 29 hS hf fun V m o k f=>tv (c_t [] [0,1,2,6] f .nil fun p g=>(c_seq (c_sr (c_n 2 [] [0,1,2,6,16,17] g .nil fun q l=>?_)))))
 obtain ⟨p,f,K⟩:=bind_some hr
 refine c_call l (f49_ok fuel x0 x1 p f h _ _ k o_x0 c_x0 hx_x0 o_x1 c_x1 hx_x1) ?_
 rintro g k l ⟨x,W,rfl,y⟩ f
 refine tv (c_t [] [0,1,2,6,9] f .nil fun g f=>c_sq [] [0,1,2,6,9,20] f .nil fun f o=>c_if (p != (0:Int)) o (fun m=>?_) (fun m=>?_))
 ·have B:=cond_t m K
  refine c_sr (c_n 2 [] [6,21,22] o .nil fun q g=>(c_st 0 [N0,N0,N0,N0,N0,N0,N0,N0,N0,N0] y g rfl fun s t f k=>tv (c_t [] [6,7,8] k .nil fun u l=>(c_ret (r_then (c_rt [N0,N0,N0,N0,N0,N0,N0,N0,N0,N0] (.tuple #[.agg #[N0,N0,N0,N0,N0,N0,N0,N0,N0,N0],N0,vI p]) l (.cell (f.bx 0 0 rfl rfl) (.cell (f.bx 0 1 rfl rfl) (.cell (f.bx 0 2 rfl rfl) (.cell (f.bx 0 3 rfl rfl) (.cell (f.bx 0 4 rfl rfl) (.cell (f.bx 0 5 rfl rfl) (.cell (f.bx 0 6 rfl rfl) (.cell (f.bx 0 7 rfl rfl) (.cell (f.bx 0 8 rfl rfl) (.cell (f.bx 0 9 rfl rfl) .nil)))))))))) ?_))))))
  obtain rfl:=some_eq B
  exact ⟨_,rfl,x,none,0,N0,N0,N0,N0,N0,N0,N0,N0,N0,none,0,W,rfl,(St.drop 1 f),SliceR.nil' _ _,⟨rfl,(Rows.cons (c:=[_]) (sliceRep (SliceR.nil' _ _)) (Rows.cons (c:=[_]) (sliceRep (SliceR.nil' _ _)) (Rows.cons (c:=[_]) (sliceRep (SliceR.nil' _ _)) (Rows.cons (c:=[_]) (sliceRep (SliceR.nil' _ _)) (Rows.cons (c:=[_]) (sliceRep (SliceR.nil' _ _)) (Rows.cons (c:=[_]) (sliceRep (SliceR.nil' _ _)) (Rows.cons (c:=[_]) (sliceRep (SliceR.nil' _ _)) (Rows.cons (c:=[_]) (sliceRep (SliceR.nil' _ _)) (Rows.cons (c:=[_]) (sliceRep (SliceR.nil' _ _)) rfl)))))))))⟩,SliceR.nil' _ _⟩
 have B:=cond_f m K
 refine c_skip (n_then (c_seq (c_sr (c_n 4 [] [0,1,2,6,23,26] o .nil fun f g=>?_))))
 obtain ⟨k,f,K⟩:=bind_some B
 refine c_call g (f48_ok fuel x2 0 (w64 ((x1.length:Int) - (1:Int))) k f x _ _ y ) ?_
 rintro g l m ⟨u,Y,rfl,x⟩ f
 refine tv (c_t [] [0,1,2,6,28] f .nil fun f o=>c_if (!k) o (fun m=>?_) (fun m=>?_))
 ·have B:=cond_t m K
  refine c_sr (c_n 1 [] [6,29] o .nil fun p g=>(c_st 0 [N0,N0,N0,N0,N0,N0,N0,N0,N0,N0] x g rfl fun q s f k=>tv (c_t [] [6,7,8] k .nil fun t l=>(c_ret (r_then (c_rt [N0,N0,N0,N0,N0,N0,N0,N0,N0,N0] (.tuple #[.agg #[N0,N0,N0,N0,N0,N0,N0,N0,N0,N0],N0,vI 1]) l (.cell (f.bx 0 0 rfl rfl) (.cell (f.bx 0 1 rfl rfl) (.cell (f.bx 0 2 rfl rfl) (.cell (f.bx 0 3 rfl rfl) (.cell (f.bx 0 4 rfl rfl) (.cell (f.bx 0 5 rfl rfl) (.cell (f.bx 0 6 rfl rfl) (.cell (f.bx 0 7 rfl rfl) (.cell (f.bx 0 8 rfl rfl) (.cell (f.bx 0 9 rfl rfl) .nil)))))))))) ?_))))))
  obtain rfl:=some_eq B
  exact ⟨_,rfl,u,none,0,N0,N0,N0,N0,N0,N0,N0,N0,N0,none,0,(zt W Y),rfl,(St.drop 1 f),SliceR.nil' _ _,⟨rfl,(Rows.cons (c:=[_]) (sliceRep (SliceR.nil' _ _)) (Rows.cons (c:=[_]) (sliceRep (SliceR.nil' _ _)) (Rows.cons (c:=[_]) (sliceRep (SliceR.nil' _ _)) (Rows.cons (c:=[_]) (sliceRep (SliceR.nil' _ _)) (Rows.cons (c:=[_]) (sliceRep (SliceR.nil' _ _)) (Rows.cons (c:=[_]) (sliceRep (SliceR.nil' _ _)) (Rows.cons (c:=[_]) (sliceRep (SliceR.nil' _ _)) (Rows.cons (c:=[_]) (sliceRep (SliceR.nil' _ _)) (Rows.cons (c:=[_]) (sliceRep (SliceR.nil' _ _)) rfl)))))))))⟩,SliceR.nil' _ _⟩
 have B:=cond_f m K
 refine c_skip (n_then (c_sr (c_n 2 [] [1,2,6,31] o .nil fun f g=>?_)))
 obtain ⟨o,f,B⟩:=bind_some B
 refine c_call g (f50_ok fuel x0 ([[],[],[],[],[],[],[],[],[]]) o f u _ _ x o_x0 c_x0 (SliceR.mono (zt W Y) hx_x0) (N0) (N0) (N0) (N0) (N0) (N0) (N0) (N0) (N0) ⟨rfl,(Rows.cons (c:=[_]) (sliceRep (SliceR.nil' _ _)) (Rows.cons (c:=[_]) (sliceRep (SliceR.nil' _ _)) (Rows.cons (c:=[_]) (sliceRep (SliceR.nil' _ _)) (Rows.cons (c:=[_]) (sliceRep (SliceR.nil' _ _)) (Rows.cons (c:=[_]) (sliceRep (SliceR.nil' _ _)) (Rows.cons (c:=[_]) (sliceRep (SliceR.nil' _ _)) (Rows.cons (c:=[_]) (sliceRep (SliceR.nil' _ _)) (Rows.cons (c:=[_]) (sliceRep (SliceR.nil' _ _)) (Rows.cons (c:=[_]) (sliceRep (SliceR.nil' _ _)) rfl)))))))))⟩) ?_
 rintro g k l ⟨m,q,Z,rfl,p⟩ f
 refine tv (c_t [] [1,2,6,10] f .nil fun g f=>c_sq [] [1,2,6,10,11] f .nil fun g f=>c_seq (c_sq [] [2,6,10,11,33,34,35] f .nil fun f g=>(c_block 0 ?_)))
 have f:=p.ownNil Ty.int 3
 refine c_loop (fun n a w=>∃p:Zone,∃O:List Int,∃M:Pl,∃u:Int,∃P:Option Addr,∃Q:Nat,Zone.le m p∧Fr a 62 [(2,vI x2),(6,pB V 0),(10,pB q 0),(11,sL P O Q),(33,sL o_x1 x1 c_x1),(34,vI (x1.length:Int)),(35,vI u)]∧St p (ownS Ty.int 3 P Q O::plA 69 49 101 q M::box V [N0,N0,N0,N0,N0,N0,N0,N0,N0,N0] 29::L) w∧(F24_l1 fuel x1 x2 n O M u)=some r) fuel ⟨m,[],o,0,none,0,zr,g.to,f,B⟩ ?_
 rintro f g k ⟨p,O,M,u,P,Q,X,l,z,U⟩
 cases f with
 | zero=>cases U
 | succ R =>
 refine c_sq [] [2,6,10,11,33,34,35,36] l .nil fun f S=>c_seq (c_if (decide (u<(x1.length:Int))) S (fun J=>?_) (fun J=>?_))
 ·have B:=cond_t J U
  refine c_skip (n_then (c_mid (fun a w=>∃F:Zone,∃A:List Int,∃G:Pl,∃H:Option Addr,∃I:Nat,Zone.le p F∧Fr a 62 [(2,vI x2),(6,pB V 0),(10,pB q 0),(11,sL H A I),(33,sL o_x1 x1 c_x1),(34,vI (x1.length:Int)),(35,vI u)]∧St F (ownS Ty.int 3 H I A::plA 69 49 101 q G::box V [N0,N0,N0,N0,N0,N0,N0,N0,N0,N0] 29::L) w∧(F24_j1 (F24_l1 fuel x1 x2 R) u A G)=some r) ?_ ?_))
  ·skip
   refine c_block 1 (c_sr ?_)
   obtain ⟨g,f,K⟩:=bind_some B
   obtain ⟨k,l,m,o,rfl,f⟩:=SliceR.getI (SliceR.mono (zt (zt (zt W Y) Z) X) hx_x1) f
   refine c_n 3 [.pointer (some k),vI g.kind,vI g.lot,vI g.frm,vI g.to,vI g.mass] [2,6,10,11,33,34,35,37,39] S (.prop l (.prop m (.cell (z.cell (f 0 _ rfl)) (.cell (z.cell (f 1 _ rfl)) (.cell (z.cell (f 2 _ rfl)) (.cell (z.cell (f 3 _ rfl)) (.cell (z.cell (f 4 _ rfl)) .nil))))))) fun k f=>c_box [vI 0,vI 0,vI 0,vI 0,vI 0] 74 z f fun l m o k f=>tv (c_n 1 [] [2,6,10,11,12,13,33,34,35,39] f .nil fun l f=>c_st 0 [vI g.kind,vI g.lot,vI g.frm,vI g.to,vI g.mass] k f rfl fun l m f k=>tv (c_dt (c_seq (c_sq [] [2,6,10,11,12,13,33,34,35,42] k .nil fun m l=>(c_if (u == x2) l (fun k=>?_) (fun k=>?_))))))
   ·have B:=cond_t k K
    refine c_exit 1 (x_then (x_block (n_then (⟨p,O,M,P,Q,zr,l.to,(St.drop 1 f),B⟩))))
   have B:=cond_f k K
   refine c_skip (n_then (c_sr (c_n 2 [vI g.kind,vI g.lot,vI g.frm,vI g.to,vI g.mass] [2,6,10,11,12,33,34,35,44,45] l (.cell (f.bx 0 0 rfl rfl) (.cell (f.bx 0 1 rfl rfl) (.cell (f.bx 0 2 rfl rfl) (.cell (f.bx 0 3 rfl rfl) (.cell (f.bx 0 4 rfl rfl) .nil))))) fun k l=>?_)))
   have f:=St.swapTo (i:=3) (j:=0) (St.addEmp f) rfl rfl (by decide)
   have k:=f
   obtain ⟨x,f,K⟩:=bind_some B
   refine c_call l (f51_ok fuel M g.kind g.lot g.frm g.to g.mass x f p _ _ q k ) ?_
   rintro g k l ⟨C,q,s,t,D,rfl,f,m,o⟩ p
   have f:=St.swapTo (i:=0) (j:=3) f rfl rfl (by decide)
   have g:=f
   refine tv (c_n 3 [] [2,6,10,11,12,33,34,35,47,48] p .nil fun k f=>c_box [N0, .map none] 103 g f fun k l m f g=>tv (c_st 0 [sL q x.1 s, .map t] f g rfl fun g k y f=>tv (c_t [] [2,6,10,11,12,15,33,34,35] f .nil fun g f=>c_sq [] [2,6,10,11,12,33,34,35,50] f .nil fun f t=>c_if (x.2.2.1 != (0:Int)) t (fun l=>?_) (fun l=>?_))))
   ·have B:=cond_t l K
    refine c_reg (c_n 2 [] [2,6,10,33,34,35,51,52] t .nil fun m f=>(p_box (i:=2) (d:=(some 53)) (cs:=[vI u]) (T:=3) (v:=fun g=> .slice (some ⟨g,0,none⟩) 1 1) y f (fun b=>by kernel_rfl) fun g o p k q=>tv ?_))
    have f:=k.ownBox (T:=Ty.int) (E:=3) (n:=1) (xs:=[u]) (i:=0) rfl (Rows.cons (c:=[vI u]) rfl rfl) rfl (by decide)
    obtain ⟨s,k,B⟩:=bind_some B
    refine p_append (T:=Ty.int) (i:=3) (j:=4) (d:=some 54) (o2:=(some ⟨g,0,none⟩)) (c2:=1) (ys:=([u])) el76 f q rfl (by kernel_rfl) (f.ownSrc (j:=0) rfl) k fun g k m o p f=>tv (c_z [] [2,6,10,11,33,34,35] f .nil fun m f=>n_block (n_then (⟨C,s,x.2.2.2,g,k,D,f.to,(St.drop 4 p),B⟩)))
   have B:=cond_f l K
   refine c_skip (n_block (n_then (⟨C,O,x.2.2.2,P,Q,D,t.to,(St.drop 3 y),B⟩)))
  rintro g k ⟨F,A,G,H,I,l,f,m,B⟩
  refine c_q [] [2,6,10,11,33,34,35] f .nil fun g f=>n_then (⟨R,Nat.lt_succ_self R,F,A,G,(w64 (u + (1:Int))),H,I,(zt X l),f.to,m,B⟩)
 have B:=cond_f J U
 refine c_exit 0 (x_then (x_then (x_block (n_then ?_))))
 obtain ⟨g,k,l,m,o,p,q,s,t,u,x,y,z,A,C,D,F,G,H,I,J,f⟩:=z.plOpen (i:=1) rfl
 refine c_sr (c_n 4 [sL g M.lots k,l,m,o,p,q,s,t,u,x] [6,11,59] S (.cell (f.bx 3 0 rfl rfl) (.cell (f.bx 3 1 rfl rfl) (.cell (f.bx 3 2 rfl rfl) (.cell (f.bx 3 3 rfl rfl) (.cell (f.bx 3 4 rfl rfl) (.cell (f.bx 3 5 rfl rfl) (.cell (f.bx 3 6 rfl rfl) (.cell (f.bx 3 7 rfl rfl) (.cell (f.bx 3 8 rfl rfl) (.cell (f.bx 3 9 rfl rfl) .nil)))))))))) fun y D=>?_)
 obtain ⟨z,H,A,C⟩:=f.ownShareN (j:=0) rfl (n:=9) rfl
 obtain ⟨y,f,B⟩:=bind_some B
 refine c_call D (f20_ok fuel M.lots M.holds y f z _ _ A g k (SliceR.mono H J) l m o p q s t u x (Ty.mono _ zr C)) ?_
 rintro A C D ⟨F,k,l,m,o,p,q,s,t,u,x,z,I,rfl,g,J⟩ f
 refine tv (c_n 1 [] [6,60,61] f .nil fun f A=>?_)
 have f:=g.ownOnes (j:=0) rfl
 refine p_store_eq (i:=6) (j:=5) (b:=V) (off:=0) (vs:=[sL k y.1 l,m,o,p,q,s,t,u,x,z]) (cs':=[sL k y.1 l,m,o,p,q,s,t,u,x,z]) g A rfl (by kernel_rfl) f rfl fun g A C f=>tv (c_t [] [6,7,8] f .nil fun f F=>c_ret ?_)
 obtain ⟨g,A,f,G⟩:=C.share (j:=3) rfl
 obtain ⟨C,g,f,D⟩:=f.ownShareN (j:=0) rfl (n:=9) rfl
 refine c_rt [sL k y.1 l,m,o,p,q,s,t,u,x,z] (.tuple #[.agg #[sL k y.1 l,m,o,p,q,s,t,u,x,z],sL P O Q,vI 0]) F (.cell (f.bx 5 0 rfl rfl) (.cell (f.bx 5 1 rfl rfl) (.cell (f.bx 5 2 rfl rfl) (.cell (f.bx 5 3 rfl rfl) (.cell (f.bx 5 4 rfl rfl) (.cell (f.bx 5 5 rfl rfl) (.cell (f.bx 5 6 rfl rfl) (.cell (f.bx 5 7 rfl rfl) (.cell (f.bx 5 8 rfl rfl) (.cell (f.bx 5 9 rfl rfl) .nil)))))))))) ?_
 obtain rfl:=some_eq B
 exact ⟨_,rfl,C,k,l,m,o,p,q,s,t,u,x,z,P,Q,(zt (zt (zt (zt (zt (zt (zt W Y) Z) X) H) I) A) g),rfl,(St.drop 6 f),(SliceR.mono (zt A g) J),(Ty.mono _ zr D),(SliceR.mono g G)⟩
def F60_j1 (y1:Bool):Option (Bool) :=
  (some (y1))
def F60 (fuel:Nat) (x0:Int) (x1:Int) (x2:Int):Option (Bool) :=
  (cond (decide (x0≥x1)) (F60_j1 (decide (x0≤x2))) (F60_j1 false))
set_option maxRecDepth 100000 in
theorem f60_ok (fuel:Nat) (x0:Int) (x1:Int) (x2:Int) (r:Bool) (hr:F60 fuel x0 x1 x2=some r) (h:Zone) (L:List Atom) (w:World) (hS:St h L w)  :
    Calls Tryz.prog 60 #[vI x0,vI x1,vI x2] w fun e w'=>∃v,e= .returned v∧(∃h',Zone.le h h'∧v= .bool r∧St h' L w'):=by
 refine calls_intro (N:=15) Tryz.func60 (by kernel_rfl) fun a hf=>c_sq [] [0,1,2] hf .nil fun b c=>c_mid (fun a w=>∃k:Zone,∃j:Bool,Zone.le h k∧Fr a 15 [(6, .bool j)]∧St k (L) w∧(F60_j1 j)=some r) ?_ ?_
 ·skip
  refine c_reg (c_n 4 [] [0,2,10] c .nil fun b g=>?_)
  rcases bft (decide (x0≥x1)) with b | b
  ·have d:=cond_t b hr
   have c:=g.lit 10 b
   refine c_t [] [6] c .nil fun f c=>⟨h,(decide (x0≤x2)),zr,c.to,hS,d⟩
  have d:=cond_f b hr
  have b:=g.lit 10 b
  refine c_t [] [6] b .nil fun c b=>⟨h,false,zr,b.to,hS,d⟩
 rintro c f ⟨k,j,g,b,i,d⟩
 refine c_ret (c_rt [] (.bool j) b .nil ?_)
 obtain rfl:=some_eq d
 exact ⟨_,rfl,k,g,rfl,i⟩
def F53_j1 (y1:Bool):Option (Int) :=
  (cond y1 (some (60)) (some (0)))
def F53 (fuel:Nat) (x0i:Int) (x0w:Int) (x0g:Int) (x0e:Int):Option (Int) :=
  ((F60 fuel x0i 1 9999).bind fun r1=>(cond (!r1) (F53_j1 true) ((F60 fuel x0w 1 9).bind fun r2=>(cond (!r2) (F53_j1 true) ((F60 fuel x0g 1 9).bind fun r3=>(cond (!r3) (F53_j1 true) ((F60 fuel x0e 0 10000).bind fun r4=>(F53_j1 (!r4)))))))))
set_option maxRecDepth 100000 in
theorem f53_ok (fuel:Nat) (x0i:Int) (x0w:Int) (x0g:Int) (x0e:Int) (r:Int) (hr:F53 fuel x0i x0w x0g x0e=some r) (h:Zone) (L:List Atom) (w:World) (hS:St h L w)  :
    Calls Tryz.prog 53 #[.agg #[vI x0i,vI x0w,vI x0g,vI x0e]] w fun e w'=>∃v,e= .returned v∧(∃h',Zone.le h h'∧v=vI r∧St h' L w'):=by
 refine calls_intro (N:=25) Tryz.func53 (by kernel_rfl) fun a hf=>c_sr (c_box [vI x0i,vI x0w,vI x0g,vI x0e] 43 hS hf fun b i j d c=>tv (c_t [] [1] c .nil fun k f=>(c_seq (c_mid (fun a w=>∃q:Zone,∃s:Bool,Zone.le h q∧Fr a 25 [(24, .bool s)]∧St q (box b [vI x0i,vI x0w,vI x0g,vI x0e] 43::L) w∧(F53_j1 s)=some r) ?_ ?_))))
 ·skip
  refine c_reg (c_n 2 [vI x0i] [1,4] f (.cell (d.bx 0 0 rfl rfl) .nil) fun b c=>?_)
  obtain ⟨f,b,m⟩:=bind_some hr
  refine c_call c (f60_ok fuel x0i 1 9999 f b h _ _ d ) ?_
  rintro c d i ⟨k,p,rfl,j⟩ b
  refine tv (c_n 2 [] [1,7] b .nil fun b i=>?_)
  rcases bft (!f) with b | b
  ·have g:=cond_t b m
   have c:=i.lit 7 b
   refine c_t [] [24] c .nil fun d c=>⟨k,true,p,c.to,j,g⟩
  have g:=cond_f b m
  have b:=i.lit 7 b
  refine c_n 2 [vI x0w] [1,7,9] b (.cell (j.bx 0 1 rfl rfl) .nil) fun b c=>?_
  obtain ⟨d,b,m⟩:=bind_some g
  refine c_call c (f60_ok fuel x0w 1 9 d b k _ _ j ) ?_
  rintro c f i ⟨k,o,rfl,j⟩ b
  refine tv (c_n 3 [] [1,13] b .nil fun b f=>?_)
  rcases bft (!d) with b | b
  ·have g:=cond_t b m
   have c:=f.lit 13 b
   refine c_t [] [24] c .nil fun d c=>⟨k,true,(zt p o),c.to,j,g⟩
  have g:=cond_f b m
  have b:=f.lit 13 b
  refine c_n 2 [vI x0g] [1,13,15] b (.cell (j.bx 0 2 rfl rfl) .nil) fun b c=>?_
  obtain ⟨d,b,m⟩:=bind_some g
  refine c_call c (f60_ok fuel x0g 1 9 d b k _ _ j ) ?_
  rintro c f i ⟨k,n,rfl,j⟩ b
  refine tv (c_n 3 [] [1,19] b .nil fun b f=>?_)
  rcases bft (!d) with b | b
  ·have g:=cond_t b m
   have c:=f.lit 19 b
   refine c_t [] [24] c .nil fun d c=>⟨k,true,(zt (zt p o) n),c.to,j,g⟩
  have g:=cond_f b m
  have b:=f.lit 19 b
  refine c_n 2 [vI x0e] [19,21] b (.cell (j.bx 0 3 rfl rfl) .nil) fun b c=>?_
  obtain ⟨d,b,g⟩:=bind_some g
  refine c_call c (f60_ok fuel x0e 0 10000 d b k _ _ j ) ?_
  rintro c f i ⟨j,k,rfl,l⟩ b
  refine tv (c_t [] [24] b .nil fun c b=>⟨j,(!d),(zt (zt (zt p o) n) k),b.to,l,g⟩)
 rintro b c ⟨q,s,i,d,j,m⟩
 refine c_if s d (fun c=>?_) (fun c=>?_)
 ·have g:=cond_t c m
  refine c_sq [] [2] d .nil fun f b=>c_ret (r_then (c_rt [] (vI 60) b .nil ?_))
  obtain rfl:=some_eq g
  exact ⟨_,rfl,q,i,rfl,(St.drop 1 j)⟩
 have g:=cond_f c m
 refine c_skip (n_then (c_sq [] [2] d .nil fun c b=>(c_ret (c_rt [] (vI 0) b .nil ?_))))
 obtain rfl:=some_eq g
 exact ⟨_,rfl,q,i,rfl,(St.drop 1 j)⟩
def F21_j1 (k1:Int→Option (Int)) (y1:Int) (y2:Bool):Option (Int) :=
  (cond y2 (some (60)) (k1 (w64 (y1 + (1:Int)))))
def F21_l1 (fuel:Nat) (x0:List Lot):Nat→Int→Option (Int)
  | 0,_=>none
  | n1 + 1,y1 =>
    let k1:Int→Option (Int):=F21_l1 fuel x0 n1
    (cond (decide (y1<(x0.length:Int))) ((getI x0 y1).bind fun p1=>((F53 fuel p1.id p1.owner p1.grade p1.wet).bind fun r1=>(cond (r1 != (0:Int)) (F21_j1 k1 y1 true) (cond (decide (y1 > (0:Int))) ((getI x0 (w64 (y1 - (1:Int)))).bind fun p2=>((getI x0 y1).bind fun p3=>(F21_j1 k1 y1 (decide (p2.id≥p3.id))))) (F21_j1 k1 y1 false))))) (some (0)))
def F21 (fuel:Nat) (x0:List Lot):Option (Int) :=
  (cond (decide ((x0.length:Int) > (40:Int))) (some (60)) (F21_l1 fuel x0 fuel 0))
set_option maxRecDepth 100000 in
theorem f21_ok (fuel:Nat) (x0:List Lot) (r:Int) (hr:F21 fuel x0=some r) (h:Zone) (L:List Atom) (w:World) (hS:St h L w) (o_x0:Option Addr) (c_x0:Nat) (hx_x0:SliceR LotT h o_x0 c_x0 x0) :
    Calls Tryz.prog 21 #[.slice o_x0 x0.length c_x0] w fun e w'=>∃v,e= .returned v∧(∃h',Zone.le h h'∧v=vI r∧St h' L w'):=by
 refine calls_intro (N:=37) Tryz.func21 (by kernel_rfl) fun a hf=>c_sq [] [0] hf .nil fun c b=>c_seq (c_sq [] [0,6] b .nil fun b f=>(c_if (decide ((x0.length:Int) > (40:Int))) f (fun c=>?_) (fun c=>?_)))
 ·have d:=cond_t c hr
  refine c_sq [] [2] f .nil fun g b=>c_ret (r_then (c_rt [] (vI 60) b .nil ?_))
  obtain rfl:=some_eq d
  exact ⟨_,rfl,h,zr,rfl,hS⟩
 have d:=cond_f c hr
 refine c_skip (n_then (c_seq (c_sq [] [0,3] f .nil fun c b=>(c_block 0 (c_loop (fun n a w=>∃G:Zone,∃B:Int,Zone.le h G∧Fr a 37 [(0,sL o_x0 x0 c_x0),(3,vI B)]∧St G (L) w∧(F21_l1 fuel x0 n B)=some r) fuel ⟨h,0,zr,b.to,hS,d⟩ ?_)))))
 rintro b c f ⟨G,B,F,g,M,K⟩
 cases b with
 | zero=>cases K
 | succ H =>
 refine c_seq (c_sq [] [0,3,10] g .nil fun b J=>(c_if (decide (B<(x0.length:Int))) J (fun I=>?_) (fun I=>?_)))
 ·have d:=cond_t I K
  refine c_skip (n_then (c_seq (c_block 1 (c_mid (fun a w=>∃D:Zone,∃E:Bool,Zone.le G D∧Fr a 37 [(0,sL o_x0 x0 c_x0),(3,vI B),(36, .bool E)]∧St D (L) w∧(F21_j1 (F21_l1 fuel x0 H) B E)=some r) ?_ ?_))))
  ·skip
   have l:=M.drew
   have j:=Sub.of zr l
   refine c_regD (rD 24 [4]) [] _ j ?_
   obtain ⟨b,c,d⟩:=bind_some d
   obtain ⟨f,g,i,k,rfl,c⟩:=SliceR.getI (SliceR.mono F hx_x0) c
   refine c_S 4 [.pointer (some f),vI b.id,vI b.owner,vI b.grade,vI b.wet] [0,3,16] j J (fun _ s=>(.prop g (.prop i (.cell (s.cell (c 0 _ rfl)) (.cell (s.cell (c 1 _ rfl)) (.cell (s.cell (c 2 _ rfl)) (.cell (s.cell (c 3 _ rfl)) .nil))))))) .nil fun c f=>?_
   obtain ⟨g,c,t⟩:=bind_some d
   refine c_call f (f53_ok fuel b.id b.owner b.grade b.wet g c G _ _ l ) ?_
   rintro b c f ⟨C,y,rfl,z⟩ i
   refine ⟨fun _=>Sub.of y z,?_⟩
   have x:=Sub.of y z
   refine c_S 2 [] [0,3,19] x i (fun _ s=> .nil) .nil fun b i=>?_
   rcases bft (g != (0:Int)) with b | b
   ·have d:=cond_t b t
    have c:=i.lit 19 b
    refine c_S 17 [] [0,3,36] x c (fun _ s=> .nil) .nil fun f c=>c_dt (⟨C,true,y,c.to,z,d⟩)
   have t:=cond_f b t
   have b:=i.lit 19 b
   refine c_S 3 [] [0,3,19,22] x b (fun _ s=> .nil) .nil fun b A=>?_
   rcases bft (decide (B > (0:Int))) with i | i
   ·have d:=cond_t i t
    have u:=A.lit 22 i
    obtain ⟨k,b,d⟩:=bind_some d
    obtain ⟨l,m,o,b,rfl,p⟩:=SliceR.getI (SliceR.mono F hx_x0) b
    obtain ⟨j,b,d⟩:=bind_some d
    obtain ⟨b,c,f,q,rfl,g⟩:=SliceR.getI (SliceR.mono F hx_x0) b
    refine c_S 14 [.pointer (some l),vI k.id, .pointer (some b),vI j.id] [0,3,36] x u (fun _ s=>(.prop m (.prop o (.cell (s.cell (p 0 _ rfl)) (.prop c (.prop f (.cell (s.cell (g 0 _ rfl)) .nil))))))) .nil fun c b=>c_dt (⟨C,(decide (k.id≥j.id)),y,b.to,z,d⟩)
   have d:=cond_f i t
   have b:=A.lit 22 i
   refine c_S 14 [] [0,3,36] x b (fun _ s=> .nil) .nil fun c b=>c_dt (⟨C,false,y,b.to,z,d⟩)
  rintro b c ⟨D,E,i,f,j,t⟩
  refine c_if E f (fun c=>?_) (fun c=>?_)
  ·have d:=cond_t c t
   refine c_sq [] [2] f .nil fun g b=>c_ret (r_block (r_then (r_then (r_block (r_then (c_rt [] (vI 60) b .nil ?_))))))
   obtain rfl:=some_eq d
   exact ⟨_,rfl,D,(zt F i),rfl,j⟩
  have d:=cond_f c t
  refine c_skip (n_block (n_then (c_q [] [0,3] f .nil fun c b=>(n_then (⟨H,Nat.lt_succ_self H,D,(w64 (B + (1:Int))),(zt F i),b.to,j,d⟩)))))
 have d:=cond_f I K
 refine c_exit 0 (x_then (x_then (x_block (n_then (c_sq [] [2] J .nil fun c b=>(c_ret (c_rt [] (vI 0) b .nil ?_)))))))
 obtain rfl:=some_eq d
 exact ⟨_,rfl,G,F,rfl,M⟩
def F82_l1 (x0:List Part):Nat→Int→Int→Option (Int)
  | 0,_,_=>none
  | n1 + 1,y1,y2 =>
    let k1:Int→Int→Option (Int):=F82_l1 x0 n1
    (cond (decide (y2<(x0.length:Int))) ((getI x0 y2).bind fun p1=>(k1 (w64 (y1 + p1.mass)) (w64 (y2 + (1:Int))))) (some (y1)))
def F82 (fuel:Nat) (x0:List Part):Option (Int) :=
  (F82_l1 x0 fuel 0 0)
set_option maxRecDepth 100000 in
theorem f82_ok (fuel:Nat) (x0:List Part) (r:Int) (hr:F82 fuel x0=some r) (h:Zone) (L:List Atom) (w:World) (hS:St h L w) (o_x0:Option Addr) (c_x0:Nat) (hx_x0:SliceR PartT h o_x0 c_x0 x0) :
    Calls Tryz.prog 82 #[.agg #[.slice o_x0 x0.length c_x0]] w fun e w'=>∃v,e= .returned v∧(∃h',Zone.le h h'∧v=vI r∧St h' L w'):=by
 refine calls_intro (N:=21) Tryz.func82 (by kernel_rfl) fun a hf=>c_sr (c_box [sL o_x0 x0 c_x0] 49 hS hf fun b m o c d=>tv (c_t [] [1] d .nil fun p f=>(c_sq [] [1,3] f .nil fun q g=>(c_seq (c_sq [] [1,3,4] g .nil fun s i=>(c_block 0 (c_loop (fun n a w=>∃t:Zone,∃l:Int,∃j:Int,Zone.le h t∧Fr a 21 [(1,pB b 0),(3,vI l),(4,vI j)]∧St t (box b [sL o_x0 x0 c_x0] 49::L) w∧(F82_l1 x0 n l j)=some r) fuel ⟨h,0,0,zr,i.to,c,hr⟩ ?_)))))))
 rintro b c d ⟨t,l,j,s,f,m,u⟩
 cases b with
 | zero=>cases u
 | succ q =>
 refine c_seq (c_sq [sL o_x0 x0 c_x0] [1,3,4,9] f (.cell (m.bx 0 0 rfl rfl) .nil) fun b o=>(c_if (decide (j<(x0.length:Int))) o (fun i=>?_) (fun i=>?_)))
 ·have k:=cond_t i u
  refine c_skip (n_then (c_seq (c_block 1 ?_)))
  obtain ⟨g,b,k⟩:=bind_some k
  obtain ⟨b,c,d,p,rfl,f⟩:=SliceR.getI (SliceR.mono s hx_x0) b
  refine c_q [sL o_x0 x0 c_x0, .pointer (some b),vI g.mass] [1,3,4] o (.cell (m.bx 0 0 rfl rfl) (.prop c (.prop d (.cell (m.cell (f 1 _ rfl)) .nil)))) fun c b=>n_block (n_then (c_q [] [1,3,4] b .nil fun c b=>(n_then (⟨q,Nat.lt_succ_self q,t,(w64 (l + g.mass)),(w64 (j + (1:Int))),s,b.to,m,k⟩))))
 have k:=cond_f i u
 refine c_exit 0 (x_then (x_then (x_block (n_then (c_sq [] [2] o .nil fun c b=>(c_ret (c_rt [] (vI l) b .nil ?_)))))))
 obtain rfl:=some_eq k
 exact ⟨_,rfl,t,s,rfl,(St.drop 1 m)⟩
def F69_l1 (fuel:Nat) (x0:List (List Part)):Nat→Int→Int→Option (Int)
  | 0,_,_=>none
  | n1 + 1,y1,y2 =>
    let k1:Int→Int→Option (Int):=F69_l1 fuel x0 n1
    (cond (decide (y2<(x0.length:Int))) ((getI x0 y2).bind fun p1=>((F82 fuel p1).bind fun r1=>(k1 (w64 (y1 + r1)) (w64 (y2 + (1:Int)))))) (some (y1)))
def F69 (fuel:Nat) (x0:List (List Part)):Option (Int) :=
  (F69_l1 fuel x0 fuel 0 0)
set_option maxRecDepth 100000 in
theorem f69_ok (fuel:Nat) (x0:List (List Part)) (r:Int) (hr:F69 fuel x0=some r) (h:Zone) (L:List Atom) (w:World) (hS:St h L w) (o_x0:Option Addr) (c_x0:Nat) (hx_x0:SliceR (Ty.slice PartT) h o_x0 c_x0 x0) :
    Calls Tryz.prog 69 #[.slice o_x0 x0.length c_x0] w fun e w'=>∃v,e= .returned v∧(∃h',Zone.le h h'∧v=vI r∧St h' L w'):=by
 refine calls_intro (N:=19) Tryz.func69 (by kernel_rfl) fun a hf=>c_sq [] [0] hf .nil fun c b=>c_sq [] [0,3] b .nil fun c b=>c_seq (c_sq [] [0,3,4] b .nil fun c b=>(c_block 0 (c_loop (fun n a w=>∃p:Zone,∃o:Int,∃m:Int,Zone.le h p∧Fr a 19 [(0,sL o_x0 x0 c_x0),(3,vI o),(4,vI m)]∧St p (L) w∧(F69_l1 fuel x0 n o m)=some r) fuel ⟨h,0,0,zr,b.to,hS,hr⟩ ?_)))
 rintro b c d ⟨p,o,m,x,g,y,t⟩
 cases b with
 | zero=>cases t
 | succ u =>
 refine c_seq (c_sq [] [0,3,4,8] g .nil fun b s=>(c_if (decide (m<(x0.length:Int))) s (fun q=>?_) (fun q=>?_)))
 ·have f:=cond_t q t
  refine c_skip (n_then (c_seq (c_block 1 (c_reg ?_))))
  obtain ⟨k,b,f⟩:=bind_some f
  obtain ⟨d,g,i,c,b,j⟩:=SliceR.getI (SliceR.mono x hx_x0) b
  obtain ⟨b,c,rfl,l⟩:=b
  refine c_n 5 [.pointer (some d),sL b k c] [0,4,11,15] s (.prop g (.prop i (.cell (y.cell (j 0 _ rfl)) .nil))) fun d g=>?_
  obtain ⟨i,d,f⟩:=bind_some f
  refine c_call g (f82_ok fuel k i d p _ _ y b c l) ?_
  rintro c d g ⟨j,k,rfl,l⟩ b
  refine tv (c_z [] [0,3,4] b .nil fun c b=>n_block (n_then (c_q [] [0,3,4] b .nil fun c b=>(n_then (⟨u,Nat.lt_succ_self u,j,(w64 (o + i)),(w64 (m + (1:Int))),(zt x k),b.to,l,f⟩)))))
 have f:=cond_f q t
 refine c_exit 0 (x_then (x_then (x_block (n_then (c_sq [] [2] s .nil fun c b=>(c_ret (c_rt [] (vI o) b .nil ?_)))))))
 obtain rfl:=some_eq f
 exact ⟨_,rfl,p,x,rfl,y⟩
def F100_j1 (k1:Int→Int→Option (Bool)) (y1:Int) (y2:Int) (p1:Part) (y3:Bool):Option (Bool) :=
  (cond y3 (some (false)) (k1 (w64 (y1 + p1.mass)) (w64 (y2 + (1:Int)))))
def F100_l1 (fuel:Nat) (x0:List Part):Nat→Int→Int→Option (Bool)
  | 0,_,_=>none
  | n1 + 1,y1,y2 =>
    let k1:Int→Int→Option (Bool):=F100_l1 fuel x0 n1
    (cond (decide (y2<(x0.length:Int))) ((getI x0 y2).bind fun p1=>((F60 fuel p1.lot 1 9999).bind fun r1=>(cond (!r1) (F100_j1 k1 y1 y2 p1 true) ((F60 fuel p1.mass 1 100000000).bind fun r2=>(cond (!r2) (F100_j1 k1 y1 y2 p1 true) (cond (decide (y2 > (0:Int))) ((getI x0 (w64 (y2 - (1:Int)))).bind fun p2=>(F100_j1 k1 y1 y2 p1 (decide (p2.lot≥p1.lot)))) (F100_j1 k1 y1 y2 p1 false))))))) (some ((decide (y1≤(100000000:Int))))))
def F100 (fuel:Nat) (x0:List Part):Option (Bool) :=
  (cond (decide ((x0.length:Int) > (40:Int))) (some (false)) (F100_l1 fuel x0 fuel 0 0))
set_option maxRecDepth 100000 in
theorem f100_ok (fuel:Nat) (x0:List Part) (r:Bool) (hr:F100 fuel x0=some r) (h:Zone) (L:List Atom) (w:World) (hS:St h L w) (o_x0:Option Addr) (c_x0:Nat) (hx_x0:SliceR PartT h o_x0 c_x0 x0) :
    Calls Tryz.prog 100 #[.agg #[.slice o_x0 x0.length c_x0]] w fun e w'=>∃v,e= .returned v∧(∃h',Zone.le h h'∧v= .bool r∧St h' L w'):=by
 refine calls_intro (N:=54) Tryz.func100 (by kernel_rfl) fun a hf=>c_sr (c_box [sL o_x0 x0 c_x0] 49 hS hf fun q j k g b=>tv (c_t [] [1] b .nil fun l c=>(c_seq (c_sq [sL o_x0 x0 c_x0] [1,9] c (.cell (g.bx 0 0 rfl rfl) .nil) fun m i=>(c_if (decide ((x0.length:Int) > (40:Int))) i (fun f=>?_) (fun f=>?_))))))
 ·have d:=cond_t f hr
  refine c_sq [] [2] i .nil fun c b=>c_ret (r_then (c_rt [] (.bool false) b .nil ?_))
  obtain rfl:=some_eq d
  exact ⟨_,rfl,h,zr,rfl,(St.drop 1 g)⟩
 have d:=cond_f f hr
 refine c_skip (n_then (c_sq [] [1,3] i .nil fun f b=>(c_seq (c_sq [] [1,3,4] b .nil fun i c=>(c_block 0 (c_loop (fun n a w=>∃E:Zone,∃A:Int,∃z:Int,Zone.le h E∧Fr a 54 [(1,pB q 0),(3,vI A),(4,vI z)]∧St E (box q [sL o_x0 x0 c_x0] 49::L) w∧(F100_l1 fuel x0 n A z)=some r) fuel ⟨h,0,0,zr,c.to,g,d⟩ ?_))))))
 rintro b c f ⟨E,A,z,F,g,D,J⟩
 cases b with
 | zero=>cases J
 | succ G =>
 refine c_seq (c_sq [sL o_x0 x0 c_x0] [1,3,4,14] g (.cell (D.bx 0 0 rfl rfl) .nil) fun b I=>(c_if (decide (z<(x0.length:Int))) I (fun H=>?_) (fun H=>?_)))
 ·have d:=cond_t H J
  refine c_skip (n_then (c_seq (c_block 1 (c_sr ?_))))
  obtain ⟨p,b,d⟩:=bind_some d
  obtain ⟨c,f,g,i,rfl,b⟩:=SliceR.getI (SliceR.mono F hx_x0) b
  refine c_n 5 [sL o_x0 x0 c_x0, .pointer (some c),vI p.lot,vI p.mass] [1,3,4,21] I (.cell (D.bx 0 0 rfl rfl) (.prop f (.prop g (.cell (D.cell (b 0 _ rfl)) (.cell (D.cell (b 1 _ rfl)) .nil))))) fun c b=>c_box [vI 0,vI 0] 53 D b fun b g i c f=>tv (c_st 0 [vI p.lot,vI p.mass] c f rfl fun c f g i=>tv (c_dt (c_seq (c_mid (fun a w=>∃B:Zone,∃C:Bool,Zone.le E B∧Fr a 54 [(1,pB q 0),(3,vI A),(4,vI z),(5,pB b 0),(47, .bool C)]∧St B (box b [vI p.lot,vI p.mass] 53::box q [sL o_x0 x0 c_x0] 49::L) w∧(F100_j1 (F100_l1 fuel x0 G) A z p C)=some r) ?_ ?_))))
  ·skip
   have f:=g.drew
   have b:=Sub.of zr f
   refine c_regD (rD 26 [2,7]) [] _ b (c_S 2 [vI p.lot] [1,3,4,5,23] b i (fun _ s=>(.cell (s.bx 0 0 rfl rfl) .nil)) .nil fun b c=>?_)
   obtain ⟨g,b,o⟩:=bind_some d
   refine c_call c (f60_ok fuel p.lot 1 9999 g b E _ _ f ) ?_
   rintro b c f ⟨l,x,rfl,k⟩ i
   refine ⟨fun _=>Sub.of x k,?_⟩
   have j:=Sub.of x k
   refine c_S 2 [] [1,3,4,5,26] j i (fun _ s=> .nil) .nil fun b i=>?_
   rcases bft (!g) with b | b
   ·have d:=cond_t b o
    have c:=i.lit 26 b
    refine c_S 21 [] [1,3,4,5,47] j c (fun _ s=> .nil) .nil fun f c=>c_dt (⟨l,true,x,c.to,k,d⟩)
   have d:=cond_f b o
   have b:=i.lit 26 b
   refine c_S 2 [vI p.mass] [1,3,4,5,26,28] j b (fun _ s=>(.cell (s.bx 0 1 rfl rfl) .nil)) .nil fun b c=>?_
   obtain ⟨f,b,o⟩:=bind_some d
   refine c_call c (f60_ok fuel p.mass 1 100000000 f b l _ _ k ) ?_
   rintro b c g ⟨y,t,rfl,u⟩ i
   refine ⟨fun _=>Sub.of (zt x t) u,?_⟩
   have m:=Sub.of (zt x t) u
   refine c_S 3 [] [1,3,4,5,32] m i (fun _ s=> .nil) .nil fun b g=>?_
   rcases bft (!f) with b | b
   ·have d:=cond_t b o
    have c:=g.lit 32 b
    refine c_S 15 [] [1,3,4,5,47] m c (fun _ s=> .nil) .nil fun f c=>c_dt (⟨y,true,(zt x t),c.to,u,d⟩)
   have o:=cond_f b o
   have b:=g.lit 32 b
   refine c_S 3 [] [1,3,4,5,32,35] m b (fun _ s=> .nil) .nil fun b q=>?_
   rcases bft (decide (z > (0:Int))) with b | b
   ·have d:=cond_t b o
    have k:=q.lit 35 b
    obtain ⟨j,c,d⟩:=bind_some d
    obtain ⟨c,f,g,l,rfl,i⟩:=SliceR.getI (SliceR.mono F hx_x0) c
    refine c_S 12 [sL o_x0 x0 c_x0, .pointer (some c),vI j.lot,vI p.lot] [1,3,4,5,47] m k (fun _ s=>(.cell (s.bx 1 0 rfl rfl) (.prop f (.prop g (.cell (s.cell (i 0 _ rfl)) (.cell (s.bx 0 0 rfl rfl) .nil)))))) .nil fun f c=>c_dt (⟨y,(decide (j.lot≥p.lot)),(zt x t),c.to,u,d⟩)
   have d:=cond_f b o
   have b:=q.lit 35 b
   refine c_S 12 [] [1,3,4,5,47] m b (fun _ s=> .nil) .nil fun c b=>c_dt (⟨y,false,(zt x t),b.to,u,d⟩)
  rintro b c ⟨B,C,j,f,g,o⟩
  refine c_if C f (fun c=>?_) (fun c=>?_)
  ·have d:=cond_t c o
   refine c_sq [] [2] f .nil fun i b=>c_ret (r_then (r_block (r_then (r_then (r_block (r_then (c_rt [] (.bool false) b .nil ?_)))))))
   obtain rfl:=some_eq d
   exact ⟨_,rfl,B,(zt F j),rfl,(St.drop 2 g)⟩
  have d:=cond_f c o
  refine c_skip (n_then (c_q [vI p.mass] [1,3,4] f (.cell (g.bx 0 1 rfl rfl) .nil) fun f b=>(n_block (n_then (c_q [] [1,3,4] b .nil fun i c=>(n_then (⟨G,Nat.lt_succ_self G,B,(w64 (A + p.mass)),(w64 (z + (1:Int))),(zt F j),c.to,(St.drop 1 g),d⟩)))))))
 have d:=cond_f H J
 refine c_exit 0 (x_then (x_then (x_block (n_then (c_sq [] [2] I .nil fun c b=>(c_ret (c_rt [] (.bool (decide (A≤(100000000:Int)))) b .nil ?_)))))))
 obtain rfl:=some_eq d
 exact ⟨_,rfl,E,F,rfl,(St.drop 1 D)⟩
def F64_l1 (x0:List Lot) (x1:Int):Nat→Int→Option (Int)
  | 0,_=>none
  | n1 + 1,y1 =>
    let k1:Int→Option (Int):=F64_l1 x0 x1 n1
    (cond (decide (y1<(x0.length:Int))) ((getI x0 y1).bind fun p1=>(cond (p1.id == x1) (some (y1)) (k1 (w64 (y1 + (1:Int)))))) (some (-1)))
def F64 (fuel:Nat) (x0:List Lot) (x1:Int):Option (Int) :=
  (F64_l1 x0 x1 fuel 0)
set_option maxRecDepth 100000 in
theorem f64_ok (fuel:Nat) (x0:List Lot) (x1:Int) (r:Int) (hr:F64 fuel x0 x1=some r) (h:Zone) (L:List Atom) (w:World) (hS:St h L w) (o_x0:Option Addr) (c_x0:Nat) (hx_x0:SliceR LotT h o_x0 c_x0 x0) :
    Calls Tryz.prog 64 #[.slice o_x0 x0.length c_x0,vI x1] w fun e w'=>∃v,e= .returned v∧(∃h',Zone.le h h'∧v=vI r∧St h' L w'):=by
 refine calls_intro (N:=20) Tryz.func64 (by kernel_rfl) fun a hf=>c_sq [] [0,1] hf .nil fun c b=>c_seq (c_sq [] [0,1,5] b .nil fun c b=>(c_block 0 (c_loop (fun n a w=>∃l:Zone,∃k:Int,Zone.le h l∧Fr a 20 [(0,sL o_x0 x0 c_x0),(1,vI x1),(5,vI k)]∧St l (L) w∧(F64_l1 x0 x1 n k)=some r) fuel ⟨h,0,zr,b.to,hS,hr⟩ ?_)))
 rintro b c d ⟨l,k,q,f,s,t⟩
 cases b with
 | zero=>cases t
 | succ u =>
 refine c_seq (c_sq [] [0,1,5,9] f .nil fun b p=>(c_if (decide (k<(x0.length:Int))) p (fun o=>?_) (fun o=>?_)))
 ·have i:=cond_t o t
  refine c_skip (n_then (c_seq (c_block 1 ?_)))
  obtain ⟨b,c,m⟩:=bind_some i
  obtain ⟨c,d,f,j,rfl,g⟩:=SliceR.getI (SliceR.mono q hx_x0) c
  refine c_sq [.pointer (some c),vI b.id] [0,1,5,18] p (.prop d (.prop f (.cell (s.cell (g 0 _ rfl)) .nil))) fun c d=>c_if (b.id == x1) d (fun c=>?_) (fun c=>?_)
  ·have i:=cond_t c m
   refine c_sq [] [4] d .nil fun f b=>c_ret (r_block (r_then (r_then (r_block (r_then (c_rt [] (vI k) b .nil ?_))))))
   obtain rfl:=some_eq i
   exact ⟨_,rfl,l,q,rfl,s⟩
  have i:=cond_f c m
  refine c_skip (n_block (n_then (c_q [] [0,1,5] d .nil fun c b=>(n_then (⟨u,Nat.lt_succ_self u,l,(w64 (k + (1:Int))),q,b.to,s,i⟩)))))
 have i:=cond_f o t
 refine c_exit 0 (x_then (x_then (x_block (n_then (c_sq [] [4] p .nil fun c b=>(c_ret (c_rt [] (vI (-1)) b .nil ?_)))))))
 obtain rfl:=some_eq i
 exact ⟨_,rfl,l,q,rfl,s⟩
def F80_l3 (fuel:Nat) (k1:Int→Option (Int)) (x0l:List Lot) (p1:List (List Part)) (y1:Int):Nat→Int→Option (Int)
  | 0,_=>none
  | n1 + 1,y2 =>
    let k2:Int→Option (Int):=F80_l3 fuel k1 x0l p1 y1 n1
    ((getI p1 y1).bind fun p2=>(cond (decide (y2<(p2.length:Int))) ((getI p1 y1).bind fun p3=>((getI p3 y2).bind fun p4=>((F64 fuel x0l p4.lot).bind fun r1=>(cond (decide (r1<(0:Int))) (some (62)) (k2 (w64 (y2 + (1:Int)))))))) (k1 (w64 (y1 + (1:Int))))))
def F80_j1 (fuel:Nat) (k1:Int→Option (Int)) (x0l:List Lot) (p1:List (List Part)) (y1:Int) (y3:Bool):Option (Int) :=
  (cond y3 (some (62)) (F80_l3 fuel k1 x0l p1 y1 fuel 0))
def F80_l2 (fuel:Nat) (k3:Int→Option (Int)) (x0l:List Lot) (y4:Int) (p1:List (List Part)):Nat→Int→Option (Int)
  | 0,_=>none
  | n2 + 1,y1 =>
    let k1:Int→Option (Int):=F80_l2 fuel k3 x0l y4 p1 n2
    (cond (decide (y1<(p1.length:Int))) ((getI p1 y1).bind fun p5=>((F100 fuel p5).bind fun r2=>(cond (!r2) (F80_j1 fuel k1 x0l p1 y1 true) ((getI p1 y1).bind fun p6=>(F80_j1 fuel k1 x0l p1 y1 ((p6.length:Int) == (0:Int))))))) ((F69 fuel p1).bind fun r3=>(cond (decide (r3 > (100000000:Int))) (some (62)) (k3 (w64 (y4 + (1:Int)))))))
def F80_l1 (fuel:Nat) (x0l:List Lot) (x0h:List (List (List Part))):Nat→Int→Option (Int)
  | 0,_=>none
  | n3 + 1,y4 =>
    let k3:Int→Option (Int):=F80_l1 fuel x0l x0h n3
    (cond (decide (y4<(9:Int))) ((getI x0h y4).bind fun p1=>(cond (decide ((p1.length:Int) > (4:Int))) (some (62)) (F80_l2 fuel k3 x0l y4 p1 fuel 0))) (some (0)))
def F80 (fuel:Nat) (x0l:List Lot) (x0h:List (List (List Part))):Option (Int) :=
  ((F21 fuel x0l).bind fun r4=>(cond (r4 != (0:Int)) (some (62)) (F80_l1 fuel x0l x0h fuel 0)))
set_option maxRecDepth 100000 in
theorem f80_ok (fuel:Nat) (x0l:List Lot) (x0h:List (List (List Part))) (r:Int) (hr:F80 fuel x0l x0h=some r) (h:Zone) (L:List Atom) (w:World) (hS:St h L w) (o_x0l:Option Addr) (c_x0l:Nat) (hx_x0l:SliceR LotT h o_x0l c_x0l x0l) (V00 V01 V02 V03 V04 V05 V06 V07 V08:Value) (hx_x0h:(Ty.arr 9 (Ty.slice (Ty.slice PartT))).rep h [V00,V01,V02,V03,V04,V05,V06,V07,V08] x0h) :
    Calls Tryz.prog 80 #[.agg #[.slice o_x0l x0l.length c_x0l,V00,V01,V02,V03,V04,V05,V06,V07,V08]] w fun e w'=>∃v,e= .returned v∧(∃h',Zone.le h h'∧v=vI r∧St h' L w'):=by
 refine calls_intro (N:=69) Tryz.func80 (by kernel_rfl) fun a hf=>c_sr (c_box [sL o_x0l x0l c_x0l,V00,V01,V02,V03,V04,V05,V06,V07,V08] 29 hS hf fun J j k d b=>tv (c_t [] [1] b .nil fun l c=>(c_seq (c_sr (c_n 2 [sL o_x0l x0l c_x0l] [1,8] c (.cell (d.bx 0 0 rfl rfl) .nil) fun m g=>?_)))))
 obtain ⟨c,b,p⟩:=bind_some hr
 refine c_call g (f21_ok fuel x0l c b h _ _ d o_x0l c_x0l hx_x0l) ?_
 rintro d g j ⟨k,T,rfl,l⟩ b
 refine tv (c_t [] [1,10] b .nil fun b d=>c_if (c != (0:Int)) d (fun c=>?_) (fun c=>?_))
 ·have f:=cond_t c p
  refine c_sq [] [2] d .nil fun g b=>c_ret (r_then (c_rt [] (vI 62) b .nil ?_))
  obtain rfl:=some_eq f
  exact ⟨_,rfl,k,T,rfl,(St.drop 1 l)⟩
 have f:=cond_f c p
 refine c_skip (n_then (c_seq (c_sq [] [1,3] d .nil fun c b=>(c_block 0 (c_loop (fun n a w=>∃U:Zone,∃I:Int,Zone.le k U∧Fr a 69 [(1,pB J 0),(3,vI I)]∧St U (box J [sL o_x0l x0l c_x0l,V00,V01,V02,V03,V04,V05,V06,V07,V08] 29::L) w∧(F80_l1 fuel x0l x0h n I)=some r) fuel ⟨k,0,zr,b.to,l,f⟩ ?_)))))
 rintro b c d ⟨U,I,Q,g,a2,a5⟩
 cases b with
 | zero=>cases a5
 | succ X =>
 refine c_seq (c_sq [] [1,3,12] g .nil fun b a4=>(c_if (decide (I<(9:Int))) a4 (fun a3=>?_) (fun a3=>?_)))
 ·have f:=cond_t a3 a5
  refine c_skip (n_then (c_seq (c_block 1 ?_)))
  obtain ⟨C,b,p⟩:=bind_some f
  obtain ⟨b,_,c,R,S,hehv208545,W⟩:=arrGet (Ty.mono _ (zt T Q) hx_x0h) rfl b
  obtain rfl:=List.head_eq_of_cons_eq hehv208545
  refine c_sq [sL R C S] [1,3,4] a4 (.prop b (.cell ((arrAddr J 1 I.toNat) ▸ (a2.box (i:=0) rfl (getElem?_app_right [sL o_x0l x0l c_x0l] _ _ c []))) .nil)) fun c b=>?_
  refine c_seq (c_sq [] [1,3,4,21] b .nil fun b d=>(c_if (decide ((C.length:Int) > (4:Int))) d (fun c=>?_) (fun c=>?_)))
  ·have f:=cond_t c p
   refine c_sq [] [2] d .nil fun g b=>c_ret (r_then (r_block (r_then (r_then (r_block (r_then (c_rt [] (vI 62) b .nil ?_)))))))
   obtain rfl:=some_eq f
   exact ⟨_,rfl,U,(zt T Q),rfl,(St.drop 1 a2)⟩
  have f:=cond_f c p
  refine c_skip (n_then (c_seq (c_sq [] [1,3,4,5] d .nil fun c b=>(c_block 2 (c_loop (fun n a w=>∃P:Zone,∃F:Int,Zone.le U P∧Fr a 69 [(1,pB J 0),(3,vI I),(4,sL R C S),(5,vI F)]∧St P (box J [sL o_x0l x0l c_x0l,V00,V01,V02,V03,V04,V05,V06,V07,V08] 29::L) w∧(F80_l2 fuel (F80_l1 fuel x0l x0h X) x0l I C n F)=some r) fuel ⟨U,0,zr,b.to,a2,f⟩ ?_)))))
  rintro b c d ⟨P,F,H,g,a1,a0⟩
  cases b with
  | zero=>cases a0
  | succ V =>
  refine c_seq (c_sq [] [1,3,4,5,25] g .nil fun b Z=>(c_if (decide (F<(C.length:Int))) Z (fun Y=>?_) (fun Y=>?_)))
  ·have f:=cond_t Y a0
   refine c_skip (n_then (c_seq (c_block 3 (c_seq (c_mid (fun a w=>∃t:Zone,∃u:Bool,Zone.le P t∧Fr a 69 [(1,pB J 0),(3,vI I),(4,sL R C S),(5,vI F),(42, .bool u)]∧St t (box J [sL o_x0l x0l c_x0l,V00,V01,V02,V03,V04,V05,V06,V07,V08] 29::L) w∧(F80_j1 fuel (F80_l2 fuel (F80_l1 fuel x0l x0h X) x0l I C V) x0l C F u)=some r) ?_ ?_)))))
   ·skip
    refine c_reg ?_
    obtain ⟨l,b,f⟩:=bind_some f
    obtain ⟨d,g,j,c,b,k⟩:=SliceR.getI (SliceR.mono H W) b
    obtain ⟨b,c,rfl,m⟩:=b
    refine c_n 4 [.pointer (some d),sL b l c] [1,3,4,5,31] Z (.prop g (.prop j (.cell (a1.cell (k 0 _ rfl)) .nil))) fun d g=>?_
    obtain ⟨j,d,p⟩:=bind_some f
    refine c_call g (f100_ok fuel l j d P _ _ a1 b c m) ?_
    rintro c d g ⟨y,q,rfl,s⟩ b
    refine tv (c_n 2 [] [1,3,4,5,34] b .nil fun b g=>?_)
    rcases bft (!j) with b | b
    ·have f:=cond_t b p
     have c:=g.lit 34 b
     refine c_t [] [1,3,4,5,42] c .nil fun d c=>⟨y,true,q,c.to,s,f⟩
    have f:=cond_f b p
    have o:=g.lit 34 b
    obtain ⟨d,b,f⟩:=bind_some f
    obtain ⟨g,j,k,c,b,l⟩:=SliceR.getI (SliceR.mono (zt H q) W) b
    obtain ⟨b,c,rfl,m⟩:=b
    refine c_t [.pointer (some g),sL b d c] [1,3,4,5,42] o (.prop j (.prop k (.cell (s.cell (l 0 _ rfl)) .nil))) fun c b=>⟨y,((d.length:Int) == (0:Int)),q,b.to,s,f⟩
   rintro b c ⟨t,u,D,d,j,p⟩
   refine c_if u d (fun c=>?_) (fun c=>?_)
   ·have f:=cond_t c p
    refine c_sq [] [2] d .nil fun g b=>c_ret (r_then (r_block (r_then (r_then (r_block (r_then (r_block (r_then (r_then (r_block (r_then (c_rt [] (vI 62) b .nil ?_))))))))))))
    obtain rfl:=some_eq f
    exact ⟨_,rfl,t,(zt (zt (zt T Q) H) D),rfl,(St.drop 1 j)⟩
   have f:=cond_f c p
   refine c_skip (n_then (c_sq [] [1,3,4,5,6] d .nil fun c b=>(c_block 4 (c_loop (fun n a w=>∃B:Zone,∃z:Int,Zone.le t B∧Fr a 69 [(1,pB J 0),(3,vI I),(4,sL R C S),(5,vI F),(6,vI z)]∧St B (box J [sL o_x0l x0l c_x0l,V00,V01,V02,V03,V04,V05,V06,V07,V08] 29::L) w∧(F80_l3 fuel (F80_l2 fuel (F80_l1 fuel x0l x0h X) x0l I C V) x0l C F n z)=some r) fuel ⟨t,0,zr,b.to,j,f⟩ ?_))))
   rintro b c q ⟨B,z,A,o,K,f⟩
   cases b with
   | zero=>cases f
   | succ O =>
   refine c_seq ?_
   obtain ⟨d,b,M⟩:=bind_some f
   obtain ⟨g,j,k,c,b,l⟩:=SliceR.getI (SliceR.mono (zt (zt H D) A) W) b
   obtain ⟨b,c,rfl,m⟩:=b
   refine c_sq [.pointer (some g),sL b d c] [1,3,4,5,6,50] o (.prop j (.prop k (.cell (K.cell (l 0 _ rfl)) .nil))) fun b G=>c_if (decide (z<(d.length:Int))) G (fun E=>?_) (fun E=>?_)
   ·have f:=cond_t E M
    refine c_skip (n_then (c_seq (c_block 5 (c_seq ?_))))
    have k:=K.drew
    refine c_regD (rD 13 [11]) [11] (fun x=>x=q.drew) rfl ?_
    obtain ⟨y,b,f⟩:=bind_some f
    obtain ⟨q,s,t,c,b,u⟩:=SliceR.getI (SliceR.mono (zt (zt H D) A) W) b
    obtain ⟨l,m,rfl,c⟩:=b
    obtain ⟨j,b,f⟩:=bind_some f
    obtain ⟨b,c,d,o,rfl,g⟩:=SliceR.getI c b
    refine c_E 11 [sL o_x0l x0l c_x0l, .pointer (some q),sL l y m, .pointer (some b),vI j.lot] [1,3,4,5,6,54,63] G (.cell (k.bx 0 0 rfl rfl) (.prop s (.prop t (.cell (k.cell (u 0 _ rfl)) (.prop c (.prop d (.cell (k.cell (g 0 _ rfl)) .nil))))))) .nil fun b d=>?_
    obtain ⟨b,c,p⟩:=bind_some f
    refine c_call d (f64_ok fuel x0l j.lot b c B _ _ k o_x0l c_x0l (SliceR.mono (zt (zt (zt (zt T Q) H) D) A) hx_x0l)) ?_
    rintro d g j ⟨k,l,rfl,m⟩ c
    refine ⟨fun e=>absurd e (by decide),?_⟩
    refine p_qP 1 [] [(1,pB J 0),(3,vI I),(4,sL R C S),(5,vI F),(6,vI z),(65, .bool (decide (b<(0:Int))))] [] c (by kernel_rfl) (fun _=> .nil) fun c d=>c_dt (c_if (decide (b<(0:Int))) d (fun c=>?_) (fun c=>?_))
    ·have f:=cond_t c p
     refine c_sq [] [2] d .nil fun g b=>c_ret (r_block (r_then (r_then (r_block (r_block (r_then (r_then (r_block (r_then (r_block (r_then (r_then (r_block (r_then (c_rt [] (vI 62) b .nil ?_)))))))))))))))
     obtain rfl:=some_eq f
     exact ⟨_,rfl,k,(zt (zt (zt (zt (zt T Q) H) D) A) l),rfl,(St.drop 1 m)⟩
    have f:=cond_f c p
    refine c_skip (n_block (n_then (c_q [] [1,3,4,5,6] d .nil fun c b=>(n_then (⟨O,Nat.lt_succ_self O,k,(w64 (z + (1:Int))),(zt A l),b.to,m,f⟩)))))
   have f:=cond_f E M
   refine c_exit 4 (x_then (x_then (x_block (n_block (n_then (c_q [] [1,3,4,5] G .nil fun c b=>(n_then (⟨V,Nat.lt_succ_self V,B,(w64 (F + (1:Int))),(zt (zt H D) A),b.to,K,f⟩))))))))
  have f:=cond_f Y a0
  refine c_exit 2 (x_then (x_then (x_block (n_then (c_sr (c_n 1 [] [1,3,66] Z .nil fun b c=>?_))))))
  obtain ⟨d,b,p⟩:=bind_some f
  refine c_call c (f69_ok fuel C d b P _ _ a1 R S (SliceR.mono H W)) ?_
  rintro c g j ⟨k,l,rfl,m⟩ b
  refine tv (c_t [] [1,3,68] b .nil fun b g=>c_if (decide (d > (100000000:Int))) g (fun c=>?_) (fun c=>?_))
  ·have f:=cond_t c p
   refine c_sq [] [2] g .nil fun d b=>c_ret (r_block (r_then (r_then (r_block (r_then (c_rt [] (vI 62) b .nil ?_))))))
   obtain rfl:=some_eq f
   exact ⟨_,rfl,k,(zt (zt (zt T Q) H) l),rfl,(St.drop 1 m)⟩
  have f:=cond_f c p
  refine c_skip (n_block (n_then (c_q [] [1,3] g .nil fun c b=>(n_then (⟨X,Nat.lt_succ_self X,k,(w64 (I + (1:Int))),(zt (zt Q H) l),b.to,m,f⟩)))))
 have f:=cond_f a3 a5
 refine c_exit 0 (x_then (x_then (x_block (n_then (c_sq [] [2] a4 .nil fun c b=>(c_ret (c_rt [] (vI 0) b .nil ?_)))))))
 obtain rfl:=some_eq f
 exact ⟨_,rfl,U,(zt T Q),rfl,(St.drop 1 a2)⟩
def F101 (fuel:Nat) (x0:Int):Option (Bool) :=
  ((F60 fuel x0 0 8).bind fun r1=>(some (r1)))
set_option maxRecDepth 100000 in
theorem f101_ok (fuel:Nat) (x0:Int) (r:Bool) (hr:F101 fuel x0=some r) (h:Zone) (L:List Atom) (w:World) (hS:St h L w)  :
    Calls Tryz.prog 101 #[vI x0] w fun e w'=>∃v,e= .returned v∧(∃h',Zone.le h h'∧v= .bool r∧St h' L w'):=by
 refine calls_intro (N:=5) Tryz.func101 (by kernel_rfl) fun a hf=>c_sq [] [0] hf .nil fun c b=>c_sr (c_n 1 [] [3] b .nil fun b c=>?_)
 obtain ⟨d,b,l⟩:=bind_some hr
 refine c_call c (f60_ok fuel x0 0 8 d b h _ _ hS ) ?_
 rintro c f g ⟨i,j,rfl,k⟩ b
 refine tv (c_t [] [2] b .nil fun c b=>c_ret (c_rt [] (.bool d) b .nil ?_))
 obtain rfl:=some_eq l
 exact ⟨_,rfl,i,j,rfl,k⟩
def F81_j2 (y1:Bool):Option (Bool) :=
  (some (y1))
def F81_j5 (y2:Bool):Option (Bool) :=
  (some (y2))
def F81_j6 (y3:Bool):Option (Bool) :=
  (some (y3))
def F81_j7 (y4:Bool):Option (Bool) :=
  (some (y4))
def F81_j4 (fuel:Nat) (x0l:List Lot) (x1k:Int) (x1o:Int) (x1f:Int) (x1t:Int) (y5:Bool):Option (Bool) :=
  (cond y5 (cond (x1f == (0:Int)) ((F64 fuel x0l x1o).bind fun r1=>(F81_j5 (decide (r1≥(0:Int))))) (F81_j5 false)) (cond (x1k == (4:Int)) (cond (x1o == (0:Int)) (F81_j6 (x1f != x1t)) (F81_j6 false)) (cond (x1o == (0:Int)) (F81_j7 (x1t == (0:Int))) (F81_j7 false))))
def F81_j3 (fuel:Nat) (x0l:List Lot) (x1k:Int) (x1o:Int) (x1f:Int) (x1t:Int) (y6:Bool):Option (Bool) :=
  (cond y6 (some (false)) (cond (x1k == (1:Int)) (F81_j4 fuel x0l x1k x1o x1f x1t (x1k == (1:Int))) (F81_j4 fuel x0l x1k x1o x1f x1t (x1k == (2:Int)))))
def F81_j1 (fuel:Nat) (x0l:List Lot) (x1k:Int) (x1o:Int) (x1f:Int) (x1t:Int) (x1m:Int) (y7:Bool):Option (Bool) :=
  (cond y7 (some (false)) (cond (x1k == (6:Int)) (cond (x1o == (0:Int)) (cond (x1t == (0:Int)) (cond (x1m == (0:Int)) ((F101 fuel x1f).bind fun r2=>(F81_j2 r2)) (F81_j2 false)) (F81_j2 false)) (F81_j2 false)) ((F60 fuel x1m 1 100000000).bind fun r3=>(cond (!r3) (F81_j3 fuel x0l x1k x1o x1f x1t true) ((F101 fuel x1f).bind fun r4=>(cond (!r4) (F81_j3 fuel x0l x1k x1o x1f x1t true) ((F101 fuel x1t).bind fun r5=>(F81_j3 fuel x0l x1k x1o x1f x1t (!r5)))))))))
def F81 (fuel:Nat) (x0l:List Lot) (x0h:List (List (List Part))) (x1k:Int) (x1o:Int) (x1f:Int) (x1t:Int) (x1m:Int):Option (Bool) :=
  (cond (decide (x1k<(1:Int))) (F81_j1 fuel x0l x1k x1o x1f x1t x1m true) (F81_j1 fuel x0l x1k x1o x1f x1t x1m (decide (x1k > (6:Int)))))
set_option maxRecDepth 100000 in
theorem f81_ok (fuel:Nat) (x0l:List Lot) (x0h:List (List (List Part))) (x1k:Int) (x1o:Int) (x1f:Int) (x1t:Int) (x1m:Int) (r:Bool) (hr:F81 fuel x0l x0h x1k x1o x1f x1t x1m=some r) (h:Zone) (L:List Atom) (w:World) (hS:St h L w) (o_x0l:Option Addr) (c_x0l:Nat) (hx_x0l:SliceR LotT h o_x0l c_x0l x0l) (V00 V01 V02 V03 V04 V05 V06 V07 V08:Value) (hx_x0h:(Ty.arr 9 (Ty.slice (Ty.slice PartT))).rep h [V00,V01,V02,V03,V04,V05,V06,V07,V08] x0h) :
    Calls Tryz.prog 81 #[.agg #[.slice o_x0l x0l.length c_x0l,V00,V01,V02,V03,V04,V05,V06,V07,V08], .agg #[vI x1k,vI x1o,vI x1f,vI x1t,vI x1m]] w fun e w'=>∃v,e= .returned v∧(∃h',Zone.le h h'∧v= .bool r∧St h' L w'):=by
 refine calls_intro (N:=86) Tryz.func81 (by kernel_rfl) fun a hf=>c_sr (c_box [sL o_x0l x0l c_x0l,V00,V01,V02,V03,V04,V05,V06,V07,V08] 29 hS hf fun F j k b c=>tv (c_box [vI x1k,vI x1o,vI x1f,vI x1t,vI x1m] 74 b c fun G l m i d=>tv (c_t [] [2,3] d .nil fun n f=>(c_seq (c_mid (fun a w=>∃t:Zone,∃o:Bool,Zone.le h t∧Fr a 86 [(2,pB F 0),(3,pB G 0),(12, .bool o)]∧St t (box G [vI x1k,vI x1o,vI x1f,vI x1t,vI x1m] 74::box F [sL o_x0l x0l c_x0l,V00,V01,V02,V03,V04,V05,V06,V07,V08] 29::L) w∧(F81_j1 fuel x0l x1k x1o x1f x1t x1m o)=some r) ?_ ?_)))))
 ·skip
  refine c_reg (c_n 4 [vI x1k] [2,3,8] f (.cell (i.bx 0 0 rfl rfl) .nil) fun b f=>?_)
  rcases bft (decide (x1k<(1:Int))) with b | b
  ·have g:=cond_t b hr
   have c:=f.lit 8 b
   refine c_t [] [2,3,12] c .nil fun d c=>⟨h,true,zr,c.to,i,g⟩
  have g:=cond_f b hr
  have b:=f.lit 8 b
  refine c_t [vI x1k] [2,3,12] b (.cell (i.bx 0 0 rfl rfl) .nil) fun c b=>⟨h,(decide (x1k > (6:Int))),zr,b.to,i,g⟩
 rintro b c ⟨t,o,H,d,q,p⟩
 refine c_if o d (fun c=>?_) (fun c=>?_)
 ·have g:=cond_t c p
  refine c_sq [] [4] d .nil fun f b=>c_ret (r_then (c_rt [] (.bool false) b .nil ?_))
  obtain rfl:=some_eq g
  exact ⟨_,rfl,t,H,rfl,(St.drop 2 q)⟩
 have E:=cond_f c p
 refine c_skip (n_then (c_seq (c_sq [vI x1k] [2,3,15] d (.cell (q.bx 0 0 rfl rfl) .nil) fun b D=>(c_if (x1k == (6:Int)) D (fun B=>?_) (fun B=>?_)))))
 ·have C:=cond_t B E
  refine c_mid (fun a w=>∃z:Zone,∃u:Bool,Zone.le t z∧Fr a 86 [(4, .bool u)]∧St z (box G [vI x1k,vI x1o,vI x1f,vI x1t,vI x1m] 74::box F [sL o_x0l x0l c_x0l,V00,V01,V02,V03,V04,V05,V06,V07,V08] 29::L) w∧(F81_j2 u)=some r) ?_ ?_
  ·skip
   refine c_reg (c_n 4 [vI x1o] [3,19] D (.cell (q.bx 0 1 rfl rfl) .nil) fun b A=>?_)
   rcases bft (x1o == (0:Int)) with o | o
   ·have y:=cond_t o C
    have b:=A.lit 19 o
    refine c_n 5 [vI x1t] [3,24] b (.cell (q.bx 0 3 rfl rfl) .nil) fun b x=>?_
    rcases bft (x1t == (0:Int)) with n | n
    ·have p:=cond_t n y
     have b:=x.lit 24 n
     refine c_n 5 [vI x1m] [3,29] b (.cell (q.bx 0 4 rfl rfl) .nil) fun b s=>?_
     rcases bft (x1m == (0:Int)) with c | c
     ·have g:=cond_t c p
      have b:=s.lit 29 c
      refine c_n 2 [vI x1f] [29,31] b (.cell (q.bx 0 2 rfl rfl) .nil) fun b d=>?_
      obtain ⟨f,b,g⟩:=bind_some g
      refine c_call d (f101_ok fuel x1f f b t _ _ q ) ?_
      rintro d i j ⟨k,l,rfl,m⟩ b
      refine tv (c_t [] [4] b .nil fun d b=>⟨k,f,l,b.to,m,g⟩)
     have g:=cond_f c p
     have b:=s.lit 29 c
     refine c_t [] [4] b .nil fun c b=>⟨t,false,zr,b.to,q,g⟩
    have g:=cond_f n y
    have b:=x.lit 24 n
    refine c_t [] [4] b .nil fun c b=>⟨t,false,zr,b.to,q,g⟩
   have g:=cond_f o C
   have b:=A.lit 19 o
   refine c_t [] [4] b .nil fun c b=>⟨t,false,zr,b.to,q,g⟩
  rintro c d ⟨z,u,f,b,i,g⟩
  refine c_ret (r_then (c_rt [] (.bool u) b .nil ?_))
  obtain rfl:=some_eq g
  exact ⟨_,rfl,z,(zt H f),rfl,(St.drop 2 i)⟩
 have g:=cond_f B E
 refine c_skip (n_then (c_seq (c_mid (fun a w=>∃n:Zone,∃o:Bool,Zone.le t n∧Fr a 86 [(2,pB F 0),(3,pB G 0),(49, .bool o)]∧St n (box G [vI x1k,vI x1o,vI x1f,vI x1t,vI x1m] 74::box F [sL o_x0l x0l c_x0l,V00,V01,V02,V03,V04,V05,V06,V07,V08] 29::L) w∧(F81_j3 fuel x0l x1k x1o x1f x1t o)=some r) ?_ ?_)))
 ·skip
  refine c_reg (c_n 2 [vI x1m] [2,3,35] D (.cell (q.bx 0 4 rfl rfl) .nil) fun b c=>?_)
  obtain ⟨d,b,p⟩:=bind_some g
  refine c_call c (f60_ok fuel x1m 1 100000000 d b t _ _ q ) ?_
  rintro c f i ⟨k,q,rfl,j⟩ b
  refine tv (c_n 2 [] [2,3,38] b .nil fun b f=>?_)
  rcases bft (!d) with b | b
  ·have g:=cond_t b p
   have c:=f.lit 38 b
   refine c_t [] [2,3,49] c .nil fun d c=>⟨k,true,q,c.to,j,g⟩
  have g:=cond_f b p
  have b:=f.lit 38 b
  refine c_n 2 [vI x1f] [2,3,38,40] b (.cell (j.bx 0 2 rfl rfl) .nil) fun b c=>?_
  obtain ⟨d,b,p⟩:=bind_some g
  refine c_call c (f101_ok fuel x1f d b k _ _ j ) ?_
  rintro c f i ⟨k,m,rfl,j⟩ b
  refine tv (c_n 3 [] [2,3,44] b .nil fun b f=>?_)
  rcases bft (!d) with b | b
  ·have g:=cond_t b p
   have c:=f.lit 44 b
   refine c_t [] [2,3,49] c .nil fun d c=>⟨k,true,(zt q m),c.to,j,g⟩
  have g:=cond_f b p
  have b:=f.lit 44 b
  refine c_n 2 [vI x1t] [2,3,44,46] b (.cell (j.bx 0 3 rfl rfl) .nil) fun b c=>?_
  obtain ⟨d,b,g⟩:=bind_some g
  refine c_call c (f101_ok fuel x1t d b k _ _ j ) ?_
  rintro c f i ⟨j,k,rfl,l⟩ b
  refine tv (c_t [] [2,3,49] b .nil fun c b=>⟨j,(!d),(zt (zt q m) k),b.to,l,g⟩)
 rintro b c ⟨n,o,A,d,i,p⟩
 refine c_if o d (fun c=>?_) (fun c=>?_)
 ·have g:=cond_t c p
  refine c_sq [] [4] d .nil fun f b=>c_ret (r_then (c_rt [] (.bool false) b .nil ?_))
  obtain rfl:=some_eq g
  exact ⟨_,rfl,n,(zt H A),rfl,(St.drop 2 i)⟩
 have p:=cond_f c p
 refine c_skip (n_then (c_seq (c_sq [vI x1k] [2,3,51] d (.cell (i.bx 0 0 rfl rfl) .nil) fun c b=>(c_block 0 (c_mid (fun a w=>∃t:Zone,∃d:Bool,Zone.le n t∧Fr a 86 [(2,pB F 0),(3,pB G 0),(51,vI x1k),(52, .bool d)]∧St t (box G [vI x1k,vI x1o,vI x1f,vI x1t,vI x1m] 74::box F [sL o_x0l x0l c_x0l,V00,V01,V02,V03,V04,V05,V06,V07,V08] 29::L) w∧(F81_j4 fuel x0l x1k x1o x1f x1t d)=some r) ?_ ?_)))))
 ·skip
  refine c_sq [] [2,3,51,52] b .nil fun b c=>c_if (x1k == (1:Int)) c (fun b=>?_) (fun b=>?_)
  ·have g:=cond_t b p
   refine c_skip (n_then (⟨n,(x1k == (1:Int)),zr,c.to,i,g⟩))
  have g:=cond_f b p
  refine c_q [] [2,3,51,52] c .nil fun c b=>n_then (⟨n,(x1k == (2:Int)),zr,b.to,i,g⟩)
 rintro b c ⟨t,d,z,x,n,y⟩
 refine c_if d x (fun u=>?_) (fun u=>?_)
 ·have p:=cond_t u y
  refine c_mid (fun a w=>∃q:Zone,∃o:Bool,Zone.le t q∧Fr a 86 [(4, .bool o)]∧St q (box G [vI x1k,vI x1o,vI x1f,vI x1t,vI x1m] 74::box F [sL o_x0l x0l c_x0l,V00,V01,V02,V03,V04,V05,V06,V07,V08] 29::L) w∧(F81_j5 o)=some r) ?_ ?_
  ·skip
   refine c_reg (c_n 4 [vI x1f] [2,3,58] x (.cell (n.bx 0 2 rfl rfl) .nil) fun b s=>?_)
   rcases bft (x1f == (0:Int)) with c | c
   ·have g:=cond_t c p
    have b:=s.lit 58 c
    refine c_n 4 [sL o_x0l x0l c_x0l,vI x1o] [58,60,62] b (.cell (n.bx 1 0 rfl rfl) (.cell (n.bx 0 1 rfl rfl) .nil)) fun b d=>?_
    obtain ⟨f,b,g⟩:=bind_some g
    refine c_call d (f64_ok fuel x0l x1o f b t _ _ n o_x0l c_x0l (SliceR.mono (zt (zt H A) z) hx_x0l)) ?_
    rintro d i j ⟨k,l,rfl,m⟩ b
    refine tv (c_t [] [4] b .nil fun d b=>⟨k,(decide (f≥(0:Int))),l,b.to,m,g⟩)
   have g:=cond_f c p
   have b:=s.lit 58 c
   refine c_t [] [4] b .nil fun c b=>⟨t,false,zr,b.to,n,g⟩
  rintro c d ⟨q,o,f,b,i,g⟩
  refine c_ret (r_block (r_then (c_rt [] (.bool o) b .nil ?_)))
  obtain rfl:=some_eq g
  exact ⟨_,rfl,q,(zt (zt (zt H A) z) f),rfl,(St.drop 2 i)⟩
 have y:=cond_f u y
 refine c_sq [] [3,66] x .nil fun b m=>c_if (x1k == (4:Int)) m (fun l=>?_) (fun l=>?_)
 ·have p:=cond_t l y
  refine c_mid (fun a w=>∃k:Zone,∃j:Bool,Zone.le t k∧Fr a 86 [(4, .bool j)]∧St k (box G [vI x1k,vI x1o,vI x1f,vI x1t,vI x1m] 74::box F [sL o_x0l x0l c_x0l,V00,V01,V02,V03,V04,V05,V06,V07,V08] 29::L) w∧(F81_j6 j)=some r) ?_ ?_
  ·skip
   refine c_reg (c_n 4 [vI x1o] [3,71] m (.cell (n.bx 0 1 rfl rfl) .nil) fun b f=>?_)
   rcases bft (x1o == (0:Int)) with b | b
   ·have g:=cond_t b p
    have c:=f.lit 71 b
    refine c_t [vI x1f,vI x1t] [4] c (.cell (n.bx 0 2 rfl rfl) (.cell (n.bx 0 3 rfl rfl) .nil)) fun d c=>⟨t,(x1f != x1t),zr,c.to,n,g⟩
   have g:=cond_f b p
   have b:=f.lit 71 b
   refine c_t [] [4] b .nil fun c b=>⟨t,false,zr,b.to,n,g⟩
  rintro c d ⟨k,j,f,b,i,g⟩
  refine c_ret (r_block (r_then (c_rt [] (.bool j) b .nil ?_)))
  obtain rfl:=some_eq g
  exact ⟨_,rfl,k,(zt (zt (zt H A) z) f),rfl,(St.drop 2 i)⟩
 have p:=cond_f l y
 refine c_skip (n_block (n_then (c_mid (fun a w=>∃k:Zone,∃j:Bool,Zone.le t k∧Fr a 86 [(4, .bool j)]∧St k (box G [vI x1k,vI x1o,vI x1f,vI x1t,vI x1m] 74::box F [sL o_x0l x0l c_x0l,V00,V01,V02,V03,V04,V05,V06,V07,V08] 29::L) w∧(F81_j7 j)=some r) ?_ ?_)))
 ·skip
  refine c_reg (c_n 4 [vI x1o] [3,81] m (.cell (n.bx 0 1 rfl rfl) .nil) fun b f=>?_)
  rcases bft (x1o == (0:Int)) with b | b
  ·have g:=cond_t b p
   have c:=f.lit 81 b
   refine c_t [vI x1t] [4] c (.cell (n.bx 0 3 rfl rfl) .nil) fun d c=>⟨t,(x1t == (0:Int)),zr,c.to,n,g⟩
  have g:=cond_f b p
  have b:=f.lit 81 b
  refine c_t [] [4] b .nil fun c b=>⟨t,false,zr,b.to,n,g⟩
 rintro c d ⟨k,j,f,b,i,g⟩
 refine c_ret (c_rt [] (.bool j) b .nil ?_)
 obtain rfl:=some_eq g
 exact ⟨_,rfl,k,(zt (zt (zt H A) z) f),rfl,(St.drop 2 i)⟩
def F54_j5 (y1:Bool):Option (Int) :=
  (cond y1 (some (2)) (some (0)))
def F54_j4 (fuel:Nat) (x0h:List (List (List Part))) (x1k:Int) (x1t:Int) (x1m:Int) (y2:Bool):Option (Int) :=
  (cond (x1k == (2:Int)) ((getI x0h x1t).bind fun p1=>(cond ((p1.length:Int) == (4:Int)) (F54_j5 true) (cond y2 ((getI x0h x1t).bind fun p2=>((F69 fuel p2).bind fun r1=>(F54_j5 (decide ((w64 (r1 + x1m)) > (100000000:Int)))))) (F54_j5 false)))) (cond y2 ((getI x0h x1t).bind fun p3=>((F69 fuel p3).bind fun r2=>(F54_j5 (decide ((w64 (r2 + x1m)) > (100000000:Int)))))) (F54_j5 false)))
def F54_j3 (fuel:Nat) (x0h:List (List (List Part))) (x1k:Int) (x1t:Int) (x1m:Int) (y3:Bool):Option (Int) :=
  (cond y3 (some (3)) (cond (x1k == (1:Int)) (F54_j4 fuel x0h x1k x1t x1m true) (cond (x1k == (2:Int)) (F54_j4 fuel x0h x1k x1t x1m true) (F54_j4 fuel x0h x1k x1t x1m (x1k == (4:Int))))))
def F54_j2 (fuel:Nat) (x0h:List (List (List Part))) (x1k:Int) (x1f:Int) (x1t:Int) (x1m:Int) (y4:Bool):Option (Int) :=
  (cond y4 (some (63)) (cond (x1k == (6:Int)) ((getI x0h x1f).bind fun p4=>(F54_j3 fuel x0h x1k x1t x1m (decide ((p4.length:Int)<(2:Int))))) (F54_j3 fuel x0h x1k x1t x1m false)))
def F54_j1 (fuel:Nat) (x0h:List (List (List Part))) (x1k:Int) (x1f:Int) (x1t:Int) (x1m:Int) (y5:Bool):Option (Int) :=
  (cond y5 ((getI x0h x1f).bind fun p5=>((F69 fuel p5).bind fun r3=>(F54_j2 fuel x0h x1k x1f x1t x1m (decide (x1m > r3))))) (F54_j2 fuel x0h x1k x1f x1t x1m false))
def F54 (fuel:Nat) (x0l:List Lot) (x0h:List (List (List Part))) (x1k:Int) (x1o:Int) (x1f:Int) (x1t:Int) (x1m:Int):Option (Int) :=
  ((F80 fuel x0l x0h).bind fun r4=>(cond (r4 != (0:Int)) (some (62)) ((F81 fuel x0l x0h x1k x1o x1f x1t x1m).bind fun r5=>(cond (!r5) (some (61)) (cond (x1k == (3:Int)) (F54_j1 fuel x0h x1k x1f x1t x1m true) (cond (x1k == (4:Int)) (F54_j1 fuel x0h x1k x1f x1t x1m true) (F54_j1 fuel x0h x1k x1f x1t x1m (x1k == (5:Int)))))))))
set_option maxRecDepth 100000 in
theorem f54_ok (fuel:Nat) (x0l:List Lot) (x0h:List (List (List Part))) (x1k:Int) (x1o:Int) (x1f:Int) (x1t:Int) (x1m:Int) (r:Int) (hr:F54 fuel x0l x0h x1k x1o x1f x1t x1m=some r) (h:Zone) (L:List Atom) (w:World) (hS:St h L w) (o_x0l:Option Addr) (c_x0l:Nat) (hx_x0l:SliceR LotT h o_x0l c_x0l x0l) (V00 V01 V02 V03 V04 V05 V06 V07 V08:Value) (hx_x0h:(Ty.arr 9 (Ty.slice (Ty.slice PartT))).rep h [V00,V01,V02,V03,V04,V05,V06,V07,V08] x0h) :
    Calls Tryz.prog 54 #[.agg #[.slice o_x0l x0l.length c_x0l,V00,V01,V02,V03,V04,V05,V06,V07,V08], .agg #[vI x1k,vI x1o,vI x1f,vI x1t,vI x1m]] w fun e w'=>∃v,e= .returned v∧(∃h',Zone.le h h'∧v=vI r∧St h' L w'):=by
 refine calls_intro (N:=91) Tryz.func54 (by kernel_rfl) fun a hf=>c_sr (c_box [sL o_x0l x0l c_x0l,V00,V01,V02,V03,V04,V05,V06,V07,V08] 29 hS hf fun z l m c d=>tv (c_box [vI x1k,vI x1o,vI x1f,vI x1t,vI x1m] 74 c d fun A n o b f=>tv (c_t [] [2,3] f .nil fun p g=>(c_seq (c_sr (c_n 1 [sL o_x0l x0l c_x0l,V00,V01,V02,V03,V04,V05,V06,V07,V08] [2,3,7] g (.cell (b.bx 1 0 rfl rfl) (.cell (b.bx 1 1 rfl rfl) (.cell (b.bx 1 2 rfl rfl) (.cell (b.bx 1 3 rfl rfl) (.cell (b.bx 1 4 rfl rfl) (.cell (b.bx 1 5 rfl rfl) (.cell (b.bx 1 6 rfl rfl) (.cell (b.bx 1 7 rfl rfl) (.cell (b.bx 1 8 rfl rfl) (.cell (b.bx 1 9 rfl rfl) .nil)))))))))) fun q j=>?_))))))
 obtain ⟨d,c,t⟩:=bind_some hr
 refine c_call j (f80_ok fuel x0l x0h d c h _ _ b o_x0l c_x0l hx_x0l V00 V01 V02 V03 V04 V05 V06 V07 V08 (Ty.mono _ zr hx_x0h)) ?_
 rintro f g j ⟨l,E,rfl,b⟩ c
 refine tv (c_t [] [2,3,9] c .nil fun c f=>c_if (d != (0:Int)) f (fun d=>?_) (fun d=>?_))
 ·have k:=cond_t d t
  refine c_sq [] [4] f .nil fun g c=>c_ret (r_then (c_rt [] (vI 62) c .nil ?_))
  obtain rfl:=some_eq k
  exact ⟨_,rfl,l,E,rfl,(St.drop 2 b)⟩
 have k:=cond_f d t
 refine c_skip (n_then (c_seq (c_sr (c_n 2 [sL o_x0l x0l c_x0l,V00,V01,V02,V03,V04,V05,V06,V07,V08,vI x1k,vI x1o,vI x1f,vI x1t,vI x1m] [2,3,10,11] f (.cell (b.bx 1 0 rfl rfl) (.cell (b.bx 1 1 rfl rfl) (.cell (b.bx 1 2 rfl rfl) (.cell (b.bx 1 3 rfl rfl) (.cell (b.bx 1 4 rfl rfl) (.cell (b.bx 1 5 rfl rfl) (.cell (b.bx 1 6 rfl rfl) (.cell (b.bx 1 7 rfl rfl) (.cell (b.bx 1 8 rfl rfl) (.cell (b.bx 1 9 rfl rfl) (.cell (b.bx 0 0 rfl rfl) (.cell (b.bx 0 1 rfl rfl) (.cell (b.bx 0 2 rfl rfl) (.cell (b.bx 0 3 rfl rfl) (.cell (b.bx 0 4 rfl rfl) .nil))))))))))))))) fun c d=>?_))))
 obtain ⟨f,c,t⟩:=bind_some k
 refine c_call d (f81_ok fuel x0l x0h x1k x1o x1f x1t x1m f c l _ _ b o_x0l c_x0l (SliceR.mono E hx_x0l) V00 V01 V02 V03 V04 V05 V06 V07 V08 (Ty.mono _ E hx_x0h)) ?_
 rintro c d g ⟨l,J,rfl,j⟩ b
 refine tv (c_t [] [2,3,13] b .nil fun b g=>c_if (!f) g (fun c=>?_) (fun c=>?_))
 ·have k:=cond_t c t
  refine c_sq [] [4] g .nil fun d b=>c_ret (r_then (c_rt [] (vI 61) b .nil ?_))
  obtain rfl:=some_eq k
  exact ⟨_,rfl,l,(zt E J),rfl,(St.drop 2 j)⟩
 have t:=cond_f c t
 refine c_skip (n_then (c_mid (fun a w=>∃y:Zone,∃m:Bool,Zone.le l y∧Fr a 91 [(2,pB z 0),(3,pB A 0),(5, .bool m)]∧St y (box A [vI x1k,vI x1o,vI x1f,vI x1t,vI x1m] 74::box z [sL o_x0l x0l c_x0l,V00,V01,V02,V03,V04,V05,V06,V07,V08] 29::L) w∧(F54_j1 fuel x0h x1k x1f x1t x1m m)=some r) ?_ ?_))
 ·skip
  refine c_reg (c_n 4 [vI x1k] [2,3,17] g (.cell (j.bx 0 0 rfl rfl) .nil) fun b f=>?_)
  rcases bft (x1k == (3:Int)) with b | b
  ·have k:=cond_t b t
   have c:=f.lit 17 b
   refine c_t [] [2,3,5] c .nil fun d c=>⟨l,true,zr,c.to,j,k⟩
  have t:=cond_f b t
  have b:=f.lit 17 b
  refine c_n 5 [vI x1k] [2,3,22] b (.cell (j.bx 0 0 rfl rfl) .nil) fun b f=>?_
  rcases bft (x1k == (4:Int)) with b | b
  ·have k:=cond_t b t
   have c:=f.lit 22 b
   refine c_t [] [2,3,5] c .nil fun d c=>⟨l,true,zr,c.to,j,k⟩
  have k:=cond_f b t
  have b:=f.lit 22 b
  refine c_t [vI x1k] [2,3,5] b (.cell (j.bx 0 0 rfl rfl) .nil) fun c b=>⟨l,(x1k == (5:Int)),zr,b.to,j,k⟩
 rintro b c ⟨y,m,I,f,d,t⟩
 refine c_seq (c_mid (fun a w=>∃u:Zone,∃p:Bool,Zone.le y u∧Fr a 91 [(2,pB z 0),(3,pB A 0),(38, .bool p)]∧St u (box A [vI x1k,vI x1o,vI x1f,vI x1t,vI x1m] 74::box z [sL o_x0l x0l c_x0l,V00,V01,V02,V03,V04,V05,V06,V07,V08] 29::L) w∧(F54_j2 fuel x0h x1k x1f x1t x1m p)=some r) ?_ ?_)
 ·skip
  have q:=d.drew
  have o:=Sub.of zr q
  refine c_regD (rD 12 [9]) [] _ o (c_S 2 [] [2,3,28] o f (fun _ s=> .nil) .nil fun b x=>?_)
  rcases bft m with l | l
  ·have k:=cond_t l t
   have j:=x.lit 28 l
   obtain ⟨g,b,k⟩:=bind_some k
   obtain ⟨b,_,f,c,d,hehv475,n⟩:=arrGet (Ty.mono _ (zt (zt E J) I) hx_x0h) rfl b
   obtain rfl:=List.head_eq_of_cons_eq hehv475
   refine c_S 7 [vI x1m,vI x1f,sL c g d] [2,3,28,30,35] o j (fun _ s=>(.cell (s.bx 0 4 rfl rfl) (.cell (s.bx 0 2 rfl rfl) (.prop b (.cell ((arrAddr z 1 x1f.toNat) ▸ (s.box (i:=1) rfl (getElem?_app_right [sL o_x0l x0l c_x0l] _ _ f []))) .nil))))) .nil fun b f=>?_
   obtain ⟨m,b,k⟩:=bind_some k
   refine c_call f (f69_ok fuel g m b y _ _ q c d n) ?_
   rintro d f g ⟨n,b,rfl,c⟩ j
   refine ⟨fun _=>Sub.of b c,?_⟩
   have d:=Sub.of b c
   refine c_S 2 [] [2,3,38] d j (fun _ s=> .nil) .nil fun f d=>c_dt (⟨n,(decide (x1m > m)),b,d.to,c,k⟩)
  have k:=cond_f l t
  have b:=x.lit 28 l
  refine c_S 10 [] [2,3,38] o b (fun _ s=> .nil) .nil fun c b=>c_dt (⟨y,false,zr,b.to,q,k⟩)
 rintro b c ⟨u,p,F,f,n,t⟩
 refine c_if p f (fun c=>?_) (fun c=>?_)
 ·have k:=cond_t c t
  refine c_sq [] [4] f .nil fun d b=>c_ret (r_then (c_rt [] (vI 63) b .nil ?_))
  obtain rfl:=some_eq k
  exact ⟨_,rfl,u,(zt (zt (zt E J) I) F),rfl,(St.drop 2 n)⟩
 have t:=cond_f c t
 refine c_skip (n_then (c_seq (c_mid (fun a w=>∃q:Zone,∃o:Bool,Zone.le u q∧Fr a 91 [(2,pB z 0),(3,pB A 0),(50, .bool o)]∧St q (box A [vI x1k,vI x1o,vI x1f,vI x1t,vI x1m] 74::box z [sL o_x0l x0l c_x0l,V00,V01,V02,V03,V04,V05,V06,V07,V08] 29::L) w∧(F54_j3 fuel x0h x1k x1t x1m o)=some r) ?_ ?_)))
 ·skip
  refine c_reg (c_n 4 [vI x1k] [2,3,42] f (.cell (n.bx 0 0 rfl rfl) .nil) fun b p=>?_)
  rcases bft (x1k == (6:Int)) with b | b
  ·have k:=cond_t b t
   have m:=p.lit 42 b
   obtain ⟨d,c,k⟩:=bind_some k
   obtain ⟨c,_,f,g,j,hehv663,l⟩:=arrGet (Ty.mono _ (zt (zt (zt E J) I) F) hx_x0h) rfl c
   obtain rfl:=List.head_eq_of_cons_eq hehv663
   refine c_t [vI x1f,sL g d j] [2,3,50] m (.cell (n.bx 0 2 rfl rfl) (.prop c (.cell ((arrAddr z 1 x1f.toNat) ▸ (n.box (i:=1) rfl (getElem?_app_right [sL o_x0l x0l c_x0l] _ _ f []))) .nil))) fun f c=>?_
   exact ⟨u,(decide ((d.length:Int)<(2:Int))),zr,c.to,n,k⟩
  have k:=cond_f b t
  have b:=p.lit 42 b
  refine c_t [] [2,3,50] b .nil fun c b=>⟨u,false,zr,b.to,n,k⟩
 rintro b c ⟨q,o,G,f,g,t⟩
 refine c_if o f (fun c=>?_) (fun c=>?_)
 ·have k:=cond_t c t
  refine c_sq [] [4] f .nil fun d b=>c_ret (r_then (c_rt [] (vI 3) b .nil ?_))
  obtain rfl:=some_eq k
  exact ⟨_,rfl,q,(zt (zt (zt (zt E J) I) F) G),rfl,(St.drop 2 g)⟩
 have t:=cond_f c t
 refine c_skip (n_then (c_mid (fun a w=>∃u:Zone,∃y:Bool,Zone.le q u∧Fr a 91 [(2,pB z 0),(3,pB A 0),(6, .bool y)]∧St u (box A [vI x1k,vI x1o,vI x1f,vI x1t,vI x1m] 74::box z [sL o_x0l x0l c_x0l,V00,V01,V02,V03,V04,V05,V06,V07,V08] 29::L) w∧(F54_j4 fuel x0h x1k x1t x1m y)=some r) ?_ ?_))
 ·skip
  refine c_reg (c_n 4 [vI x1k] [2,3,54] f (.cell (g.bx 0 0 rfl rfl) .nil) fun b f=>?_)
  rcases bft (x1k == (1:Int)) with b | b
  ·have k:=cond_t b t
   have c:=f.lit 54 b
   refine c_t [] [2,3,6] c .nil fun d c=>⟨q,true,zr,c.to,g,k⟩
  have t:=cond_f b t
  have b:=f.lit 54 b
  refine c_n 5 [vI x1k] [2,3,59] b (.cell (g.bx 0 0 rfl rfl) .nil) fun b f=>?_
  rcases bft (x1k == (2:Int)) with b | b
  ·have k:=cond_t b t
   have c:=f.lit 59 b
   refine c_t [] [2,3,6] c .nil fun d c=>⟨q,true,zr,c.to,g,k⟩
  have k:=cond_f b t
  have b:=f.lit 59 b
  refine c_t [vI x1k] [2,3,6] b (.cell (g.bx 0 0 rfl rfl) .nil) fun c b=>⟨q,(x1k == (4:Int)),zr,b.to,g,k⟩
 rintro b c ⟨u,y,C,f,d,H⟩
 refine c_seq (c_mid (fun a w=>∃B:Zone,∃D:Bool,Zone.le u B∧Fr a 91 [(90, .bool D)]∧St B (box A [vI x1k,vI x1o,vI x1f,vI x1t,vI x1m] 74::box z [sL o_x0l x0l c_x0l,V00,V01,V02,V03,V04,V05,V06,V07,V08] 29::L) w∧(F54_j5 D)=some r) ?_ ?_)
 ·skip
  have x:=d.drew
  have o:=Sub.of zr x
  refine c_regD [(0,true),(1,true),(2,true),(3,true),(4,true),(5,true),(6,true),(7,true),(8,true),(9,true),(10,true),(11,true),(12,true),(13,true),(14,true),(15,true),(16,true),(17,true),(18,true),(19,true),(21,true),(22,true),(20,false),(23,true),(24,true),(25,true),(26,true)] [] _ o (c_S 4 [vI x1k] [2,3,6,67] o f (fun _ s=>(.cell (s.bx 0 0 rfl rfl) .nil)) .nil fun b A=>?_)
  rcases bft (x1k == (2:Int)) with p | p
  ·have k:=cond_t p H
   have l:=A.lit 67 p
   obtain ⟨c,b,t⟩:=bind_some k
   obtain ⟨b,_,d,f,g,hehv1436,j⟩:=arrGet (Ty.mono _ (zt (zt (zt (zt (zt E J) I) F) G) C) hx_x0h) rfl b
   obtain rfl:=List.head_eq_of_cons_eq hehv1436
   refine c_S 9 [vI x1t,sL f c g] [2,3,6,76] o l (fun _ s=>(.cell (s.bx 0 3 rfl rfl) (.prop b (.cell ((arrAddr z 1 x1t.toNat) ▸ (s.box (i:=1) rfl (getElem?_app_right [sL o_x0l x0l c_x0l] _ _ d []))) .nil)))) .nil fun b f=>?_
   rcases bft ((c.length:Int) == (4:Int)) with b | b
   ·have k:=cond_t b t
    have c:=f.lit 76 b
    refine c_S 14 [] [90] o c (fun _ s=> .nil) .nil fun d c=>c_dt (⟨u,true,zr,c.to,x,k⟩)
   have t:=cond_f b t
   have b:=f.lit 76 b
   refine c_S 2 [] [2,3,76,78] o b (fun _ s=> .nil) .nil fun b q=>?_
   rcases bft y with l | l
   ·have k:=cond_t l t
    have j:=q.lit 78 l
    obtain ⟨g,b,k⟩:=bind_some k
    obtain ⟨b,_,f,c,d,hehv1461,n⟩:=arrGet (Ty.mono _ (zt (zt (zt (zt (zt E J) I) F) G) C) hx_x0h) rfl b
    obtain rfl:=List.head_eq_of_cons_eq hehv1461
    refine c_S 7 [vI x1t,sL c g d,vI x1m] [76,78,83,86] o j (fun _ s=>(.cell (s.bx 0 3 rfl rfl) (.prop b (.cell ((arrAddr z 1 x1t.toNat) ▸ (s.box (i:=1) rfl (getElem?_app_right [sL o_x0l x0l c_x0l] _ _ f []))) (.cell (s.bx 0 4 rfl rfl) .nil))))) .nil fun b f=>?_
    obtain ⟨m,b,k⟩:=bind_some k
    refine c_call f (f69_ok fuel g m b u _ _ x c d n) ?_
    rintro d f g ⟨n,b,rfl,c⟩ j
    refine ⟨fun _=>Sub.of b c,?_⟩
    have d:=Sub.of b c
    refine c_S 4 [] [90] d j (fun _ s=> .nil) .nil fun f d=>c_dt (⟨n,(decide ((w64 (m + x1m)) > (100000000:Int))),b,d.to,c,k⟩)
   have k:=cond_f l t
   have b:=q.lit 78 l
   refine c_S 12 [] [90] o b (fun _ s=> .nil) .nil fun c b=>c_dt (⟨u,false,zr,b.to,x,k⟩)
  have t:=cond_f p H
  have b:=A.lit 67 p
  refine c_S 11 [] [2,3,76,78] o b (fun _ s=> .nil) .nil fun b p=>?_
  rcases bft y with l | l
  ·have k:=cond_t l t
   have j:=p.lit 78 l
   obtain ⟨g,b,k⟩:=bind_some k
   obtain ⟨b,_,f,c,d,hehv1504,n⟩:=arrGet (Ty.mono _ (zt (zt (zt (zt (zt E J) I) F) G) C) hx_x0h) rfl b
   obtain rfl:=List.head_eq_of_cons_eq hehv1504
   refine c_S 7 [vI x1t,sL c g d,vI x1m] [76,78,83,86] o j (fun _ s=>(.cell (s.bx 0 3 rfl rfl) (.prop b (.cell ((arrAddr z 1 x1t.toNat) ▸ (s.box (i:=1) rfl (getElem?_app_right [sL o_x0l x0l c_x0l] _ _ f []))) (.cell (s.bx 0 4 rfl rfl) .nil))))) .nil fun b f=>?_
   obtain ⟨m,b,k⟩:=bind_some k
   refine c_call f (f69_ok fuel g m b u _ _ x c d n) ?_
   rintro d f g ⟨n,b,rfl,c⟩ j
   refine ⟨fun _=>Sub.of b c,?_⟩
   have d:=Sub.of b c
   refine c_S 4 [] [90] d j (fun _ s=> .nil) .nil fun f d=>c_dt (⟨n,(decide ((w64 (m + x1m)) > (100000000:Int))),b,d.to,c,k⟩)
  have k:=cond_f l t
  have b:=p.lit 78 l
  refine c_S 12 [] [90] o b (fun _ s=> .nil) .nil fun c b=>c_dt (⟨u,false,zr,b.to,x,k⟩)
 rintro b c ⟨B,D,g,d,j,t⟩
 refine c_if D d (fun c=>?_) (fun c=>?_)
 ·have k:=cond_t c t
  refine c_sq [] [4] d .nil fun f b=>c_ret (r_then (c_rt [] (vI 2) b .nil ?_))
  obtain rfl:=some_eq k
  exact ⟨_,rfl,B,(zt (zt (zt (zt (zt (zt E J) I) F) G) C) g),rfl,(St.drop 2 j)⟩
 have k:=cond_f c t
 refine c_skip (n_then (c_sq [] [4] d .nil fun c b=>(c_ret (c_rt [] (vI 0) b .nil ?_))))
 obtain rfl:=some_eq k
 exact ⟨_,rfl,B,(zt (zt (zt (zt (zt (zt E J) I) F) G) C) g),rfl,(St.drop 2 j)⟩
def F55_l2 (k1:(List (List (List Part)))→Int→Option (List Lot×List (List (List Part)))) (x0h:List (List (List Part))) (y1:Int):Nat→(List (List (List Part)))→Int→Option (List Lot×List (List (List Part)))
  | 0,_,_=>none
  | n1 + 1,y2,y3 =>
    let k2:(List (List (List Part)))→Int→Option (List Lot×List (List (List Part))):=F55_l2 k1 x0h y1 n1
    ((getI x0h y1).bind fun p1=>(cond (decide (y3<(p1.length:Int))) ((getI y2 y1).bind fun p2=>((getI x0h y1).bind fun p3=>((getI p3 y3).bind fun p4=>((appC ([]) p4).bind fun d1=>((appC p2 ([d1])).bind fun d2=>(k2 (y2.set (Int.toNat y1) d2) (w64 (y3 + (1:Int))))))))) (k1 y2 (w64 (y1 + (1:Int))))))
def F55_l1 (fuel:Nat) (x0h:List (List (List Part))) (d3:List Lot):Nat→(List (List (List Part)))→Int→Option (List Lot×List (List (List Part)))
  | 0,_,_=>none
  | n2 + 1,y4,y1 =>
    let k1:(List (List (List Part)))→Int→Option (List Lot×List (List (List Part))):=F55_l1 fuel x0h d3 n2
    (cond (decide (y1<(9:Int))) (F55_l2 k1 x0h y1 fuel y4 0) (some (d3,y4)))
def F55 (fuel:Nat) (x0l:List Lot) (x0h:List (List (List Part))):Option (List Lot×List (List (List Part))) :=
  ((appC ([]) x0l).bind fun d3=>(F55_l1 fuel x0h d3 fuel ([[],[],[],[],[],[],[],[],[]]) 0))
set_option maxRecDepth 100000 in
theorem f55_ok (fuel:Nat) (x0l:List Lot) (x0h:List (List (List Part))) (r:List Lot×List (List (List Part))) (hr:F55 fuel x0l x0h=some r) (h:Zone) (L:List Atom) (w:World) (hS:St h L w) (o_x0l:Option Addr) (c_x0l:Nat) (hx_x0l:SliceR LotT h o_x0l c_x0l x0l) (V00 V01 V02 V03 V04 V05 V06 V07 V08:Value) (hx_x0h:(Ty.arr 9 (Ty.slice (Ty.slice PartT))).rep h [V00,V01,V02,V03,V04,V05,V06,V07,V08] x0h) :
    Calls Tryz.prog 55 #[.agg #[.slice o_x0l x0l.length c_x0l,V00,V01,V02,V03,V04,V05,V06,V07,V08]] w fun e w'=>∃v,e= .returned v∧(∃h',∃o0:Option Addr,∃c0:Nat,∃v1_0:Value,∃v1_1:Value,∃v1_2:Value,∃v1_3:Value,∃v1_4:Value,∃v1_5:Value,∃v1_6:Value,∃v1_7:Value,∃v1_8:Value,Zone.le h h'∧v= .agg #[.slice o0 r.1.length c0,v1_0,v1_1,v1_2,v1_3,v1_4,v1_5,v1_6,v1_7,v1_8]∧St h' (ownA (Ty.slice PartT) 49 [v1_0,v1_1,v1_2,v1_3,v1_4,v1_5,v1_6,v1_7,v1_8] r.2::L) w'∧SliceR LotT h' o0 c0 r.1):=by
 refine calls_intro (N:=45) Tryz.func55 (by kernel_rfl) fun a hf=>c_sr (c_box [sL o_x0l x0l c_x0l,V00,V01,V02,V03,V04,V05,V06,V07,V08] 29 hS hf fun b1 u x g l=>tv (c_box [N0,N0,N0,N0,N0,N0,N0,N0,N0,N0] 29 g l fun b2 y z m o=>tv (c_dt (c_sr (p_box (i:=0) (d:=(some 6)) (cs:=[]) (T:=43) (v:=fun f=> .slice (some ⟨f,0,none⟩) 0 0) m o (fun b=>by kernel_rfl) fun f A B p t=>tv ?_)))))
 have f:=p.ownBox (T:=LotT) (E:=43) (n:=0) (xs:=[]) (i:=0) rfl rfl rfl (by decide)
 refine c_n 2 [sL o_x0l x0l c_x0l] [1,2,6,8] t (.cell (f.bx 2 0 rfl rfl) .nil) fun g l=>?_
 obtain ⟨K,g,q⟩:=bind_some hr
 refine p_append (T:=LotT) (i:=3) (j:=0) (d:=some 9) (o2:=o_x0l) (c2:=c_x0l) (ys:=x0l) el22 f l rfl (by kernel_rfl) (SliceR.src hx_x0l f) g fun M O l m g f=>tv (c_n 1 [] [1,2,10] f .nil fun l f=>c_box [N0,N0,N0,N0,N0,N0,N0,N0,N0,N0] 29 g f fun P l m f g=>tv (c_st 0 [sL M K O,N0,N0,N0,N0,N0,N0,N0,N0,N0] f g rfl fun l m g f=>tv (c_dt (c_seq (c_sq [] [1,2,3,4] f .nil fun f m=>(c_block 0 ?_))))))
 have f:=g.ownNew (Ty.slice PartT) 49 9
 have f:=f
 refine c_loop (fun n a w=>∃g:Zone,∃l:List (List (List Part)),∃x:Int,∃Q:Value,∃R:Value,∃S:Value,∃U:Value,∃V:Value,∃W:Value,∃X:Value,∃Y:Value,∃Z:Value,Zone.le h g∧Fr a 45 [(1,pB b1 0),(2,pB b2 0),(3,pB P 0),(4,vI x)]∧St g (ownA (Ty.slice PartT) 49 [Q,R,S,U,V,W,X,Y,Z] l::box P [sL M K O,Q,R,S,U,V,W,X,Y,Z] 29::ownS LotT 43 M O K::box b2 [N0,N0,N0,N0,N0,N0,N0,N0,N0,N0] 29::box b1 [sL o_x0l x0l c_x0l,V00,V01,V02,V03,V04,V05,V06,V07,V08] 29::L) w∧(F55_l1 fuel x0h K n l x)=some r) fuel ⟨h,[[],[],[],[],[],[],[],[],[]],0,(N0),(N0),(N0),(N0),(N0),(N0),(N0),(N0),(N0),zr,m.to,f,q⟩ ?_
 rintro f m o ⟨g,l,x,Q,R,S,U,V,W,X,Y,Z,k3,p,I,ag⟩
 cases f with
 | zero=>cases ag
 | succ n2 =>
 refine c_seq (c_sq [] [1,2,3,4,12] p .nil fun f af=>(c_if (decide (x<(9:Int))) af (fun ae=>?_) (fun ae=>?_)))
 ·have q:=cond_t ae ag
  refine c_skip (n_then (c_seq (c_block 1 (c_sq [] [1,2,3,4,5] af .nil fun m f=>(c_block 2 (c_loop (fun n a w=>∃z2:Zone,∃y2:List (List (List Part)),∃y3:Int,∃a1:Value,∃a2:Value,∃a3:Value,∃a4:Value,∃a5:Value,∃a6:Value,∃a7:Value,∃a8:Value,∃a9:Value,Zone.le g z2∧Fr a 45 [(1,pB b1 0),(2,pB b2 0),(3,pB P 0),(4,vI x),(5,vI y3)]∧St z2 (ownA (Ty.slice PartT) 49 [a1,a2,a3,a4,a5,a6,a7,a8,a9] y2::box P [sL M K O,a1,a2,a3,a4,a5,a6,a7,a8,a9] 29::ownS LotT 43 M O K::box b2 [N0,N0,N0,N0,N0,N0,N0,N0,N0,N0] 29::box b1 [sL o_x0l x0l c_x0l,V00,V01,V02,V03,V04,V05,V06,V07,V08] 29::L) w∧(F55_l2 (F55_l1 fuel x0h K n2) x0h x n y2 y3)=some r) fuel ⟨g,l,0,Q,R,S,U,V,W,X,Y,Z,zr,f.to,I,q⟩ ?_))))))
  rintro f g l ⟨z2,y2,y3,a1,a2,a3,a4,a5,a6,a7,a8,a9,k4,t,ad,q⟩
  cases f with
  | zero=>cases q
  | succ n1 =>
  refine c_seq ?_
  obtain ⟨g,f,ah⟩:=bind_some q
  obtain ⟨f,_,l,m,o,hehv20961,p⟩:=arrGet (Ty.mono _ (zt k3 k4) hx_x0h) rfl f
  obtain rfl:=List.head_eq_of_cons_eq hehv20961
  refine c_sq [sL m g o] [1,2,3,4,5,21] t (.prop f (.cell ((arrAddr b1 1 x.toNat) ▸ (ad.box (i:=4) rfl (getElem?_app_right [sL o_x0l x0l c_x0l] _ _ l []))) .nil)) fun f ab=>?_
  refine c_if (decide (y3<(g.length:Int))) ab (fun aa=>?_) (fun aa=>?_)
  ·have q:=cond_t aa ah
   refine c_skip (n_then (c_seq (c_block 3 ?_)))
   obtain ⟨p2,ac,q⟩:=bind_some q
   obtain ⟨J,q3,a0,H,f⟩:=ad.ownOpen (j:=0) rfl ac
   have D:=f.drew
   have u:=Sub.of zr D
   refine c_regD [(0,true),(1,true),(2,true),(3,true),(4,true),(6,true),(7,true),(8,true),(9,true),(10,true),(11,true),(12,true),(13,true),(18,true),(5,false),(14,false),(15,true),(16,false),(17,false),(19,true),(20,false)] [17,20] _ u ?_
   obtain ⟨F,f,q⟩:=bind_some q
   obtain ⟨z,_,A,B,C,hehv21090,g⟩:=arrGet (Ty.mono _ (zt k3 k4) hx_x0h) rfl f
   obtain rfl:=List.head_eq_of_cons_eq hehv21090
   obtain ⟨y,f,q⟩:=bind_some q
   obtain ⟨g,l,m,p,f,o⟩:=SliceR.getI g f
   obtain ⟨p,t,rfl,G⟩:=f
   refine c_S 14 [sL J p2 q3,sL B F C, .pointer (some g),sL p y t] [1,2,3,4,5,24,28,37,42] u ab (fun _ s=>(.prop H (.cell ((arrAddr P 1 (Int.toNat x)) ▸ (s.box (i:=2) rfl (getElem?_app_right [sL M K O] _ _ a0 []))) (.prop z (.cell ((arrAddr b1 1 x.toNat) ▸ (s.box (i:=5) rfl (getElem?_app_right [sL o_x0l x0l c_x0l] _ _ A []))) (.prop l (.prop m (.cell (s.cell (o 0 _ rfl)) .nil)))))))) .nil fun f g=>?_
   refine p_box (i:=5) (d:=(some 29)) (cs:=[]) (T:=53) (v:=fun f=> .slice (some ⟨f,0,none⟩) 0 0) D g (fun b=>by kernel_rfl) fun f l m g o=>⟨fun _=>Sub.of zr (St.drop 1 g),?_⟩
   have f:=g.ownBox (T:=PartT) (E:=53) (n:=0) (xs:=[]) (i:=0) rfl rfl rfl (by decide)
   have g:=Sub.of zr (St.drop 1 f)
   obtain ⟨m,g,q⟩:=bind_some q
   refine p_append (T:=PartT) (i:=14) (j:=0) (d:=some 38) (o2:=p) (c2:=t) (ys:=y) el47 f o rfl (by kernel_rfl) (SliceR.src G f) g fun p t g o f l=>⟨fun _=>Sub.of zr (St.drop 1 f),?_⟩
   have g:=Sub.of zr (St.drop 1 f)
   refine c_S 1 [] [1,2,3,4,5,24,28,39,42] g l (fun _ s=> .nil) .nil fun g l=>?_
   obtain ⟨z3,J,f,o⟩:=f.share (j:=0) rfl
   refine p_box (i:=16) (d:=(some 40)) (cs:=[sL p m t]) (T:=49) (v:=fun g=> .slice (some ⟨g,0,none⟩) 1 1) f l (fun b=>by kernel_rfl) fun g l u f y=>⟨fun _=>Sub.of J (St.drop 2 f),?_⟩
   have f:=f.ownBox (T:=(Ty.slice PartT)) (E:=49) (n:=1) (xs:=[m]) (i:=0) rfl (Rows.cons (c:=[sL p m t]) (sliceRep (o)) rfl) rfl (by decide)
   have l:=Sub.of J (St.drop 2 f)
   obtain ⟨p,l,q⟩:=bind_some q
   refine p_append (T:=(Ty.slice PartT)) (i:=17) (j:=2) (d:=some 41) (o2:=(some ⟨g,0,none⟩)) (c2:=1) (ys:=([m])) el26 f y rfl (by kernel_rfl) (f.ownSrc (j:=0) rfl) l fun g l o t m f=>⟨fun e=>absurd e (by decide),?_⟩
   refine p_qP 1 [] [(1,pB b1 0),(2,pB b2 0),(3,pB P 0),(4,vI x),(5,vI y3),(41,sL g p l),(43, .pointer (some ((⟨P,1,none⟩:Addr).add (Int.toNat x * 1))))] [.prop (0≤x∧x<(9:Nat))] f (by kernel_rfl) (fun _=>(.prop H .nil)) fun o f=>p_storeA (i:=20) (j:=4) (b:=P) (ix:=x) (pre:=[sL M K O]) (vs:=[a1,a2,a3,a4,a5,a6,a7,a8,a9]) (post:=[]) (v:=sL g p l) m f rfl (by have t:=H.1; have f:=H.2; simp at f ⊢; omega) (by kernel_rfl) rfl fun m u o P=>⟨fun e=>absurd e (by decide),?_⟩
   obtain ⟨u,y,z,A,B,C,D,F,G,m⟩:=nine (vs:=[a1,a2,a3,a4,a5,a6,a7,a8,a9].set (Int.toNat x) (sL g p l)) (by simp)
   rw [m] at o
   have f:[u,y,z,A,B,C,D,F,G][Int.toNat x]? =some (sL g p l):=by rw [← m]; exact List.getElem?_set_self (by have t:=H.1; have f:=H.2; simp at f ⊢; omega)
   have f:=o
   refine c_done ?_
   have f:=f.ownClose (j:=3) (k:=2) rfl rfl (by decide) (List.getElem?_eq_some_iff.1 (getI_spec ac).2).1
   rw [m] at f
   refine n_block (n_then (c_q [] [1,2,3,4,5] P .nil fun l g=>(n_then (⟨n1,Nat.lt_succ_self n1,z3,(y2.set (Int.toNat x) p),(w64 (y3 + (1:Int))),u,y,z,A,B,C,D,F,G,(zt k4 J),g.to,(St.drop 3 f),q⟩))))
  have q:=cond_f aa ah
  refine c_exit 2 (x_then (x_then (x_block (n_block (n_then (c_q [] [1,2,3,4] ab .nil fun g f=>(n_then (⟨n2,Nat.lt_succ_self n2,z2,y2,(w64 (x + (1:Int))),a1,a2,a3,a4,a5,a6,a7,a8,a9,(zt k3 k4),f.to,ad,q⟩))))))))
 have q:=cond_f ae ag
 refine c_exit 0 (x_then (x_then (x_block (n_then (c_sr (c_n 1 [sL M K O,Q,R,S,U,V,W,X,Y,Z] [2,44] af (.cell (I.bx 1 0 rfl rfl) (.cell (I.bx 1 1 rfl rfl) (.cell (I.bx 1 2 rfl rfl) (.cell (I.bx 1 3 rfl rfl) (.cell (I.bx 1 4 rfl rfl) (.cell (I.bx 1 5 rfl rfl) (.cell (I.bx 1 6 rfl rfl) (.cell (I.bx 1 7 rfl rfl) (.cell (I.bx 1 8 rfl rfl) (.cell (I.bx 1 9 rfl rfl) .nil)))))))))) fun f g=>?_))))))
 have f:=I.ownOnes (j:=0) rfl
 refine p_store_eq (i:=1) (j:=3) (b:=b2) (off:=0) (vs:=[sL M K O,Q,R,S,U,V,W,X,Y,Z]) (cs':=[sL M K O,Q,R,S,U,V,W,X,Y,Z]) I g rfl (by kernel_rfl) f rfl fun g l f m=>tv (c_dt (c_ret ?_))
 obtain ⟨g,l,f,o⟩:=f.share (j:=2) rfl
 refine c_rt [sL M K O,Q,R,S,U,V,W,X,Y,Z] (.agg #[sL M K O,Q,R,S,U,V,W,X,Y,Z]) m (.cell (f.bx 3 0 rfl rfl) (.cell (f.bx 3 1 rfl rfl) (.cell (f.bx 3 2 rfl rfl) (.cell (f.bx 3 3 rfl rfl) (.cell (f.bx 3 4 rfl rfl) (.cell (f.bx 3 5 rfl rfl) (.cell (f.bx 3 6 rfl rfl) (.cell (f.bx 3 7 rfl rfl) (.cell (f.bx 3 8 rfl rfl) (.cell (f.bx 3 9 rfl rfl) .nil)))))))))) ?_
 obtain rfl:=some_eq q
 exact ⟨_,rfl,g,M,O,Q,R,S,U,V,W,X,Y,Z,(zt k3 l),rfl,(St.pick 5 [0] f (by kernel_rfl)),o⟩
def F59_j3 (k1:(List Part)→Int→Int→Option (List Part)) (x0:List Part) (x1:List Part) (y1:List Part) (y2:Int) (y3:Int) (y4:Bool):Option (List Part) :=
  (cond y4 ((getI x1 y3).bind fun p1=>((appC y1 ([⟨p1.lot,p1.mass⟩])).bind fun d1=>(k1 d1 y2 (w64 (y3 + (1:Int)))))) ((getI x0 y2).bind fun p2=>((getI x0 y2).bind fun p3=>((getI x1 y3).bind fun p4=>((appC y1 ([⟨p2.lot,(w64 (p3.mass + p4.mass))⟩])).bind fun d2=>(k1 d2 (w64 (y2 + (1:Int))) (w64 (y3 + (1:Int)))))))))
def F59_j2 (k1:(List Part)→Int→Int→Option (List Part)) (x0:List Part) (x1:List Part) (y1:List Part) (y2:Int) (y3:Int) (y5:Bool):Option (List Part) :=
  (cond y5 ((getI x0 y2).bind fun p5=>((appC y1 ([⟨p5.lot,p5.mass⟩])).bind fun d3=>(k1 d3 (w64 (y2 + (1:Int))) y3))) (cond (y2 == (x0.length:Int)) (F59_j3 k1 x0 x1 y1 y2 y3 true) ((getI x1 y3).bind fun p6=>((getI x0 y2).bind fun p7=>(F59_j3 k1 x0 x1 y1 y2 y3 (decide (p6.lot<p7.lot)))))))
def F59_j1 (k1:(List Part)→Int→Int→Option (List Part)) (x0:List Part) (x1:List Part) (y1:List Part) (y2:Int) (y3:Int) (y6:Bool):Option (List Part) :=
  (cond y6 (cond (y3 == (x1.length:Int)) (F59_j2 k1 x0 x1 y1 y2 y3 true) (cond (decide (y2<(x0.length:Int))) ((getI x0 y2).bind fun p8=>((getI x1 y3).bind fun p9=>(F59_j2 k1 x0 x1 y1 y2 y3 (decide (p8.lot<p9.lot))))) (F59_j2 k1 x0 x1 y1 y2 y3 false))) (some (y1)))
def F59_l1 (x0:List Part) (x1:List Part):Nat→(List Part)→Int→Int→Option (List Part)
  | 0,_,_,_=>none
  | n1 + 1,y1,y2,y3 =>
    let k1:(List Part)→Int→Int→Option (List Part):=F59_l1 x0 x1 n1
    (cond (decide (y2<(x0.length:Int))) (F59_j1 k1 x0 x1 y1 y2 y3 true) (F59_j1 k1 x0 x1 y1 y2 y3 (decide (y3<(x1.length:Int)))))
def F59 (fuel:Nat) (x0:List Part) (x1:List Part):Option (List Part) :=
  (F59_l1 x0 x1 fuel ([]) 0 0)
set_option maxRecDepth 100000 in
theorem f59_ok (fuel:Nat) (x0:List Part) (x1:List Part) (r:List Part) (hr:F59 fuel x0 x1=some r) (h:Zone) (L:List Atom) (w:World) (hS:St h L w) (o_x0:Option Addr) (c_x0:Nat) (hx_x0:SliceR PartT h o_x0 c_x0 x0) (o_x1:Option Addr) (c_x1:Nat) (hx_x1:SliceR PartT h o_x1 c_x1 x1) :
    Calls Tryz.prog 59 #[.agg #[.slice o_x0 x0.length c_x0], .agg #[.slice o_x1 x1.length c_x1]] w fun e w'=>∃v,e= .returned v∧(∃h',∃o0:Option Addr,∃c0:Nat,Zone.le h h'∧v= .agg #[.slice o0 r.length c0]∧St h' L w'∧SliceR PartT h' o0 c0 r):=by
 refine calls_intro (N:=121) Tryz.func59 (by kernel_rfl) fun a hf=>c_sr (c_box [sL o_x0 x0 c_x0] 49 hS hf fun Y z A f g=>tv (c_box [sL o_x1 x1 c_x1] 49 f g fun Z B C k l=>tv (c_box [N0] 49 k l fun b3 D F m o=>tv (c_dt (c_sr (c_box [N0] 49 m o fun V G H t p=>tv (c_dt (c_sq [] [2,3,4,5,6] p .nil fun I q=>(c_sq [] [2,3,4,5,6,7] q .nil fun J u=>(c_seq (c_block 0 ?_)))))))))))
 have f:=t.ownNil PartT 53
 refine c_loop (fun n a w=>∃k:Zone,∃J:List Part,∃M:Int,∃O:Int,∃Q:Option Addr,∃R:Nat,Zone.le h k∧Fr a 121 [(2,pB Y 0),(3,pB Z 0),(4,pB b3 0),(5,pB V 0),(6,vI M),(7,vI O)]∧St k (ownS PartT 53 Q R J::box V [sL Q J R] 49::box b3 [N0] 49::box Z [sL o_x1 x1 c_x1] 49::box Y [sL o_x0 x0 c_x0] 49::L) w∧(F59_l1 x0 x1 n J M O)=some r) fuel ⟨h,[],0,0,none,0,zr,u.to,f,hr⟩ ?_
 rintro f g l ⟨k,J,M,O,Q,R,W,o,p,K⟩
 cases f with
 | zero=>cases K
 | succ n1 =>
 refine c_seq (c_mid (fun a w=>∃F:Zone,∃m:Bool,Zone.le k F∧Fr a 121 [(2,pB Y 0),(3,pB Z 0),(4,pB b3 0),(5,pB V 0),(6,vI M),(7,vI O),(19, .bool m)]∧St F (ownS PartT 53 Q R J::box V [sL Q J R] 49::box b3 [N0] 49::box Z [sL o_x1 x1 c_x1] 49::box Y [sL o_x0 x0 c_x0] 49::L) w∧(F59_j1 (F59_l1 x0 x1 n1) x0 x1 J M O m)=some r) ?_ ?_)
 ·skip
  refine c_reg (c_n 6 [sL o_x0 x0 c_x0] [2,3,4,5,6,7,13] o (.cell (p.bx 4 0 rfl rfl) .nil) fun f o=>?_)
  rcases bft (decide (M<(x0.length:Int))) with f | f
  ·have y:=cond_t f K
   have g:=o.lit 13 f
   refine c_t [] [2,3,4,5,6,7,19] g .nil fun l g=>⟨k,true,zr,g.to,p,y⟩
  have y:=cond_f f K
  have f:=o.lit 13 f
  refine c_t [sL o_x1 x1 c_x1] [2,3,4,5,6,7,19] f (.cell (p.bx 3 0 rfl rfl) .nil) fun g f=>⟨k,(decide (O<(x1.length:Int))),zr,f.to,p,y⟩
 rintro f g ⟨F,m,S,a1,a2,a3⟩
 refine c_if m a1 (fun a0=>?_) (fun a0=>?_)
 ·have K:=cond_t a0 a3
  refine c_skip (n_then (c_block 1 (c_seq (c_mid (fun a w=>∃H:Zone,∃G:Bool,Zone.le F H∧Fr a 121 [(2,pB Y 0),(3,pB Z 0),(4,pB b3 0),(5,pB V 0),(6,vI M),(7,vI O),(46, .bool G)]∧St H (ownS PartT 53 Q R J::box V [sL Q J R] 49::box b3 [N0] 49::box Z [sL o_x1 x1 c_x1] 49::box Y [sL o_x0 x0 c_x0] 49::L) w∧(F59_j2 (F59_l1 x0 x1 n1) x0 x1 J M O G)=some r) ?_ ?_))))
  ·skip
   have p:=a2.drew
   refine c_regD (rD 27 []) [] (fun x=>x=g.drew) rfl (c_E 6 [sL o_x1 x1 c_x1] [2,3,4,5,6,7,25] a1 (.cell (p.bx 3 0 rfl rfl) .nil) .nil fun f l=>?_)
   rcases bft (O == (x1.length:Int)) with f | f
   ·have y:=cond_t f K
    have g:=l.lit 25 f
    refine c_tE [] [2,3,4,5,6,7,46] g .nil .nil fun k g=>⟨F,true,zr,g.to,p,y⟩
   have K:=cond_f f K
   have f:=l.lit 25 f
   refine c_E 6 [sL o_x0 x0 c_x0] [2,3,4,5,6,7,25,31] f (.cell (p.bx 4 0 rfl rfl) .nil) .nil fun f D=>?_
   rcases bft (decide (M<(x0.length:Int))) with o | o
   ·have y:=cond_t o K
    have C:=D.lit 31 o
    obtain ⟨q,f,y⟩:=bind_some y
    obtain ⟨t,u,z,f,rfl,A⟩:=SliceR.getI (SliceR.mono (zt W S) hx_x0) f
    obtain ⟨f,g,y⟩:=bind_some y
    obtain ⟨g,k,l,B,rfl,m⟩:=SliceR.getI (SliceR.mono (zt W S) hx_x1) g
    refine c_tE [sL o_x0 x0 c_x0, .pointer (some t),vI q.lot,sL o_x1 x1 c_x1, .pointer (some g),vI f.lot] [2,3,4,5,6,7,46] C (.cell (p.bx 4 0 rfl rfl) (.prop u (.prop z (.cell (p.cell (A 0 _ rfl)) (.cell (p.bx 3 0 rfl rfl) (.prop k (.prop l (.cell (p.cell (m 0 _ rfl)) .nil)))))))) .nil fun k g=>⟨F,(decide (q.lot<f.lot)),zr,g.to,p,y⟩
   have y:=cond_f o K
   have f:=D.lit 31 o
   refine c_tE [] [2,3,4,5,6,7,46] f .nil .nil fun g f=>⟨F,false,zr,f.to,p,y⟩
  rintro f A ⟨H,G,P,u,z,K⟩
  refine c_if G u (fun t=>?_) (fun t=>?_)
  ·have y:=cond_t t K
   refine c_seq ?_
   have p:=z.drew
   have o:=Sub.of zr p
   refine c_regD (rD 11 [7,8,10]) [8,10] _ o ?_
   obtain ⟨f,g,y⟩:=bind_some y
   obtain ⟨k,l,m,q,rfl,g⟩:=SliceR.getI (SliceR.mono (zt (zt W S) P) hx_x0) g
   refine c_S 7 [sL Q J R,sL o_x0 x0 c_x0, .pointer (some k),vI f.lot,vI f.mass] [2,3,4,5,6,7,48,53] o u (fun _ s=>(.cell (s.bx 1 0 rfl rfl) (.cell (s.bx 4 0 rfl rfl) (.prop l (.prop m (.cell (s.cell (g 0 _ rfl)) (.cell (s.cell (g 1 _ rfl)) .nil))))))) .nil fun k g=>p_box (i:=7) (d:=(some 54)) (cs:=[vI f.lot,vI f.mass]) (T:=53) (v:=fun k=> .slice (some ⟨k,0,none⟩) 1 1) p g (fun b=>by kernel_rfl) fun k l m g o=>⟨fun _=>Sub.of zr (St.drop 1 g),?_⟩
   have g:=g.ownBox (T:=PartT) (E:=53) (n:=1) (xs:=[⟨f.lot,f.mass⟩]) (i:=0) rfl (Rows.cons (c:=[vI f.lot,vI f.mass]) rfl rfl) rfl (by decide)
   have l:=Sub.of zr (St.drop 1 g)
   obtain ⟨l,m,y⟩:=bind_some y
   refine p_append (T:=PartT) (i:=8) (j:=1) (d:=some 55) (o2:=(some ⟨k,0,none⟩)) (c2:=1) (ys:=([⟨f.lot,f.mass⟩])) el47 g o rfl (by kernel_rfl) (g.ownSrc (j:=0) rfl) m fun f g o p m k=>⟨fun e=>absurd e (by decide),?_⟩
   refine p_qP 1 [] [(2,pB Y 0),(3,pB Z 0),(4,pB b3 0),(5,pB V 0),(6,vI M),(7,vI O),(55,sL f l g),(56,pB V 0)] [] k (by kernel_rfl) (fun _=> .nil) fun o k=>c_st 2 [sL f l g] m k rfl fun o p m k=>⟨fun e=>absurd e (by decide),?_⟩
   refine c_dt (c_sq [] [2,3,4,5,6,7] k .nil fun o k=>(c_exit 1 (x_then (x_block (n_then (⟨n1,Nat.lt_succ_self n1,H,l,(w64 (M + (1:Int))),O,f,g,(zt (zt W S) P),k.to,(St.drop 1 m),y⟩))))))
  have K:=cond_f t K
  refine c_skip (n_then (c_seq (c_mid (fun a w=>∃X:Zone,∃C:Bool,Zone.le H X∧Fr a 121 [(2,pB Y 0),(3,pB Z 0),(4,pB b3 0),(5,pB V 0),(6,vI M),(7,vI O),(78, .bool C)]∧St X (ownS PartT 53 Q R J::box V [sL Q J R] 49::box b3 [N0] 49::box Z [sL o_x1 x1 c_x1] 49::box Y [sL o_x0 x0 c_x0] 49::L) w∧(F59_j3 (F59_l1 x0 x1 n1) x0 x1 J M O C)=some r) ?_ ?_)))
  ·skip
   have o:=z.drew
   refine c_regD (rD 20 []) [] (fun x=>x=A.drew) rfl (c_E 6 [sL o_x0 x0 c_x0] [2,3,4,5,6,7,64] u (.cell (o.bx 4 0 rfl rfl) .nil) .nil fun f l=>?_)
   rcases bft (M == (x0.length:Int)) with f | f
   ·have y:=cond_t f K
    have g:=l.lit 64 f
    refine c_tE [] [2,3,4,5,6,7,78] g .nil .nil fun k g=>⟨H,true,zr,g.to,o,y⟩
   have y:=cond_f f K
   have B:=l.lit 64 f
   obtain ⟨p,f,y⟩:=bind_some y
   obtain ⟨q,t,u,f,rfl,z⟩:=SliceR.getI (SliceR.mono (zt (zt W S) P) hx_x1) f
   obtain ⟨f,g,y⟩:=bind_some y
   obtain ⟨g,k,l,A,rfl,m⟩:=SliceR.getI (SliceR.mono (zt (zt W S) P) hx_x0) g
   refine c_tE [sL o_x1 x1 c_x1, .pointer (some q),vI p.lot,sL o_x0 x0 c_x0, .pointer (some g),vI f.lot] [2,3,4,5,6,7,78] B (.cell (o.bx 3 0 rfl rfl) (.prop t (.prop u (.cell (o.cell (z 0 _ rfl)) (.cell (o.bx 4 0 rfl rfl) (.prop k (.prop l (.cell (o.cell (m 0 _ rfl)) .nil)))))))) .nil fun k g=>⟨H,(decide (p.lot<f.lot)),zr,g.to,o,y⟩
  rintro f g ⟨X,C,I,U,u,K⟩
  refine c_if C U (fun t=>?_) (fun t=>?_)
  ·have y:=cond_t t K
   refine c_seq ?_
   have p:=u.drew
   have o:=Sub.of zr p
   refine c_regD (rD 11 [7,8,10]) [8,10] _ o ?_
   obtain ⟨f,g,y⟩:=bind_some y
   obtain ⟨k,l,m,q,rfl,g⟩:=SliceR.getI (SliceR.mono (zt (zt (zt W S) P) I) hx_x1) g
   refine c_S 7 [sL Q J R,sL o_x1 x1 c_x1, .pointer (some k),vI f.lot,vI f.mass] [2,3,4,5,6,7,80,85] o U (fun _ s=>(.cell (s.bx 1 0 rfl rfl) (.cell (s.bx 3 0 rfl rfl) (.prop l (.prop m (.cell (s.cell (g 0 _ rfl)) (.cell (s.cell (g 1 _ rfl)) .nil))))))) .nil fun k g=>p_box (i:=7) (d:=(some 86)) (cs:=[vI f.lot,vI f.mass]) (T:=53) (v:=fun k=> .slice (some ⟨k,0,none⟩) 1 1) p g (fun b=>by kernel_rfl) fun k l m g o=>⟨fun _=>Sub.of zr (St.drop 1 g),?_⟩
   have g:=g.ownBox (T:=PartT) (E:=53) (n:=1) (xs:=[⟨f.lot,f.mass⟩]) (i:=0) rfl (Rows.cons (c:=[vI f.lot,vI f.mass]) rfl rfl) rfl (by decide)
   have l:=Sub.of zr (St.drop 1 g)
   obtain ⟨l,m,y⟩:=bind_some y
   refine p_append (T:=PartT) (i:=8) (j:=1) (d:=some 87) (o2:=(some ⟨k,0,none⟩)) (c2:=1) (ys:=([⟨f.lot,f.mass⟩])) el47 g o rfl (by kernel_rfl) (g.ownSrc (j:=0) rfl) m fun f g o p m k=>⟨fun e=>absurd e (by decide),?_⟩
   refine p_qP 1 [] [(2,pB Y 0),(3,pB Z 0),(4,pB b3 0),(5,pB V 0),(6,vI M),(7,vI O),(87,sL f l g),(88,pB V 0)] [] k (by kernel_rfl) (fun _=> .nil) fun o k=>c_st 2 [sL f l g] m k rfl fun o p m k=>⟨fun e=>absurd e (by decide),?_⟩
   refine c_dt (c_sq [] [2,3,4,5,6,7] k .nil fun o k=>(c_exit 1 (x_then (x_block (n_then (⟨n1,Nat.lt_succ_self n1,X,l,M,(w64 (O + (1:Int))),f,g,(zt (zt (zt W S) P) I),k.to,(St.drop 1 m),y⟩))))))
  have y:=cond_f t K
  refine c_skip (n_then (c_seq ?_))
  have H:=u.drew
  have B:=Sub.of zr H
  refine c_regD (rD 26 [22,23,25]) [23,25] _ B ?_
  obtain ⟨p,f,y⟩:=bind_some y
  obtain ⟨C,D,F,f,rfl,G⟩:=SliceR.getI (SliceR.mono (zt (zt (zt W S) P) I) hx_x0) f
  obtain ⟨l,f,y⟩:=bind_some y
  obtain ⟨q,t,u,f,rfl,z⟩:=SliceR.getI (SliceR.mono (zt (zt (zt W S) P) I) hx_x0) f
  obtain ⟨g,f,y⟩:=bind_some y
  obtain ⟨f,k,m,A,rfl,o⟩:=SliceR.getI (SliceR.mono (zt (zt (zt W S) P) I) hx_x1) f
  refine c_S 22 [sL Q J R,sL o_x0 x0 c_x0, .pointer (some C),vI p.lot,sL o_x0 x0 c_x0, .pointer (some q),vI l.mass,sL o_x1 x1 c_x1, .pointer (some f),vI g.mass] [2,3,4,5,6,7,92,112] B U (fun _ s=>(.cell (s.bx 1 0 rfl rfl) (.cell (s.bx 4 0 rfl rfl) (.prop D (.prop F (.cell (s.cell (G 0 _ rfl)) (.cell (s.bx 4 0 rfl rfl) (.prop t (.prop u (.cell (s.cell (z 1 _ rfl)) (.cell (s.bx 3 0 rfl rfl) (.prop k (.prop m (.cell (s.cell (o 1 _ rfl)) .nil)))))))))))))) .nil fun k f=>p_box (i:=22) (d:=(some 113)) (cs:=[vI p.lot,vI (w64 (l.mass + g.mass))]) (T:=53) (v:=fun k=> .slice (some ⟨k,0,none⟩) 1 1) H f (fun b=>by kernel_rfl) fun k m o f q=>⟨fun _=>Sub.of zr (St.drop 1 f),?_⟩
  have f:=f.ownBox (T:=PartT) (E:=53) (n:=1) (xs:=[⟨p.lot,(w64 (l.mass + g.mass))⟩]) (i:=0) rfl (Rows.cons (c:=[vI p.lot,vI (w64 (l.mass + g.mass))]) rfl rfl) rfl (by decide)
  have m:=Sub.of zr (St.drop 1 f)
  obtain ⟨m,o,y⟩:=bind_some y
  refine p_append (T:=PartT) (i:=23) (j:=1) (d:=some 114) (o2:=(some ⟨k,0,none⟩)) (c2:=1) (ys:=([⟨p.lot,(w64 (l.mass + g.mass))⟩])) el47 f q rfl (by kernel_rfl) (f.ownSrc (j:=0) rfl) o fun g k o p l f=>⟨fun e=>absurd e (by decide),?_⟩
  refine p_qP 1 [] [(2,pB Y 0),(3,pB Z 0),(4,pB b3 0),(5,pB V 0),(6,vI M),(7,vI O),(114,sL g m k),(115,pB V 0)] [] f (by kernel_rfl) (fun _=> .nil) fun o f=>c_st 2 [sL g m k] l f rfl fun l p o f=>⟨fun e=>absurd e (by decide),?_⟩
  refine c_dt (c_sq [] [2,3,4,5,6,7] f .nil fun p f=>(c_q [] [2,3,4,5,6,7] f .nil fun q l=>(n_block (n_then (⟨n1,Nat.lt_succ_self n1,X,m,(w64 (M + (1:Int))),(w64 (O + (1:Int))),g,k,(zt (zt (zt W S) P) I),l.to,(St.drop 1 o),y⟩)))))
 have y:=cond_f a0 a3
 refine c_exit 0 (x_then (x_then (x_block (n_then (c_sr (c_n 1 [sL Q J R] [4,120] a1 (.cell (a2.bx 1 0 rfl rfl) .nil) fun l f=>(c_st 2 [sL Q J R] a2 f rfl fun m o g k=>tv (c_dt (c_ret ?_)))))))))
 obtain ⟨g,l,f,m⟩:=g.share (j:=0) rfl
 refine c_rt [sL Q J R] (.agg #[sL Q J R]) k (.cell (f.bx 2 0 rfl rfl) .nil) ?_
 obtain rfl:=some_eq y
 exact ⟨_,rfl,g,Q,R,(zt (zt W S) l),rfl,(St.drop 5 f),m⟩
def F56 (fuel:Nat) (x0:List (List Part)) (x1:List Part):Option (List (List Part)) :=
  (cond ((x0.length:Int) == (0:Int)) (some ([x1])) ((subI x0 0 (w64 ((x0.length:Int) - (1:Int)))).bind fun d1=>((appC ([]) d1).bind fun d2=>((getI x0 (w64 ((x0.length:Int) - (1:Int)))).bind fun p1=>((F59 fuel p1 x1).bind fun r1=>((appC d2 ([r1])).bind fun d3=>(some (d3))))))))
set_option maxRecDepth 100000 in
theorem f56_ok (fuel:Nat) (x0:List (List Part)) (x1:List Part) (r:List (List Part)) (hr:F56 fuel x0 x1=some r) (h:Zone) (L:List Atom) (w:World) (hS:St h L w) (o_x0:Option Addr) (c_x0:Nat) (hx_x0:SliceR (Ty.slice PartT) h o_x0 c_x0 x0) (o_x1:Option Addr) (c_x1:Nat) (hx_x1:SliceR PartT h o_x1 c_x1 x1) :
    Calls Tryz.prog 56 #[.slice o_x0 x0.length c_x0, .agg #[.slice o_x1 x1.length c_x1]] w fun e w'=>∃v,e= .returned v∧(∃h',∃o0:Option Addr,∃c0:Nat,Zone.le h h'∧v= .slice o0 r.length c0∧St h' (ownS (Ty.slice PartT) 49 o0 c0 r::L) w'):=by
 refine calls_intro (N:=29) Tryz.func56 (by kernel_rfl) fun a hf=>c_sr (c_box [sL o_x1 x1 c_x1] 49 hS hf fun k l o p f=>tv (c_t [] [0,3] f .nil fun q g=>(c_seq (c_sq [] [0,3,8] g .nil fun s t=>(c_if ((x0.length:Int) == (0:Int)) t (fun m=>?_) (fun m=>?_))))))
 ·have u:=cond_t m hr
  refine c_sr (c_n 1 [sL o_x1 x1 c_x1] [9] t (.cell (p.bx 0 0 rfl rfl) .nil) fun o f=>(p_box (i:=1) (d:=(some 10)) (cs:=[sL o_x1 x1 c_x1]) (T:=49) (v:=fun g=> .slice (some ⟨g,0,none⟩) 1 1) p f (fun b=>by kernel_rfl) fun g q s k l=>tv ?_))
  have o:=k.ownBox (T:=(Ty.slice PartT)) (E:=49) (n:=1) (xs:=[x1]) (i:=0) rfl (Rows.cons (c:=[sL o_x1 x1 c_x1]) (sliceRep (hx_x1)) rfl) rfl (by decide)
  refine c_t [] [4] l .nil fun k f=>c_ret (r_then (c_rt [] (.slice (some ⟨g,0,none⟩) 1 1) f .nil ?_))
  obtain rfl:=some_eq u
  exact ⟨_,rfl,h,(some ⟨g,0,none⟩),1,zr,rfl,(St.pick 2 [0] o (by kernel_rfl))⟩
 have u:=cond_f m hr
 refine c_skip (n_then (c_sr (p_box (i:=0) (d:=(some 11)) (cs:=[]) (T:=49) (v:=fun f=> .slice (some ⟨f,0,none⟩) 0 0) p t (fun b=>by kernel_rfl) fun f k l g q=>tv ?_)))
 have o:=g.ownBox (T:=(Ty.slice PartT)) (E:=49) (n:=0) (xs:=[]) (i:=0) rfl rfl rfl (by decide)
 obtain ⟨m,f,u⟩:=bind_some u
 obtain ⟨f,g,k,l,p⟩:=SliceR.subV hx_x0 f
 refine c_n 5 [sL f m g] [0,3,11,16] q (.prop k (.prop l .nil)) fun k l=>?_
 obtain ⟨q,k,u⟩:=bind_some u
 refine p_append (T:=(Ty.slice PartT)) (i:=6) (j:=0) (d:=some 17) (o2:=f) (c2:=g) (ys:=m) el26 o l rfl (by kernel_rfl) (SliceR.src p o) k fun g k o l m f=>tv (c_t [] [0,3,5] f .nil fun f t=>c_seq ?_)
 have m:=m.drew
 refine c_regD (rD 12 [8,9,10]) [8,9,10] (fun x=>x=o.drew) rfl ?_
 obtain ⟨q,f,u⟩:=bind_some u
 obtain ⟨g,l,o,k,f,p⟩:=SliceR.getI hx_x0 f
 obtain ⟨f,k,rfl,s⟩:=f
 refine c_E 8 [.pointer (some g),sL f q k,sL o_x1 x1 c_x1] [18,24,25] t (.prop l (.prop o (.cell (m.cell (p 0 _ rfl)) (.cell (m.bx 1 0 rfl rfl) .nil)))) .nil fun g o=>?_
 obtain ⟨g,l,u⟩:=bind_some u
 refine c_call o (f59_ok fuel q x1 g l h _ _ m f k s o_x1 c_x1 hx_x1) ?_
 rintro f p q ⟨t,k,l,y,rfl,m,s⟩ o
 refine ⟨fun e=>absurd e (by decide),?_⟩
 refine p_box (i:=9) (d:=(some 27)) (cs:=[sL k g l]) (T:=49) (v:=fun f=> .slice (some ⟨f,0,none⟩) 1 1) m o (fun b=>by kernel_rfl) fun f o p m q=>⟨fun e=>absurd e (by decide),?_⟩
 have k:=m.ownBox (T:=(Ty.slice PartT)) (E:=49) (n:=1) (xs:=[g]) (i:=0) rfl (Rows.cons (c:=[sL k g l]) (sliceRep (s)) rfl) rfl (by decide)
 obtain ⟨l,m,u⟩:=bind_some u
 refine p_append (T:=(Ty.slice PartT)) (i:=10) (j:=1) (d:=some 28) (o2:=(some ⟨f,0,none⟩)) (c2:=1) (ys:=([g])) el26 k q rfl (by kernel_rfl) (k.ownSrc (j:=0) rfl) m fun f g m o p k=>⟨fun e=>absurd e (by decide),?_⟩
 refine p_qP 1 [] [(4,sL f l g)] [] k (by kernel_rfl) (fun _=> .nil) fun m k=>c_dt (c_ret (c_rt [] (sL f l g) k .nil ?_))
 obtain rfl:=some_eq u
 exact ⟨_,rfl,t,f,g,y,rfl,(St.pick 3 [1] p (by kernel_rfl))⟩
def F102_l1 (x0:List Part):Nat→(List Int)→Int→Option (List Int)
  | 0,_,_=>none
  | n1 + 1,y1,y2 =>
    let k1:(List Int)→Int→Option (List Int):=F102_l1 x0 n1
    (cond (decide (y2<(x0.length:Int))) ((getI x0 y2).bind fun p1=>((appC y1 ([p1.mass])).bind fun d1=>(k1 d1 (w64 (y2 + (1:Int)))))) (some (y1)))
def F102 (fuel:Nat) (x0:List Part):Option (List Int) :=
  (F102_l1 x0 fuel ([]) 0)
set_option maxRecDepth 100000 in
theorem f102_ok (fuel:Nat) (x0:List Part) (r:List Int) (hr:F102 fuel x0=some r) (h:Zone) (L:List Atom) (w:World) (hS:St h L w) (o_x0:Option Addr) (c_x0:Nat) (hx_x0:SliceR PartT h o_x0 c_x0 x0) :
    Calls Tryz.prog 102 #[.agg #[.slice o_x0 x0.length c_x0]] w fun e w'=>∃v,e= .returned v∧(∃h',∃o0:Option Addr,∃c0:Nat,Zone.le h h'∧v= .slice o0 r.length c0∧St h' L w'∧SliceR Ty.int h' o0 c0 r):=by
 refine calls_intro (N:=22) Tryz.func102 (by kernel_rfl) fun a hf=>c_sr (c_box [sL o_x0 x0 c_x0] 49 hS hf fun l q s m f=>tv (c_t [] [1] f .nil fun t g=>(c_sq [] [1,3] g .nil fun u k=>(c_seq (c_sq [] [1,3,4] k .nil fun x o=>(c_block 0 ?_))))))
 have f:=m.ownNil Ty.int 3
 refine c_loop (fun n a w=>∃u:Zone,∃x:List Int,∃q:Int,∃A:Option Addr,∃B:Nat,Zone.le h u∧Fr a 22 [(1,pB l 0),(3,sL A x B),(4,vI q)]∧St u (ownS Ty.int 3 A B x::box l [sL o_x0 x0 c_x0] 49::L) w∧(F102_l1 x0 n x q)=some r) fuel ⟨h,[],0,none,0,zr,o.to,f,hr⟩ ?_
 rintro f g k ⟨u,x,q,A,B,F,l,t,C⟩
 cases f with
 | zero=>cases C
 | succ D =>
 refine c_seq (c_sq [sL o_x0 x0 c_x0] [1,3,4,9] l (.cell (t.bx 1 0 rfl rfl) .nil) fun f z=>(c_if (decide (q<(x0.length:Int))) z (fun y=>?_) (fun y=>?_)))
 ·have p:=cond_t y C
  refine c_skip (n_then (c_seq (c_block 1 (c_reg ?_))))
  obtain ⟨f,g,p⟩:=bind_some p
  obtain ⟨g,k,l,o,rfl,m⟩:=SliceR.getI (SliceR.mono F hx_x0) g
  refine c_n 7 [sL o_x0 x0 c_x0, .pointer (some g),vI f.mass] [1,4,12,18] z (.cell (t.bx 1 0 rfl rfl) (.prop k (.prop l (.cell (t.cell (m 1 _ rfl)) .nil)))) fun g k=>p_box (i:=7) (d:=(some 19)) (cs:=[vI f.mass]) (T:=3) (v:=fun g=> .slice (some ⟨g,0,none⟩) 1 1) t k (fun b=>by kernel_rfl) fun g l m k o=>tv ?_
  have k:=k.ownBox (T:=Ty.int) (E:=3) (n:=1) (xs:=[f.mass]) (i:=0) rfl (Rows.cons (c:=[vI f.mass]) rfl rfl) rfl (by decide)
  obtain ⟨s,l,p⟩:=bind_some p
  refine p_append (T:=Ty.int) (i:=8) (j:=1) (d:=some 20) (o2:=(some ⟨g,0,none⟩)) (c2:=1) (ys:=([f.mass])) el76 k o rfl (by kernel_rfl) (k.ownSrc (j:=0) rfl) l fun g k l m o f=>tv (c_z [] [1,3,4] f .nil fun l f=>n_block (n_then (c_q [] [1,3,4] f .nil fun l f=>(n_then (⟨D,Nat.lt_succ_self D,u,s,(w64 (q + (1:Int))),g,k,F,f.to,(St.drop 1 o),p⟩)))))
 have p:=cond_f y C
 refine c_exit 0 (x_then (x_then (x_block (n_then (c_sq [] [2] z .nil fun g f=>(c_ret ?_))))))
 obtain ⟨g,k,l,m⟩:=t.share (j:=0) rfl
 refine c_rt [] (sL A x B) f .nil ?_
 obtain rfl:=some_eq p
 exact ⟨_,rfl,g,A,B,(zt F k),rfl,(St.drop 2 l),m⟩
end Go.Proofs.YtlmgjjmighajdaaGreat
set_option linter.unusedVariables false
namespace Go.Proofs.YtlmgjjmighajdaaGreat
open Go.Sl Go.Sx
def F84_j1 (k1:Int→Int→Option (List Int)) (y1:Int) (y2:Int):Option (List Int) :=
  (k1 y2 (w64 (y1 + (1:Int))))
def F84_j2 (k1:Int→Int→Option (List Int)) (y3:Int) (y1:Int) (y4:Bool):Option (List Int) :=
  (cond y4 (F84_j1 k1 y1 y1) (F84_j1 k1 y1 y3))
def F84_l4 (k2:(List Bool)→(List Int)→Int→Option (List Int)) (x0:Int) (x1:List Int) (y5:Int) (y6:List Bool) (y7:List Int) (y8:Int):Nat→Int→Int→Option (List Int)
  | 0,_,_=>none
  | n1 + 1,y3,y1 =>
    let k1:Int→Int→Option (List Int):=F84_l4 k2 x0 x1 y5 y6 y7 y8 n1
    (cond (decide (y1<(x1.length:Int))) ((getI y6 y1).bind fun p1=>(cond (!p1) (cond (decide (y3<(0:Int))) (F84_j2 k1 y3 y1 true) ((getI x1 y1).bind fun p2=>((nz y5).bind fun _=>((getI x1 y3).bind fun p3=>((nz y5).bind fun _=>(F84_j2 k1 y3 y1 (decide ((Int.tmod (w64 (x0 * p2)) y5) > (Int.tmod (w64 (x0 * p3)) y5))))))))) (F84_j2 k1 y3 y1 false))) ((getI y6 y3).bind fun p4=>((setI y6 y3 true).bind fun d1=>((getI y7 y3).bind fun p5=>((getI y7 y3).bind fun p6=>((setI y7 y3 (w64 (p5 + (1:Int)))).bind fun d2=>(k2 d1 d2 (w64 (y8 - (1:Int))))))))))
def F84_l3 (fuel:Nat) (x0:Int) (x1:List Int) (y5:Int):Nat→(List Bool)→(List Int)→Int→Option (List Int)
  | 0,_,_,_=>none
  | n2 + 1,y6,y7,y8 =>
    let k2:(List Bool)→(List Int)→Int→Option (List Int):=F84_l3 fuel x0 x1 y5 n2
    (cond (decide (y8 > (0:Int))) (F84_l4 k2 x0 x1 y5 y6 y7 y8 fuel (-1) 0) (some (y7)))
def F84_l2 (fuel:Nat) (x0:Int) (x1:List Int) (y5:Int):Nat→(List Int)→Int→Int→Option (List Int)
  | 0,_,_,_=>none
  | n3 + 1,y9,y10,y11 =>
    let k3:(List Int)→Int→Int→Option (List Int):=F84_l2 fuel x0 x1 y5 n3
    (cond (decide (y11<(x1.length:Int))) ((getI x1 y11).bind fun p7=>((nz y5).bind fun _=>((appC y9 ([(w64 (Int.tdiv (w64 (x0 * p7)) y5))])).bind fun d3=>(k3 d3 (w64 (y10 - (w64 (Int.tdiv (w64 (x0 * p7)) y5)))) (w64 (y11 + (1:Int))))))) ((mkC (x1.length:Int) false).bind fun d4=>(F84_l3 fuel x0 x1 y5 fuel d4 y9 y10)))
def F84_l1 (fuel:Nat) (x0:Int) (x1:List Int):Nat→Int→Int→Option (List Int)
  | 0,_,_=>none
  | n4 + 1,y5,y12 =>
    let k4:Int→Int→Option (List Int):=F84_l1 fuel x0 x1 n4
    (cond (decide (y12<(x1.length:Int))) ((getI x1 y12).bind fun p8=>(k4 (w64 (y5 + p8)) (w64 (y12 + (1:Int))))) (F84_l2 fuel x0 x1 y5 fuel ([]) x0 0))
def F84 (fuel:Nat) (x0:Int) (x1:List Int):Option (List Int) :=
  (F84_l1 fuel x0 x1 fuel 0 0)
set_option maxRecDepth 100000 in
theorem f84_ok (fuel:Nat) (x0:Int) (x1:List Int) (r:List Int) (hr:F84 fuel x0 x1=some r) (h:Zone) (L:List Atom) (w:World) (hS:St h L w) (o_x1:Option Addr) (c_x1:Nat) (hx_x1:SliceR Ty.int h o_x1 c_x1 x1) :
    Calls Tryz.prog 84 #[vI x0, .slice o_x1 x1.length c_x1] w fun e w'=>∃v,e= .returned v∧(∃h',∃o0:Option Addr,∃c0:Nat,Zone.le h h'∧v= .slice o0 r.length c0∧St h' L w'∧SliceR Ty.int h' o0 c0 r):=by
 refine calls_intro (N:=100) Tryz.func84 (by kernel_rfl) fun a hf=>c_sq [] [0,1] hf .nil fun g f=>c_sq [] [0,1,5] f .nil fun g f=>c_seq (c_sq [] [0,1,5,6] f .nil fun g f=>(c_block 0 (c_loop (fun n a w=>∃q:Zone,∃F:Int,∃p:Int,Zone.le h q∧Fr a 100 [(0,vI x0),(1,sL o_x1 x1 c_x1),(5,vI F),(6,vI p)]∧St q (L) w∧(F84_l1 fuel x0 x1 n F p)=some r) fuel ⟨h,0,0,zr,f.to,hS,hr⟩ ?_)))
 rintro f g k ⟨q,F,p,k5,l,A,y⟩
 cases f with
 | zero=>cases y
 | succ z =>
 refine c_seq (c_sq [] [0,1,5,6,17] l .nil fun f t=>(c_if (decide (p<(x1.length:Int))) t (fun s=>?_) (fun s=>?_)))
 ·have m:=cond_t s y
  refine c_skip (n_then (c_seq (c_block 1 ?_)))
  obtain ⟨o,f,m⟩:=bind_some m
  obtain ⟨f,g,k,u,rfl,l⟩:=SliceR.getI (SliceR.mono k5 hx_x1) f
  refine c_q [.pointer (some f),vI o] [0,1,5,6] t (.prop g (.prop k (.cell (A.cell (l 0 _ rfl)) .nil))) fun g f=>n_block (n_then (c_q [] [0,1,5,6] f .nil fun g f=>(n_then (⟨z,Nat.lt_succ_self z,q,(w64 (F + o)),(w64 (p + (1:Int))),k5,f.to,A,m⟩))))
 have m:=cond_f s y
 refine c_exit 0 (x_then (x_then (x_block (n_then (c_sq [] [0,1,5,7] t .nil fun l f=>(c_sq [] [0,1,5,7,8] f .nil fun o g=>(c_seq (c_sq [] [0,1,5,7,8,9] g .nil fun p k=>(c_block 2 ?_)))))))))
 have f:=A.ownNil Ty.int 3
 refine c_loop (fun n a w=>∃u:Zone,∃z:List Int,∃C:Int,∃t:Int,∃Q:Option Addr,∃R:Nat,Zone.le q u∧Fr a 100 [(0,vI x0),(1,sL o_x1 x1 c_x1),(5,vI F),(7,sL Q z R),(8,vI C),(9,vI t)]∧St u (ownS Ty.int 3 Q R z::L) w∧(F84_l2 fuel x0 x1 F n z C t)=some r) fuel ⟨q,[],x0,0,none,0,zr,k.to,f,m⟩ ?_
 rintro f g k ⟨u,z,C,t,Q,R,k6,l,H,y⟩
 cases f with
 | zero=>cases y
 | succ G =>
 refine c_seq (c_sq [] [0,1,5,7,8,9,30] l .nil fun f D=>(c_if (decide (t<(x1.length:Int))) D (fun B=>?_) (fun B=>?_)))
 ·have m:=cond_t B y
  refine c_skip (n_then (c_seq (c_block 3 ?_)))
  obtain ⟨k,f,m⟩:=bind_some m
  obtain ⟨g,l,o,f,rfl,p⟩:=SliceR.getI (SliceR.mono (zt k5 k6) hx_x1) f
  obtain ⟨q,f,m⟩:=bind_some m
  refine c_sq [.pointer (some g),vI k] [0,1,5,7,8,9,10] D (.prop l (.prop o (.cell (H.cell (p 0 _ rfl)) (.prop (nz_spec f) .nil)))) fun g f=>c_sr (c_n 2 [] [0,1,5,8,9,10,41,42] f .nil fun o f=>(p_box (i:=2) (d:=(some 43)) (cs:=[vI (w64 (Int.tdiv (w64 (x0 * k)) F))]) (T:=3) (v:=fun g=> .slice (some ⟨g,0,none⟩) 1 1) H f (fun b=>by kernel_rfl) fun g p q l s=>tv ?_))
  have f:=l.ownBox (T:=Ty.int) (E:=3) (n:=1) (xs:=[(w64 (Int.tdiv (w64 (x0 * k)) F))]) (i:=0) rfl (Rows.cons (c:=[vI (w64 (Int.tdiv (w64 (x0 * k)) F))]) rfl rfl) rfl (by decide)
  obtain ⟨A,l,m⟩:=bind_some m
  refine p_append (T:=Ty.int) (i:=3) (j:=1) (d:=some 44) (o2:=(some ⟨g,0,none⟩)) (c2:=1) (ys:=([(w64 (Int.tdiv (w64 (x0 * k)) F))])) el76 f s rfl (by kernel_rfl) (f.ownSrc (j:=0) rfl) l fun o p g l q f=>tv (c_t [] [0,1,5,7,8,9,10] f .nil fun g f=>c_q [] [0,1,5,7,8,9] f .nil fun g f=>n_block (n_then (c_q [] [0,1,5,7,8,9] f .nil fun g f=>(n_then (⟨G,Nat.lt_succ_self G,u,A,(w64 (C - (w64 (Int.tdiv (w64 (x0 * k)) F)))),(w64 (t + (1:Int))),o,p,k6,f.to,(St.drop 1 q),m⟩)))))
 have m:=cond_f B y
 refine c_exit 2 (x_then (x_then (x_block (n_then (c_sr (c_n 2 [] [0,1,5,7,8,49] D .nil fun f g=>?_))))))
 obtain ⟨M,f,m⟩:=bind_some m
 refine p_make (T:=Ty.bool) (i:=2) (d:=some 50) (x0:=false) el126 H g (by kernel_rfl) rfl f fun S g l k f=>tv (c_t [] [0,1,5,7,8,11] f .nil fun f g=>c_seq (c_block 4 (c_loop (fun n a w=>∃l:Zone,∃f:List Bool,∃I:List Int,∃K:Int,Zone.le u l∧Fr a 100 [(0,vI x0),(1,sL o_x1 x1 c_x1),(5,vI F),(7,sL Q I R),(8,vI K),(11,sL (some S) f M.length)]∧St l (ownS Ty.bool 4 (some S) M.length f::ownS Ty.int 3 Q R I::L) w∧f.length=M.length∧I.length=z.length∧(F84_l3 fuel x0 x1 F n f I K)=some r) fuel ⟨u,M,z,C,zr,g.to,k,rfl,rfl,m⟩ ?_)))
 rintro g k o ⟨l,f,I,K,k7,p,a7,a8,a9,a6⟩
 cases g with
 | zero=>cases a6
 | succ n2 =>
 refine c_seq (c_sq [] [0,1,5,7,8,11,52] p .nil fun g a5=>(c_if (decide (K > (0:Int))) a5 (fun a4=>?_) (fun a4=>?_)))
 ·have m:=cond_t a4 a6
  refine c_skip (n_then (c_block 5 (c_sq [] [0,1,5,7,8,11,12] a5 .nil fun o g=>(c_seq (c_sq [] [0,1,5,7,8,11,12,13] g .nil fun p k=>(c_block 6 (c_loop (fun n a w=>∃U:Zone,∃J:Int,∃G:Int,Zone.le l U∧Fr a 100 [(0,vI x0),(1,sL o_x1 x1 c_x1),(5,vI F),(7,sL Q I R),(8,vI K),(11,sL (some S) f M.length),(12,vI J),(13,vI G)]∧St U (ownS Ty.bool 4 (some S) M.length f::ownS Ty.int 3 Q R I::L) w∧(F84_l4 (F84_l3 fuel x0 x1 F n2) x0 x1 F f I K n J G)=some r) fuel ⟨l, -1,0,zr,k.to,a7,m⟩ ?_)))))))
  rintro g k o ⟨U,J,G,k8,l,a3,a1⟩
  cases g with
  | zero=>cases a1
  | succ Z =>
  refine c_seq (c_sq [] [0,1,5,7,8,11,12,13,56] l .nil fun g a2=>(c_if (decide (G<(x1.length:Int))) a2 (fun a0=>?_) (fun a0=>?_)))
  ·have m:=cond_t a0 a1
   refine c_skip (n_then (c_mid (fun a w=>∃X:Zone,∃Y:Int,Zone.le U X∧Fr a 100 [(0,vI x0),(1,sL o_x1 x1 c_x1),(5,vI F),(7,sL Q I R),(8,vI K),(11,sL (some S) f M.length),(12,vI Y),(13,vI G)]∧St X (ownS Ty.bool 4 (some S) M.length f::ownS Ty.int 3 Q R I::L) w∧(F84_j1 (F84_l4 (F84_l3 fuel x0 x1 F n2) x0 x1 F f I K Z) G Y)=some r) ?_ ?_))
   ·skip
    refine c_block 7 (c_mid (fun a w=>∃P:Zone,∃O:Bool,Zone.le U P∧Fr a 100 [(0,vI x0),(1,sL o_x1 x1 c_x1),(5,vI F),(7,sL Q I R),(8,vI K),(11,sL (some S) f M.length),(12,vI J),(13,vI G),(86, .bool O)]∧St P (ownS Ty.bool 4 (some S) M.length f::ownS Ty.int 3 Q R I::L) w∧(F84_j2 (F84_l4 (F84_l3 fuel x0 x1 F n2) x0 x1 F f I K Z) J G O)=some r) ?_ ?_)
    ·skip
     have D:=a3.drew
     refine c_regD (rD 28 []) [] (fun x=>x=o.drew) rfl ?_
     obtain ⟨f,g,W⟩:=bind_some m
     obtain ⟨g,k,l,p,rfl,o⟩:=D.ownGet (j:=0) rfl g
     refine c_E 6 [.pointer (some g), .bool f] [0,1,5,7,8,11,12,13,64] a2 (.prop k (.prop l (.cell (o 0 _ rfl) .nil))) .nil fun g V=>?_
     rcases bft (!f) with u | u
     ·have y:=cond_t u W
      have f:=V.lit 64 u
      refine c_E 3 [] [0,1,5,7,8,11,12,13,64,67] f .nil .nil fun f l=>?_
      rcases bft (decide (J<(0:Int))) with f | f
      ·have m:=cond_t f y
       have g:=l.lit 67 f
       refine c_tE [] [0,1,5,7,8,11,12,13,86] g .nil .nil fun k g=>⟨U,true,zr,g.to,D,m⟩
      have m:=cond_f f y
      have H:=l.lit 67 f
      obtain ⟨s,f,m⟩:=bind_some m
      obtain ⟨z,A,B,f,rfl,C⟩:=SliceR.getI (SliceR.mono (zt (zt (zt k5 k6) k7) k8) hx_x1) f
      obtain ⟨f,t,m⟩:=bind_some m
      obtain ⟨g,f,m⟩:=bind_some m
      obtain ⟨k,l,o,f,rfl,p⟩:=SliceR.getI (SliceR.mono (zt (zt (zt k5 k6) k7) k8) hx_x1) f
      obtain ⟨q,f,m⟩:=bind_some m
      refine c_tE [.pointer (some z),vI s, .pointer (some k),vI g] [0,1,5,7,8,11,12,13,86] H (.prop A (.prop B (.cell (D.cell (C 0 _ rfl)) (.prop (nz_spec t) (.prop l (.prop o (.cell (D.cell (p 0 _ rfl)) (.prop (nz_spec f) .nil)))))))) .nil fun k f=>⟨U,(decide ((Int.tmod (w64 (x0 * s)) F) > (Int.tmod (w64 (x0 * g)) F))),zr,f.to,D,m⟩
     have m:=cond_f u W
     have f:=V.lit 64 u
     refine c_tE [] [0,1,5,7,8,11,12,13,86] f .nil .nil fun g f=>⟨U,false,zr,f.to,D,m⟩
    rintro f g ⟨P,O,o,k,p,m⟩
    refine c_if O k (fun f=>?_) (fun f=>?_)
    ·have y:=cond_t f m
     refine c_q [] [0,1,5,7,8,11,12,13] k .nil fun l g=>n_block (n_then (⟨P,G,o,g.to,p,y⟩))
    have m:=cond_f f m
    refine c_skip (n_block (n_then (⟨P,J,o,k.to,p,m⟩)))
   rintro g k ⟨X,Y,l,f,o,m⟩
   refine c_q [] [0,1,5,7,8,11,12,13] f .nil fun g f=>n_then (⟨Z,Nat.lt_succ_self Z,X,Y,(w64 (G + (1:Int))),(zt k8 l),f.to,o,m⟩)
  have m:=cond_f a0 a1
  refine c_exit 6 (x_then (x_then (x_block (n_then (c_sr ?_)))))
  obtain ⟨g,f,m⟩:=bind_some m
  obtain ⟨g,k,f,l,rfl,o⟩:=a3.ownGet (j:=0) rfl f
  refine c_n 3 [.pointer (some g)] [0,1,5,7,8,11,12,90] a2 (.prop k (.prop f .nil)) fun f l=>?_
  obtain ⟨A,f,m⟩:=bind_some m
  have C:=setI_len f
  refine p_setOwnB (i:=3) (j:=0) (ad:=g) (ix:=J) (x':=true) a3 l rfl k (by kernel_rfl) f fun k l z f=>?_
  have B:=Fr.conv (fl':=[(0,vI x0),(1,sL o_x1 x1 c_x1),(5,vI F),(7,sL Q I R),(8,vI K),(11,sL (some S) A M.length),(12,vI J),(90, .pointer (some (g.add (Int.toNat J * 1))))]) f (by (try unfold sL); rw [C] <;> kernel_rfl)
  refine tv (c_dt (c_sr ?_))
  obtain ⟨o,f,m⟩:=bind_some m
  obtain ⟨l,p,q,f,rfl,s⟩:=z.ownGet (j:=1) rfl f
  obtain ⟨g,f,m⟩:=bind_some m
  obtain ⟨g,k,f,t,rfl,u⟩:=z.ownGet (j:=1) rfl f
  refine c_n 6 [.pointer (some l),vI o, .pointer (some g)] [0,1,5,7,8,11,95,96] B (.prop p (.prop q (.cell (s 0 _ rfl) (.prop k (.prop f .nil))))) fun f p=>?_
  obtain ⟨q,f,m⟩:=bind_some m
  have l:=setI_len f
  refine p_setOwnI (i:=6) (j:=1) (ad:=g) (ix:=J) (x':=(w64 (o + (1:Int)))) z p rfl k (by kernel_rfl) f fun k p s f=>?_
  have f:=Fr.conv (fl':=[(0,vI x0),(1,sL o_x1 x1 c_x1),(5,vI F),(7,sL Q q R),(8,vI K),(11,sL (some S) A M.length),(95,vI (w64 (o + (1:Int)))),(96, .pointer (some (g.add (Int.toNat J * 1))))]) f (by (try unfold sL); rw [l] <;> kernel_rfl)
  refine tv (c_dt (c_q [] [0,1,5,7,8,11] f .nil fun g f=>(n_block (n_then (⟨n2,Nat.lt_succ_self n2,U,A,q,(w64 (K - (1:Int))),(zt k7 k8),f.to,s,(C.symm.trans a8),(l.symm.trans a9),m⟩)))))
 have m:=cond_f a4 a6
 refine c_exit 4 (x_then (x_then (x_block (n_then (c_sq [] [4] a5 .nil fun g f=>(c_ret ?_))))))
 obtain ⟨g,k,l,o⟩:=a7.share (j:=1) rfl
 refine c_rt [] (sL Q I R) f .nil ?_
 obtain rfl:=some_eq m
 exact ⟨_,rfl,g,Q,R,(zt (zt (zt k5 k6) k7) k),rfl,(St.drop 2 l),o⟩
def F83_j1 (k1:(List Part)→(List Part)→Int→Option (List Part×List Part)) (y1:Int) (y2:List Part) (y3:List Part):Option (List Part×List Part) :=
  (k1 y2 y3 (w64 (y1 + (1:Int))))
def F83_j2 (k1:(List Part)→(List Part)→Int→Option (List Part×List Part)) (r1:List Int) (y4:List Part) (y1:Int) (p1:Part) (y5:List Part):Option (List Part×List Part) :=
  ((getI r1 y1).bind fun p2=>(cond (decide (p1.mass > p2)) ((getI r1 y1).bind fun p3=>((appC y4 ([⟨p1.lot,(w64 (p1.mass - p3))⟩])).bind fun d1=>(F83_j1 k1 y1 y5 d1))) (F83_j1 k1 y1 y5 y4)))
def F83_l1 (x0:List Part) (r1:List Int):Nat→(List Part)→(List Part)→Int→Option (List Part×List Part)
  | 0,_,_,_=>none
  | n1 + 1,y6,y4,y1 =>
    let k1:(List Part)→(List Part)→Int→Option (List Part×List Part):=F83_l1 x0 r1 n1
    (cond (decide (y1<(x0.length:Int))) ((getI x0 y1).bind fun p1=>((getI r1 y1).bind fun p4=>(cond (decide (p4 > (0:Int))) ((getI r1 y1).bind fun p5=>((appC y6 ([⟨p1.lot,p5⟩])).bind fun d2=>(F83_j2 k1 r1 y4 y1 p1 d2))) (F83_j2 k1 r1 y4 y1 p1 y6)))) (some (y6,y4)))
def F83 (fuel:Nat) (x0:List Part) (x1:Int):Option (List Part×List Part) :=
  (cond (x1 == (0:Int)) ((appC ([]) x0).bind fun d3=>(some ([],d3))) ((F102 fuel x0).bind fun r2=>((F84 fuel x1 r2).bind fun r1=>(F83_l1 x0 r1 fuel ([]) ([]) 0))))
set_option maxRecDepth 100000 in
theorem f83_ok (fuel:Nat) (x0:List Part) (x1:Int) (r:List Part×List Part) (hr:F83 fuel x0 x1=some r) (h:Zone) (L:List Atom) (w:World) (hS:St h L w) (o_x0:Option Addr) (c_x0:Nat) (hx_x0:SliceR PartT h o_x0 c_x0 x0) :
    Calls Tryz.prog 83 #[.agg #[.slice o_x0 x0.length c_x0],vI x1] w fun e w'=>∃v,e= .returned v∧(∃h',∃o0:Option Addr,∃c0:Nat,∃o1:Option Addr,∃c1:Nat,Zone.le h h'∧v= .tuple #[.agg #[.slice o0 r.1.length c0], .agg #[.slice o1 r.2.length c1]]∧St h' L w'∧SliceR PartT h' o0 c0 r.1∧SliceR PartT h' o1 c1 r.2):=by
 refine calls_intro (N:=78) Tryz.func83 (by kernel_rfl) fun a hf=>c_sr (c_box [sL o_x0 x0 c_x0] 49 hS hf fun X x y f g=>tv (c_box [N0] 49 f g fun Y z A k l=>tv (c_box [N0] 49 k l fun Z B C m o=>tv (c_dt (c_sr (c_box [N0] 49 m o fun S D F p q=>tv (c_dt (c_sr (c_box [N0] 49 p q fun U G H J t=>tv (c_dt (c_seq (c_sq [] [1,2,4,5,6,7,12] t .nil fun I M=>(c_if (x1 == (0:Int)) M (fun K=>?_) (fun K=>?_))))))))))))))
 ·have u:=cond_t K hr
  refine c_sr (c_n 4 [N0,sL o_x0 x0 c_x0] [4,5,6,7,14,16] M (.cell (J.bx 0 0 rfl rfl) (.cell (J.bx 4 0 rfl rfl) .nil)) fun f k=>?_)
  have f:=J.ownNil PartT 53
  obtain ⟨m,g,u⟩:=bind_some u
  refine p_append (T:=PartT) (i:=4) (j:=0) (d:=some 17) (o2:=o_x0) (c2:=c_x0) (ys:=x0) el47 f k rfl (by kernel_rfl) (SliceR.src hx_x0 f) g fun k l o p g f=>tv (c_n 1 [] [4,5,6,7,17,18] f .nil fun o f=>c_st 1 [sL k m l] g f rfl fun g o f p=>tv (c_dt (c_seq ?_)))
  have g:=f.drew
  have f:=Sub.of zr (g.mask (i:=4) rfl)
  refine c_regD (rD 4 [2,3]) [3] _ f (c_S 2 [N0,sL k m l] [4,5,19,20] f p (fun _ s=>(.cell (s.bx 2 0 rfl rfl) (.cell (s.bx 1 0 rfl rfl) .nil))) .nil fun o f=>c_st 4 [N0] g f rfl fun o p f g=>⟨fun _=>Sub.of zr (f.mask (i:=4) rfl),?_⟩)
  have o:=Sub.of zr (f.mask (i:=4) rfl)
  refine c_st 3 [sL k m l] f g rfl fun g o f p=>⟨fun e=>absurd e (by decide),?_⟩
  refine c_dt (c_ret (r_then ?_))
  obtain ⟨g,o,f,q⟩:=f.share (j:=0) rfl
  refine c_rt [N0,sL k m l] (.tuple #[.agg #[N0], .agg #[sL k m l]]) p (.cell (f.bx 4 0 rfl rfl) (.cell (f.bx 3 0 rfl rfl) .nil)) ?_
  obtain rfl:=some_eq u
  exact ⟨_,rfl,g,none,0,k,l,o,rfl,(St.drop 6 f),SliceR.nil' _ _,q⟩
 have u:=cond_f K hr
 refine c_skip (n_then (c_sr (c_n 2 [sL o_x0 x0 c_x0] [2,4,5,6,7,21,22] M (.cell (J.bx 4 0 rfl rfl) .nil) fun f g=>?_)))
 obtain ⟨k,f,u⟩:=bind_some u
 refine c_call g (f102_ok fuel x0 k f h _ _ J o_x0 c_x0 hx_x0) ?_
 rintro f g l ⟨m,o,p,k3,rfl,q,t⟩ x
 refine tv ?_
 obtain ⟨D,f,u⟩:=bind_some u
 refine c_call x (f84_ok fuel x1 k D f m _ _ q o p t) ?_
 rintro g k l ⟨m,e3,q3,k4,rfl,o,a0⟩ f
 refine tv (c_t [] [2,4,5,6,7,8] f .nil fun g f=>c_seq (c_sq [] [2,4,5,6,7,8,9] f .nil fun f g=>(c_block 0 ?_)))
 have f:=o.ownNil PartT 53
 have f:=f.ownNil PartT 53
 refine c_loop (fun n a w=>∃y:Zone,∃J:List Part,∃C:List Part,∃B:Int,∃K:Option Addr,∃M:Nat,∃F:Option Addr,∃G:Nat,Zone.le m y∧Fr a 78 [(2,pB X 0),(4,pB Y 0),(5,pB Z 0),(6,pB S 0),(7,pB U 0),(8,sL e3 D q3),(9,vI B)]∧St y (ownS PartT 53 K M J::ownS PartT 53 F G C::box U [sL F C G] 49::box S [sL K J M] 49::box Z [N0] 49::box Y [N0] 49::box X [sL o_x0 x0 c_x0] 49::L) w∧(F83_l1 x0 D n J C B)=some r) fuel ⟨m,[],[],0,none,0,none,0,zr,g.to,f,u⟩ ?_
 rintro f g k ⟨y,J,C,B,K,M,F,G,W,l,V,a2⟩
 cases f with
 | zero=>cases a2
 | succ n1 =>
 refine c_seq (c_sq [sL o_x0 x0 c_x0] [2,4,5,6,7,8,9,29] l (.cell (V.bx 6 0 rfl rfl) .nil) fun f a3=>(c_if (decide (B<(x0.length:Int))) a3 (fun a1=>?_) (fun a1=>?_)))
 ·have u:=cond_t a1 a2
  refine c_skip (n_then (c_mid (fun a w=>∃z5:Zone,∃y2:List Part,∃y3:List Part,∃e6:Option Addr,∃q6:Nat,∃e7:Option Addr,∃q7:Nat,Zone.le y z5∧Fr a 78 [(2,pB X 0),(4,pB Y 0),(5,pB Z 0),(6,pB S 0),(7,pB U 0),(8,sL e3 D q3),(9,vI B)]∧St z5 (ownS PartT 53 e6 q6 y2::ownS PartT 53 e7 q7 y3::box U [sL e7 y3 q7] 49::box S [sL e6 y2 q6] 49::box Z [N0] 49::box Y [N0] 49::box X [sL o_x0 x0 c_x0] 49::L) w∧(F83_j1 (F83_l1 x0 D n1) B y2 y3)=some r) ?_ ?_))
  ·skip
   refine c_block 1 (c_sr ?_)
   obtain ⟨l,f,u⟩:=bind_some u
   obtain ⟨g,k,m,o,rfl,f⟩:=SliceR.getI (SliceR.mono (zt (zt k3 k4) W) hx_x0) f
   refine c_n 5 [sL o_x0 x0 c_x0, .pointer (some g),vI l.lot,vI l.mass] [2,4,5,6,7,8,9,36] a3 (.cell (V.bx 6 0 rfl rfl) (.prop k (.prop m (.cell (V.cell (f 0 _ rfl)) (.cell (V.cell (f 1 _ rfl)) .nil))))) fun g f=>c_box [vI 0,vI 0] 53 V f fun z k m f g=>tv (c_st 0 [vI l.lot,vI l.mass] f g rfl fun f g H q=>tv (c_dt (c_mid (fun a w=>∃P:Zone,∃I:List Part,∃Q:Option Addr,∃R:Nat,Zone.le y P∧Fr a 78 [(2,pB X 0),(4,pB Y 0),(5,pB Z 0),(6,pB S 0),(7,pB U 0),(8,sL e3 D q3),(9,vI B),(10,pB z 0)]∧St P (box z [vI l.lot,vI l.mass] 53::ownS PartT 53 Q R I::ownS PartT 53 F G C::box U [sL F C G] 49::box S [sL Q I R] 49::box Z [N0] 49::box Y [N0] 49::box X [sL o_x0 x0 c_x0] 49::L) w∧(F83_j2 (F83_l1 x0 D n1) D C B l I)=some r) ?_ ?_)))
   ·skip
    obtain ⟨f,g,O⟩:=bind_some u
    obtain ⟨g,k,m,p,rfl,o⟩:=SliceR.getI (SliceR.mono W a0) g
    refine c_sq [.pointer (some g),vI f] [2,4,5,6,7,8,9,10,41] q (.prop k (.prop m (.cell (H.cell (o 0 _ rfl)) .nil))) fun g A=>c_if (decide (f > (0:Int))) A (fun x=>?_) (fun x=>?_)
    ·have u:=cond_t x O
     have q:=H.drew
     have p:=Sub.of zr q
     refine c_regD (rD 13 [9,10,12]) [10,12] _ p ?_
     obtain ⟨g,f,u⟩:=bind_some u
     obtain ⟨f,k,m,t,rfl,o⟩:=SliceR.getI (SliceR.mono W a0) f
     refine c_S 9 [sL K J M,vI l.lot, .pointer (some f),vI g] [2,4,5,6,7,8,9,10,43,50] p A (fun _ s=>(.cell (s.bx 4 0 rfl rfl) (.cell (s.bx 0 0 rfl rfl) (.prop k (.prop m (.cell (s.cell (o 0 _ rfl)) .nil)))))) .nil fun k f=>p_box (i:=9) (d:=(some 51)) (cs:=[vI l.lot,vI g]) (T:=53) (v:=fun k=> .slice (some ⟨k,0,none⟩) 1 1) q f (fun b=>by kernel_rfl) fun k m o f p=>⟨fun _=>Sub.of zr (St.drop 1 f),?_⟩
     have f:=f.ownBox (T:=PartT) (E:=53) (n:=1) (xs:=[⟨l.lot,g⟩]) (i:=0) rfl (Rows.cons (c:=[vI l.lot,vI g]) rfl rfl) rfl (by decide)
     have m:=Sub.of zr (St.drop 1 f)
     obtain ⟨m,o,u⟩:=bind_some u
     refine p_append (T:=PartT) (i:=10) (j:=2) (d:=some 52) (o2:=(some ⟨k,0,none⟩)) (c2:=1) (ys:=([⟨l.lot,g⟩])) el47 f p rfl (by kernel_rfl) (f.ownSrc (j:=0) rfl) o fun f g p q o k=>⟨fun e=>absurd e (by decide),?_⟩
     refine p_qP 1 [] [(2,pB X 0),(4,pB Y 0),(5,pB Z 0),(6,pB S 0),(7,pB U 0),(8,sL e3 D q3),(9,vI B),(10,pB z 0),(52,sL f m g),(53,pB S 0)] [] k (by kernel_rfl) (fun _=> .nil) fun p k=>c_st 5 [sL f m g] o k rfl fun p q k o=>⟨fun e=>absurd e (by decide),?_⟩
     refine c_dt (⟨y,m,f,g,zr,o.to,(St.drop 1 k),u⟩)
    have u:=cond_f x O
    refine c_skip (n_then (⟨y,J,K,M,zr,A.to,H,u⟩))
   rintro g k ⟨P,I,Q,R,z,q,f,u⟩
   have y:=f.drew
   obtain ⟨f,g,O⟩:=bind_some u
   obtain ⟨g,k,m,p,rfl,o⟩:=SliceR.getI (SliceR.mono (zt W z) a0) g
   refine c_sqD [(0,true),(1,true),(2,true),(3,true),(4,true),(5,true),(6,true)] [] [vI l.mass, .pointer (some g),vI f] [2,4,5,6,7,8,9,10,60] q (.cell (y.bx 0 1 rfl rfl) (.prop k (.prop m (.cell (y.cell (o 0 _ rfl)) .nil)))) .nil fun g A=>c_if (decide (l.mass > f)) A (fun x=>?_) (fun x=>?_)
   ·have u:=cond_t x O
    have q:=y.drew
    have p:=Sub.of zr q
    refine c_regD (rD 16 [12,13,15]) [13,15] _ p ?_
    obtain ⟨g,f,u⟩:=bind_some u
    obtain ⟨f,k,m,t,rfl,o⟩:=SliceR.getI (SliceR.mono (zt W z) a0) f
    refine c_S 12 [sL F C G,vI l.lot,vI l.mass, .pointer (some f),vI g] [2,4,5,6,7,8,9,62,72] p A (fun _ s=>(.cell (s.bx 3 0 rfl rfl) (.cell (s.bx 0 0 rfl rfl) (.cell (s.bx 0 1 rfl rfl) (.prop k (.prop m (.cell (s.cell (o 0 _ rfl)) .nil))))))) .nil fun k f=>p_box (i:=12) (d:=(some 73)) (cs:=[vI l.lot,vI (w64 (l.mass - g))]) (T:=53) (v:=fun k=> .slice (some ⟨k,0,none⟩) 1 1) q f (fun b=>by kernel_rfl) fun k m o f p=>⟨fun _=>Sub.of zr (St.drop 1 f),?_⟩
    have f:=f.ownBox (T:=PartT) (E:=53) (n:=1) (xs:=[⟨l.lot,(w64 (l.mass - g))⟩]) (i:=0) rfl (Rows.cons (c:=[vI l.lot,vI (w64 (l.mass - g))]) rfl rfl) rfl (by decide)
    have m:=Sub.of zr (St.drop 1 f)
    obtain ⟨m,o,u⟩:=bind_some u
    refine p_append (T:=PartT) (i:=13) (j:=3) (d:=some 74) (o2:=(some ⟨k,0,none⟩)) (c2:=1) (ys:=([⟨l.lot,(w64 (l.mass - g))⟩])) el47 f p rfl (by kernel_rfl) (f.ownSrc (j:=0) rfl) o fun f g o p l k=>⟨fun e=>absurd e (by decide),?_⟩
    refine p_qP 1 [] [(2,pB X 0),(4,pB Y 0),(5,pB Z 0),(6,pB S 0),(7,pB U 0),(8,sL e3 D q3),(9,vI B),(74,sL f m g),(75,pB U 0)] [] k (by kernel_rfl) (fun _=> .nil) fun o k=>c_st 4 [sL f m g] l k rfl fun o p k l=>⟨fun e=>absurd e (by decide),?_⟩
    refine c_done (n_block (n_then (⟨P,I,m,Q,R,f,g,z,l.to,(St.drop 2 k),u⟩)))
   have u:=cond_f x O
   refine c_skip (n_block (n_then (⟨P,I,C,Q,R,F,G,z,A.to,(St.drop 1 y),u⟩)))
  rintro g k ⟨z5,y2,y3,e6,q6,e7,q7,l,f,m,u⟩
  refine c_q [] [2,4,5,6,7,8,9] f .nil fun g f=>n_then (⟨n1,Nat.lt_succ_self n1,z5,y2,y3,(w64 (B + (1:Int))),e6,q6,e7,q7,(zt W l),f.to,m,u⟩)
 have u:=cond_f a1 a2
 refine c_exit 0 (x_then (x_then (x_block (n_then (c_seq ?_)))))
 have g:=V.drew
 have f:=Sub.of zr (g.mask (i:=5) rfl)
 refine c_regD (rD 4 [2,3]) [3] _ f (c_S 2 [sL K J M,sL F C G] [4,5,76,77] f a3 (fun _ s=>(.cell (s.bx 3 0 rfl rfl) (.cell (s.bx 2 0 rfl rfl) .nil))) .nil fun k f=>c_st 5 [sL K J M] g f rfl fun k l f g=>⟨fun _=>Sub.of zr (f.mask (i:=5) rfl),?_⟩)
 have k:=Sub.of zr (f.mask (i:=5) rfl)
 refine c_st 4 [sL F C G] f g rfl fun g k f m=>⟨fun e=>absurd e (by decide),?_⟩
 refine c_dt (c_ret ?_)
 obtain ⟨g,o,f,p⟩:=f.share (j:=0) rfl
 obtain ⟨k,g,f,l⟩:=f.share (j:=1) rfl
 refine c_rt [sL K J M,sL F C G] (.tuple #[.agg #[sL K J M], .agg #[sL F C G]]) m (.cell (f.bx 5 0 rfl rfl) (.cell (f.bx 4 0 rfl rfl) .nil)) ?_
 obtain rfl:=some_eq u
 exact ⟨_,rfl,k,K,M,F,G,(zt (zt (zt (zt k3 k4) W) o) g),rfl,(St.drop 7 f),(SliceR.mono g p),l⟩
def F57_j1 (k1:(List (List Part))→(List Part)→Int→Option (List (List Part)×List Part)) (y1:Int) (r1:Int) (r2:List Part) (y2:List (List Part)):Option (List (List Part)×List Part) :=
  (k1 y2 r2 (w64 (y1 - (if r1<y1 then r1 else y1))))
def F57_l1 (fuel:Nat):Nat→(List (List Part))→(List Part)→Int→Option (List (List Part)×List Part)
  | 0,_,_,_=>none
  | n1 + 1,y3,y4,y1 =>
    let k1:(List (List Part))→(List Part)→Int→Option (List (List Part)×List Part):=F57_l1 fuel n1
    (cond (decide (y1 > (0:Int))) ((getI y3 (w64 ((y3.length:Int) - (1:Int)))).bind fun p1=>((F82 fuel p1).bind fun r1=>((F83 fuel p1 (if r1<y1 then r1 else y1)).bind fun r3=>((F59 fuel y4 r3.1).bind fun r2=>((subI y3 0 (w64 ((y3.length:Int) - (1:Int)))).bind fun d1=>(cond (decide ((r3.2.length:Int) > (0:Int))) ((appC d1 ([r3.2])).bind fun d2=>(F57_j1 k1 y1 r1 r2 d2)) (F57_j1 k1 y1 r1 r2 d1))))))) (some (y3,y4)))
def F57 (fuel:Nat) (x0:List (List Part)) (x1:Int):Option (List (List Part)×List Part) :=
  ((appC ([]) x0).bind fun d3=>(F57_l1 fuel fuel d3 ([]) x1))
set_option maxRecDepth 100000 in
theorem f57_ok (fuel:Nat) (x0:List (List Part)) (x1:Int) (r:List (List Part)×List Part) (hr:F57 fuel x0 x1=some r) (h:Zone) (L:List Atom) (w:World) (hS:St h L w) (o_x0:Option Addr) (c_x0:Nat) (hx_x0:SliceR (Ty.slice PartT) h o_x0 c_x0 x0) :
    Calls Tryz.prog 57 #[.slice o_x0 x0.length c_x0,vI x1] w fun e w'=>∃v,e= .returned v∧(∃h',∃o0:Option Addr,∃c0:Nat,∃o1:Option Addr,∃c1:Nat,Zone.le h h'∧v= .tuple #[.slice o0 r.1.length c0, .agg #[.slice o1 r.2.length c1]]∧St h' (ownS (Ty.slice PartT) 49 o0 c0 r.1::L) w'∧SliceR PartT h' o1 c1 r.2):=by
 refine calls_intro (N:=54) Tryz.func57 (by kernel_rfl) fun a hf=>c_sr (c_n 1 [] [0,1] hf .nil fun q g=>(c_box [N0] 49 hS g fun b1 s t k l=>tv (c_dt (c_sr (p_box (i:=0) (d:=(some 12)) (cs:=[]) (T:=49) (v:=fun f=> .slice (some ⟨f,0,none⟩) 0 0) k l (fun b=>by kernel_rfl) fun f u y m o=>tv ?_)))))
 have f:=m.ownBox (T:=(Ty.slice PartT)) (E:=49) (n:=0) (xs:=[]) (i:=0) rfl rfl rfl (by decide)
 refine c_n 1 [] [1,5,12,13] o .nil fun g k=>?_
 obtain ⟨m,g,p⟩:=bind_some hr
 refine p_append (T:=(Ty.slice PartT)) (i:=2) (j:=0) (d:=some 14) (o2:=o_x0) (c2:=c_x0) (ys:=x0) el26 f k rfl (by kernel_rfl) (SliceR.src hx_x0 f) g fun k l o q g f=>tv (c_t [] [1,5,6] f .nil fun o f=>c_sr (c_box [N0] 49 g f fun X o q f g=>tv (c_dt (c_seq (c_block 0 (c_loop (fun n a w=>∃z1:Zone,∃y3:List (List Part),∃O:List Part,∃G:Int,∃Y:Option Addr,∃Z:Nat,∃P:Option Addr,∃Q:Nat,Zone.le h z1∧Fr a 54 [(1,vI G),(5,pB b1 0),(6,sL Y y3 Z),(7,pB X 0)]∧St z1 (box X [sL P O Q] 49::ownS (Ty.slice PartT) 49 Y Z y3::box b1 [N0] 49::L) w∧SliceR PartT z1 P Q O∧(F57_l1 fuel n y3 O G)=some r) fuel ⟨h,m,[],x1,k,l,none,0,zr,g.to,f,SliceR.nil' _ _,p⟩ ?_))))))
 rintro f g a7 ⟨z1,y3,O,G,Y,Z,P,Q,k2,k,a5,a6,a3⟩
 cases f with
 | zero=>cases a3
 | succ n1 =>
 refine c_seq (c_sq [] [1,5,6,7,16] k .nil fun f a4=>(c_if (decide (G > (0:Int))) a4 (fun a2=>?_) (fun a2=>?_)))
 ·have p:=cond_t a2 a3
  refine c_skip (n_then (c_block 1 (c_sr ?_)))
  obtain ⟨H,f,p⟩:=bind_some p
  obtain ⟨g,k,l,o,f,m⟩:=a5.ownGet (j:=1) rfl f
  obtain ⟨t,y,rfl,q⟩:=f
  refine c_n 6 [.pointer (some g),sL t H y] [1,5,6,7,22] a4 (.prop k (.prop l (.cell (m 0 _ rfl) .nil))) fun g f=>c_box [N0] 49 a5 f fun b4 k l f g=>tv (c_st 0 [sL t H y] f g rfl fun k l f g=>tv (c_dt (c_sr (c_n 2 [sL t H y] [1,5,6,7,8,23,24] g (.cell (f.bx 0 0 rfl rfl) .nil) fun g k=>?_))))
  obtain ⟨J,g,p⟩:=bind_some p
  refine c_call k (f82_ok fuel H J g z1 _ _ f t y q) ?_
  rintro g k m ⟨o,k3,rfl,l⟩ f
  refine tv (c_t [] [1,5,6,7,8,9] f .nil fun g f=>c_sr (c_n 2 [sL t H y] [1,5,6,7,9,28,29] f (.cell (l.bx 0 0 rfl rfl) .nil) fun f g=>?_))
  obtain ⟨k,f,p⟩:=bind_some p
  refine c_call g (f83_ok fuel H (if J<G then J else G) k f o _ _ l t y (SliceR.mono k3 q)) ?_
  rintro g l m ⟨u,q,s,A,B,k4,rfl,o,z,a0⟩ f
  refine tv (c_n 3 [] [1,5,6,7,9,31,32] f .nil fun g f=>c_box [N0] 49 o f fun W l m f g=>tv (c_box [N0] 49 f g fun V l m f g=>tv (c_st 1 [sL q k.1 s] f g rfl fun l m f g=>tv (c_st 0 [sL A k.2 B] f g rfl fun l m f g=>tv (c_dt (c_sr (c_n 2 [sL P O Q,sL q k.1 s] [1,5,6,7,9,11,33,34] g (.cell (f.bx 3 0 rfl rfl) (.cell (f.bx 1 0 rfl rfl) .nil)) fun g l=>?_)))))))
  obtain ⟨I,g,p⟩:=bind_some p
  refine c_call l (f59_ok fuel O k.1 I g u _ _ f P Q (SliceR.mono (zt k3 k4) a6) q s z) ?_
  rintro l m o ⟨M,S,U,k5,rfl,f,a1⟩ g
  refine tv (c_st 3 [sL S I U] f g rfl fun f g l m=>tv (c_dt ?_))
  obtain ⟨R,f,K⟩:=bind_some p
  obtain ⟨f,g,z⟩:=l.ownSub (j:=4) rfl f
  refine c_sq [sL Y R Z] [1,5,6,7,9,11] m (.prop f (.prop g .nil)) fun f g=>c_mid (fun a w=>∃C:Zone,∃u:List (List Part),∃D:Option Addr,∃F:Nat,Zone.le M C∧Fr a 54 [(1,vI G),(5,pB b1 0),(6,sL D u F),(7,pB X 0),(9,vI (if J<G then J else G))]∧St C (box V [sL A k.2 B] 49::box W [sL q k.1 s] 49::box b4 [sL t H y] 49::box X [sL S I U] 49::ownS (Ty.slice PartT) 49 D F u::box b1 [N0] 49::L) w∧(F57_j1 (F57_l1 fuel n1) G J I u)=some r) ?_ ?_
  ·skip
   refine c_sq [sL A k.2 B] [1,5,6,7,9,11,44] g (.cell (z.bx 0 0 rfl rfl) .nil) fun f y=>c_if (decide ((k.2.length:Int) > (0:Int))) y (fun m=>?_) (fun m=>?_)
   ·have p:=cond_t m K
    refine c_reg (c_n 2 [sL A k.2 B] [1,5,7,9,45,46] y (.cell (z.bx 0 0 rfl rfl) .nil) fun o f=>(p_box (i:=2) (d:=(some 47)) (cs:=[sL A k.2 B]) (T:=49) (v:=fun g=> .slice (some ⟨g,0,none⟩) 1 1) z f (fun b=>by kernel_rfl) fun g q s l t=>tv ?_))
    have f:=l.ownBox (T:=(Ty.slice PartT)) (E:=49) (n:=1) (xs:=[k.2]) (i:=0) rfl (Rows.cons (c:=[sL A k.2 B]) (sliceRep ((SliceR.mono k5 a0))) rfl) rfl (by decide)
    obtain ⟨o,l,p⟩:=bind_some p
    refine p_append (T:=(Ty.slice PartT)) (i:=3) (j:=5) (d:=some 48) (o2:=(some ⟨g,0,none⟩)) (c2:=1) (ys:=([k.2])) el26 f t rfl (by kernel_rfl) (f.ownSrc (j:=0) rfl) l fun g k q s l f=>tv (c_t [] [1,5,6,7,9] f .nil fun q f=>⟨M,o,g,k,zr,f.to,(St.drop 1 l),p⟩)
   have p:=cond_f m K
   refine c_skip (n_then (⟨M,R,Y,Z,zr,y.to,z,p⟩))
  rintro k l ⟨C,u,D,F,f,g,m,p⟩
  refine c_q [] [1,5,6,7] g .nil fun k g=>n_block (n_then (⟨n1,Nat.lt_succ_self n1,C,u,I,(w64 (G - (if J<G then J else G))),D,F,S,U,(zt (zt (zt (zt k2 k3) k4) k5) f),g.to,(St.drop 3 m),(SliceR.mono f a1),p⟩))
 have p:=cond_f a2 a3
 refine c_exit 0 (x_then (x_then (x_block (n_then (c_seq ?_)))))
 have f:=a5.drew
 refine c_regD (rD 4 [3]) [3] (fun x=>x=a7.drew) rfl (c_E 3 [sL P O Q] [4,5,53] a4 (.cell (f.bx 0 0 rfl rfl) .nil) .nil fun k g=>c_st 2 [sL P O Q] f g rfl fun k l f g=>⟨fun e=>absurd e (by decide),?_⟩)
 refine c_dt (c_ret (c_rt [sL P O Q] (.tuple #[sL Y y3 Z, .agg #[sL P O Q]]) g (.cell (f.bx 2 0 rfl rfl) .nil) ?_))
 obtain rfl:=some_eq p
 exact ⟨_,rfl,z1,Y,Z,P,Q,k2,rfl,(St.pick 3 [1] f (by kernel_rfl)),a6⟩
def F58_j1 (k1:(List (List Part))→(List Part)→Int→Option (List (List Part)×List Part)) (y1:Int) (y2:List (List Part)) (y3:List Part):Option (List (List Part)×List Part) :=
  (k1 y2 y3 (w64 (y1 + (1:Int))))
def F58_j2 (fuel:Nat) (k1:(List (List Part))→(List Part)→Int→Option (List (List Part)×List Part)) (y4:List (List Part)) (y5:List Part) (y1:Int) (y6:List Part) (y7:List Part):Option (List (List Part)×List Part) :=
  ((F59 fuel y5 y6).bind fun r1=>(cond (decide ((y7.length:Int) > (0:Int))) ((appC y4 ([y7])).bind fun d1=>(F58_j1 k1 y1 d1 r1)) (F58_j1 k1 y1 y4 r1)))
def F58_l2 (fuel:Nat) (x0:List (List Part)) (r2:List Int):Nat→(List (List Part))→(List Part)→Int→Option (List (List Part)×List Part)
  | 0,_,_,_=>none
  | n1 + 1,y4,y5,y1 =>
    let k1:(List (List Part))→(List Part)→Int→Option (List (List Part)×List Part):=F58_l2 fuel x0 r2 n1
    (cond (decide (y1<(x0.length:Int))) ((getI x0 y1).bind fun p1=>((getI r2 y1).bind fun p2=>((F83 fuel p1 p2).bind fun r3=>(F58_j2 fuel k1 y4 y5 y1 r3.1 r3.2)))) (some (y4,y5)))
def F58_l1 (fuel:Nat) (x0:List (List Part)) (x1:Int):Nat→(List Int)→Int→Option (List (List Part)×List Part)
  | 0,_,_=>none
  | n2 + 1,y8,y9 =>
    let k2:(List Int)→Int→Option (List (List Part)×List Part):=F58_l1 fuel x0 x1 n2
    (cond (decide (y9<(x0.length:Int))) ((getI x0 y9).bind fun p3=>((F82 fuel p3).bind fun r4=>((appC y8 ([r4])).bind fun d2=>(k2 d2 (w64 (y9 + (1:Int))))))) ((F84 fuel x1 y8).bind fun r2=>(F58_l2 fuel x0 r2 fuel ([]) ([]) 0)))
def F58 (fuel:Nat) (x0:List (List Part)) (x1:Int):Option (List (List Part)×List Part) :=
  (F58_l1 fuel x0 x1 fuel ([]) 0)
set_option maxRecDepth 100000 in
theorem f58_ok (fuel:Nat) (x0:List (List Part)) (x1:Int) (r:List (List Part)×List Part) (hr:F58 fuel x0 x1=some r) (h:Zone) (L:List Atom) (w:World) (hS:St h L w) (o_x0:Option Addr) (c_x0:Nat) (hx_x0:SliceR (Ty.slice PartT) h o_x0 c_x0 x0) :
    Calls Tryz.prog 58 #[.slice o_x0 x0.length c_x0,vI x1] w fun e w'=>∃v,e= .returned v∧(∃h',∃o0:Option Addr,∃c0:Nat,∃o1:Option Addr,∃c1:Nat,Zone.le h h'∧v= .tuple #[.slice o0 r.1.length c0, .agg #[.slice o1 r.2.length c1]]∧St h' (ownS (Ty.slice PartT) 49 o0 c0 r.1::L) w'∧SliceR PartT h' o1 c1 r.2):=by
 refine calls_intro (N:=62) Tryz.func58 (by kernel_rfl) fun a hf=>c_sr (c_n 1 [] [0,1] hf .nil fun p f=>(c_box [N0] 49 hS f fun O q t l g=>tv (c_dt (c_sq [] [0,1,5,6] g .nil fun u k=>(c_seq (c_sq [] [0,1,5,6,7] k .nil fun y m=>(c_block 0 ?_)))))))
 have f:=l.ownNil Ty.int 3
 refine c_loop (fun n a w=>∃u:Zone,∃z:List Int,∃y:Int,∃C:Option Addr,∃D:Nat,Zone.le h u∧Fr a 62 [(0,sL o_x0 x0 c_x0),(1,vI x1),(5,pB O 0),(6,sL C z D),(7,vI y)]∧St u (ownS Ty.int 3 C D z::box O [N0] 49::L) w∧(F58_l1 fuel x0 x1 n z y)=some r) fuel ⟨h,[],0,none,0,zr,m.to,f,hr⟩ ?_
 rintro f g k ⟨u,z,y,C,D,k3,l,F,G⟩
 cases f with
 | zero=>cases G
 | succ H =>
 refine c_seq (c_sq [] [0,1,5,6,7,17] l .nil fun f B=>(c_if (decide (y<(x0.length:Int))) B (fun A=>?_) (fun A=>?_)))
 ·have o:=cond_t A G
  refine c_skip (n_then (c_seq (c_block 1 (c_reg ?_))))
  obtain ⟨q,f,o⟩:=bind_some o
  obtain ⟨g,l,m,k,f,p⟩:=SliceR.getI (SliceR.mono k3 hx_x0) f
  obtain ⟨f,k,rfl,t⟩:=f
  refine c_n 5 [.pointer (some g),sL f q k] [0,1,5,7,20,24] B (.prop l (.prop m (.cell (F.cell (p 0 _ rfl)) .nil))) fun g m=>?_
  obtain ⟨g,l,o⟩:=bind_some o
  refine c_call m (f82_ok fuel q g l u _ _ F f k t) ?_
  rintro f m p ⟨t,u,rfl,k⟩ l
  refine tv (p_box (i:=6) (d:=(some 26)) (cs:=[vI g]) (T:=3) (v:=fun f=> .slice (some ⟨f,0,none⟩) 1 1) k l (fun b=>by kernel_rfl) fun f l m k p=>tv ?_)
  have k:=k.ownBox (T:=Ty.int) (E:=3) (n:=1) (xs:=[g]) (i:=0) rfl (Rows.cons (c:=[vI g]) rfl rfl) rfl (by decide)
  obtain ⟨q,l,o⟩:=bind_some o
  refine p_append (T:=Ty.int) (i:=7) (j:=1) (d:=some 27) (o2:=(some ⟨f,0,none⟩)) (c2:=1) (ys:=([g])) el76 k p rfl (by kernel_rfl) (k.ownSrc (j:=0) rfl) l fun g k l m p f=>tv (c_z [] [0,1,5,6,7] f .nil fun l f=>n_block (n_then (c_q [] [0,1,5,6,7] f .nil fun l f=>(n_then (⟨H,Nat.lt_succ_self H,t,q,(w64 (y + (1:Int))),g,k,(zt k3 u),f.to,(St.drop 1 p),o⟩)))))
 have o:=cond_f A G
 refine c_exit 0 (x_then (x_then (x_block (n_then (c_sr (c_n 2 [] [0,5,28,29] B .nil fun f m=>?_))))))
 obtain ⟨g,k5,k,l⟩:=F.share (j:=0) rfl
 obtain ⟨M,f,o⟩:=bind_some o
 refine c_call m (f84_ok fuel x1 z M f g _ _ k C D l) ?_
 rintro g k l ⟨m,X,Y,k6,rfl,p,z⟩ f
 refine tv (c_t [] [0,5,8] f .nil fun g f=>c_sq [] [0,5,8,9] f .nil fun g f=>c_sr (c_box [N0] 49 p f fun I l p g f=>tv (c_dt (c_seq (c_sq [] [0,5,8,9,10,11] f .nil fun q k=>(c_block 2 ?_))))))
 have f:=g.ownNil (Ty.slice PartT) 49
 refine c_loop (fun n a w=>∃U:Zone,∃J:List (List Part),∃R:List Part,∃K:Int,∃P:Option Addr,∃Q:Nat,∃V:Option Addr,∃W:Nat,Zone.le m U∧Fr a 62 [(0,sL o_x0 x0 c_x0),(5,pB O 0),(8,sL X M Y),(9,sL P J Q),(10,pB I 0),(11,vI K)]∧St U (ownS (Ty.slice PartT) 49 P Q J::box I [sL V R W] 49::emp::box O [N0] 49::L) w∧SliceR PartT U V W R∧(F58_l2 fuel x0 M n J R K)=some r) fuel ⟨m,[],[],0,none,0,none,0,zr,k.to,f,SliceR.nil' _ _,o⟩ ?_
 rintro f g ac ⟨U,J,R,K,P,Q,V,W,k7,k,aa,ab,a8⟩
 cases f with
 | zero=>cases a8
 | succ n1 =>
 refine c_seq (c_sq [] [0,5,8,9,10,11,34] k .nil fun f a9=>(c_if (decide (K<(x0.length:Int))) a9 (fun a7=>?_) (fun a7=>?_)))
 ·have o:=cond_t a7 a8
  refine c_skip (n_then (c_mid (fun a w=>∃z6:Zone,∃y2:List (List Part),∃y3:List Part,∃e7:Option Addr,∃q7:Nat,∃e8:Option Addr,∃q8:Nat,Zone.le U z6∧Fr a 62 [(0,sL o_x0 x0 c_x0),(5,pB O 0),(8,sL X M Y),(9,sL e7 y2 q7),(10,pB I 0),(11,vI K)]∧St z6 (ownS (Ty.slice PartT) 49 e7 q7 y2::box I [sL e8 y3 q8] 49::emp::box O [N0] 49::L) w∧SliceR PartT z6 e8 q8 y3∧(F58_j1 (F58_l2 fuel x0 M n1) K y2 y3)=some r) ?_ ?_))
  ·skip
   refine c_block 3 (c_mid (fun a w=>∃z7:Zone,∃y6:List Part,∃S:List Part,∃b4:Nat,∃b5:Nat,∃e9:Option Addr,∃q9:Nat,∃a2:Option Addr,∃a3:Nat,Zone.le U z7∧Fr a 62 [(0,sL o_x0 x0 c_x0),(5,pB O 0),(8,sL X M Y),(9,sL P J Q),(10,pB I 0),(11,vI K),(12,pB b4 0),(13,pB b5 0)]∧St z7 (box b4 [sL e9 y6 q9] 49::box b5 [sL a2 S a3] 49::ownS (Ty.slice PartT) 49 P Q J::box I [sL V R W] 49::emp::box O [N0] 49::L) w∧SliceR PartT z7 e9 q9 y6∧SliceR PartT z7 a2 a3 S∧(F58_j2 fuel (F58_l2 fuel x0 M n1) J R K y6 S)=some r) ?_ ?_)
   ·skip
    have a4:=aa.drew
    have y:=Sub.of zr a4
    refine w_regB (by kernel_rfl) [8,14,15] (Sub U (ownS (Ty.slice PartT) 49 P Q J::box I [sL V R W] 49::emp::box O [N0] 49::L)) (by kernel_rfl) (k_seg' 8 [(0,true),(1,true),(2,true),(3,true),(4,true),(5,true),(6,true),(7,true)] (by kernel_rfl) (by kernel_rfl) (At.start y) (by kernel_rfl) ?_)
    obtain ⟨p1,f,o⟩:=bind_some o
    obtain ⟨p,q,t,g,f,u⟩:=SliceR.getI (SliceR.mono (zt (zt (zt k3 k5) k6) k7) hx_x0) f
    obtain ⟨a0,a1,rfl,a5⟩:=f
    obtain ⟨Z,f,G⟩:=bind_some o
    obtain ⟨f,g,k,m,rfl,l⟩:=SliceR.getI (SliceR.mono k7 z) f
    refine c_S 8 [.pointer (some p),sL a0 p1 a1, .pointer (some f),vI Z] [0,5,8,9,10,11,41,45] y a9 (fun _ s=>(.prop q (.prop t (.cell (s.cell (u 0 _ rfl)) (.prop g (.prop k (.cell (s.cell (l 0 _ rfl)) .nil))))))) .nil fun f a6=>c_done ?_
    intro f
    refine k_any' 7 [8,12,13] (by kernel_rfl) f (by kernel_rfl) (by kernel_rfl) ((all_cons ?_ (all_cons ?_ (all_cons ?_ all_nil))))
    ·skip
     obtain ⟨m,f,o⟩:=bind_some G
     refine c_call a6 (f83_ok fuel p1 Z m f U _ _ a4 a0 a1 a5) ?_
     rintro f g k ⟨D,t,u,y,z,p,rfl,C,F,H⟩ l
     refine ⟨fun e=>absurd e (by decide),?_⟩
     refine c_done ?_
     intro f
     refine k_seg' 4 [(9,true),(10,true),(11,true)] (by kernel_rfl) (by kernel_rfl) f (by kernel_rfl) (p_qP 3 [] [(0,sL o_x0 x0 c_x0),(5,pB O 0),(8,sL X M Y),(9,sL P J Q),(10,pB I 0),(11,vI K),(47, .agg #[sL t m.1 u]),(48, .agg #[sL y m.2 z])] [] l (by kernel_rfl) (fun _=> .nil) fun f B=>c_done ?_)
     intro f
     refine k_any' 3 [12,13] (by kernel_rfl) f (by kernel_rfl) (by kernel_rfl) ((all_cons ?_ (all_cons ?_ all_nil)))
     ·skip
      refine c_box [N0] 49 C B fun A f k g l=>⟨fun _=>Sub.of p (St.drop 1 g),?_⟩
      refine c_done ?_
      intro f
      refine k_seg' 0 [(13,false),(14,false),(15,false)] (by kernel_rfl) (by kernel_rfl) f (by kernel_rfl) (c_box [N0] 49 g l fun q k l f g=>⟨fun _=>Sub.of p (St.drop 2 f),?_⟩)
      have k:=Sub.of p (St.drop 2 f)
      refine c_st 1 [sL t m.1 u] f g rfl fun k l f g=>⟨fun e=>absurd e (by decide),?_⟩
      refine c_st 0 [sL y m.2 z] f g rfl fun f g k l=>⟨fun e=>absurd e (by decide),?_⟩
      refine c_done ?_
      intro f
      refine k_done' (by kernel_rfl) (by kernel_rfl) (n_then (⟨D,m.1,m.2,A,q,t,u,y,z,p,l.to,(St.pick 2 [1,0] k (by kernel_rfl)),F,H,o⟩))
     skip
     refine c_box [N0] 49 C B fun A f k g l=>⟨fun _=>Sub.of p (St.drop 1 g),?_⟩
     refine c_done ?_
     intro f
     refine k_seg' 0 [(12,false),(14,false),(15,false)] (by kernel_rfl) (by kernel_rfl) f (by kernel_rfl) (c_box [N0] 49 g l fun q k l f g=>⟨fun _=>Sub.of p (St.drop 2 f),?_⟩)
     have k:=Sub.of p (St.drop 2 f)
     refine c_st 0 [sL t m.1 u] f g rfl fun k l f g=>⟨fun e=>absurd e (by decide),?_⟩
     refine c_st 1 [sL y m.2 z] f g rfl fun f g k l=>⟨fun e=>absurd e (by decide),?_⟩
     refine c_done ?_
     intro f
     refine k_done' (by kernel_rfl) (by kernel_rfl) (n_then (⟨D,m.1,m.2,q,A,t,u,y,z,p,l.to,(St.pick 2 [0,1] k (by kernel_rfl)),F,H,o⟩))
    ·skip
     refine c_box [N0] 49 a4 a6 fun F f g A H=>⟨fun _=>Sub.of zr (St.drop 1 A),?_⟩
     refine c_done ?_
     intro f
     have g:=Sub.of zr (St.drop 1 A)
     refine k_seg' 7 [] (by kernel_rfl) (by kernel_rfl) f (by kernel_rfl) (c_done ?_)
     intro f
     refine k_any' 6 [8,13] (by kernel_rfl) f (by kernel_rfl) (by kernel_rfl) ((all_cons ?_ (all_cons ?_ all_nil)))
     ·skip
      obtain ⟨k,f,o⟩:=bind_some G
      refine c_call H (f83_ok fuel p1 Z k f U _ _ A a0 a1 a5) ?_
      rintro f g l ⟨B,p,q,t,u,y,rfl,z,C,D⟩ m
      refine ⟨fun e=>absurd e (by decide),?_⟩
      refine c_done ?_
      intro f
      refine k_seg' 0 [(9,true),(10,true),(11,true),(13,false),(14,false),(15,false)] (by kernel_rfl) (by kernel_rfl) f (by kernel_rfl) (p_qP 3 [] [(0,sL o_x0 x0 c_x0),(5,pB O 0),(8,sL X M Y),(9,sL P J Q),(10,pB I 0),(11,vI K),(12,pB F 0),(47, .agg #[sL p k.1 q]),(48, .agg #[sL t k.2 u])] [] m (by kernel_rfl) (fun _=> .nil) fun g f=>c_box [N0] 49 z f fun z l m f g=>⟨fun _=>Sub.of y (St.drop 2 f),?_⟩)
      have l:=Sub.of y (St.drop 2 f)
      refine c_st 1 [sL p k.1 q] f g rfl fun l m f g=>⟨fun e=>absurd e (by decide),?_⟩
      refine c_st 0 [sL t k.2 u] f g rfl fun f g l m=>⟨fun e=>absurd e (by decide),?_⟩
      refine c_done ?_
      intro f
      refine k_done' (by kernel_rfl) (by kernel_rfl) (n_then (⟨B,k.1,k.2,F,z,p,q,t,u,y,m.to,(St.pick 2 [1,0] l (by kernel_rfl)),C,D,o⟩))
     skip
     refine c_box [N0] 49 A H fun D f g k l=>⟨fun _=>Sub.of zr (St.drop 2 k),?_⟩
     refine c_done ?_
     intro f
     have g:=Sub.of zr (St.drop 2 k)
     refine k_seg' 0 [(8,false),(9,true),(10,true),(11,true),(14,false),(15,false)] (by kernel_rfl) (by kernel_rfl) f (by kernel_rfl) ?_
     obtain ⟨f,g,o⟩:=bind_some G
     refine c_call l (f83_ok fuel p1 Z f g U _ _ k a0 a1 a5) ?_
     rintro k l m ⟨z,p,q,t,u,A,rfl,y,B,C⟩ g
     refine ⟨fun e=>absurd e (by decide),?_⟩
     refine p_qP 3 [] [(0,sL o_x0 x0 c_x0),(5,pB O 0),(8,sL X M Y),(9,sL P J Q),(10,pB I 0),(11,vI K),(12,pB F 0),(13,pB D 0),(47, .agg #[sL p f.1 q]),(48, .agg #[sL t f.2 u])] [] g (by kernel_rfl) (fun _=> .nil) fun k g=>c_st 1 [sL p f.1 q] y g rfl fun l m g k=>⟨fun e=>absurd e (by decide),?_⟩
     refine c_st 0 [sL t f.2 u] g k rfl fun g k l m=>⟨fun e=>absurd e (by decide),?_⟩
     refine c_done ?_
     intro g
     refine k_done' (by kernel_rfl) (by kernel_rfl) (n_then (⟨z,f.1,f.2,F,D,p,q,t,u,A,m.to,(St.pick 2 [1,0] l (by kernel_rfl)),B,C,o⟩))
    skip
    refine c_box [N0] 49 a4 a6 fun F f g A H=>⟨fun _=>Sub.of zr (St.drop 1 A),?_⟩
    refine c_done ?_
    intro f
    have g:=Sub.of zr (St.drop 1 A)
    refine k_seg' 7 [] (by kernel_rfl) (by kernel_rfl) f (by kernel_rfl) (c_done ?_)
    intro f
    refine k_any' 6 [8,12] (by kernel_rfl) f (by kernel_rfl) (by kernel_rfl) ((all_cons ?_ (all_cons ?_ all_nil)))
    ·skip
     obtain ⟨k,f,o⟩:=bind_some G
     refine c_call H (f83_ok fuel p1 Z k f U _ _ A a0 a1 a5) ?_
     rintro f g l ⟨B,p,q,t,u,y,rfl,z,C,D⟩ m
     refine ⟨fun e=>absurd e (by decide),?_⟩
     refine c_done ?_
     intro f
     refine k_seg' 0 [(9,true),(10,true),(11,true),(12,false),(14,false),(15,false)] (by kernel_rfl) (by kernel_rfl) f (by kernel_rfl) (p_qP 3 [] [(0,sL o_x0 x0 c_x0),(5,pB O 0),(8,sL X M Y),(9,sL P J Q),(10,pB I 0),(11,vI K),(13,pB F 0),(47, .agg #[sL p k.1 q]),(48, .agg #[sL t k.2 u])] [] m (by kernel_rfl) (fun _=> .nil) fun g f=>c_box [N0] 49 z f fun z l m f g=>⟨fun _=>Sub.of y (St.drop 2 f),?_⟩)
     have l:=Sub.of y (St.drop 2 f)
     refine c_st 0 [sL p k.1 q] f g rfl fun l m f g=>⟨fun e=>absurd e (by decide),?_⟩
     refine c_st 1 [sL t k.2 u] f g rfl fun f g l m=>⟨fun e=>absurd e (by decide),?_⟩
     refine c_done ?_
     intro f
     refine k_done' (by kernel_rfl) (by kernel_rfl) (n_then (⟨B,k.1,k.2,z,F,p,q,t,u,y,m.to,(St.pick 2 [0,1] l (by kernel_rfl)),C,D,o⟩))
    skip
    refine c_box [N0] 49 A H fun D f g k l=>⟨fun _=>Sub.of zr (St.drop 2 k),?_⟩
    refine c_done ?_
    intro f
    have g:=Sub.of zr (St.drop 2 k)
    refine k_seg' 0 [(8,false),(9,true),(10,true),(11,true),(14,false),(15,false)] (by kernel_rfl) (by kernel_rfl) f (by kernel_rfl) ?_
    obtain ⟨f,g,o⟩:=bind_some G
    refine c_call l (f83_ok fuel p1 Z f g U _ _ k a0 a1 a5) ?_
    rintro k l m ⟨z,p,q,t,u,A,rfl,y,B,C⟩ g
    refine ⟨fun e=>absurd e (by decide),?_⟩
    refine p_qP 3 [] [(0,sL o_x0 x0 c_x0),(5,pB O 0),(8,sL X M Y),(9,sL P J Q),(10,pB I 0),(11,vI K),(12,pB D 0),(13,pB F 0),(47, .agg #[sL p f.1 q]),(48, .agg #[sL t f.2 u])] [] g (by kernel_rfl) (fun _=> .nil) fun k g=>c_st 0 [sL p f.1 q] y g rfl fun l m g k=>⟨fun e=>absurd e (by decide),?_⟩
    refine c_st 1 [sL t f.2 u] g k rfl fun g k l m=>⟨fun e=>absurd e (by decide),?_⟩
    refine c_done ?_
    intro g
    refine k_done' (by kernel_rfl) (by kernel_rfl) (n_then (⟨z,f.1,f.2,D,F,p,q,t,u,A,m.to,(St.pick 2 [0,1] l (by kernel_rfl)),B,C,o⟩))
   rintro k l ⟨z7,y6,S,b4,b5,e9,q9,a2,a3,F,g,f,m,z,o⟩
   refine c_sr (c_n 2 [sL V R W,sL e9 y6 q9] [0,5,8,9,10,11,13,49,50] g (.cell (f.bx 3 0 rfl rfl) (.cell (f.bx 0 0 rfl rfl) .nil)) fun g k=>?_)
   obtain ⟨A,g,G⟩:=bind_some o
   refine c_call k (f59_ok fuel R y6 A g z7 _ _ f V W (SliceR.mono F ab) e9 q9 m) ?_
   rintro k l m ⟨H,B,C,D,rfl,f,I⟩ g
   refine tv (c_st 3 [sL B A C] f g rfl fun g k l f=>tv (c_dt (c_sq [sL a2 S a3] [0,5,8,9,10,11,13,55] f (.cell (l.bx 1 0 rfl rfl) .nil) fun f y=>(c_if (decide ((S.length:Int) > (0:Int))) y (fun m=>?_) (fun m=>?_)))))
   ·have o:=cond_t m G
    refine c_reg (c_n 2 [sL a2 S a3] [0,5,8,10,11,56,57] y (.cell (l.bx 1 0 rfl rfl) .nil) fun p f=>(p_box (i:=2) (d:=(some 58)) (cs:=[sL a2 S a3]) (T:=49) (v:=fun g=> .slice (some ⟨g,0,none⟩) 1 1) l f (fun b=>by kernel_rfl) fun g q t k u=>tv ?_))
    have f:=k.ownBox (T:=(Ty.slice PartT)) (E:=49) (n:=1) (xs:=[S]) (i:=0) rfl (Rows.cons (c:=[sL a2 S a3]) (sliceRep ((SliceR.mono D z))) rfl) rfl (by decide)
    obtain ⟨z,k,o⟩:=bind_some o
    refine p_append (T:=(Ty.slice PartT)) (i:=3) (j:=3) (d:=some 59) (o2:=(some ⟨g,0,none⟩)) (c2:=1) (ys:=([S])) el26 f u rfl (by kernel_rfl) (f.ownSrc (j:=0) rfl) k fun g k p q t f=>tv (c_z [] [0,5,8,9,10,11] f .nil fun p f=>n_block (n_then (⟨H,z,A,g,k,B,C,(zt F D),f.to,(St.drop 3 t),I,o⟩)))
   have o:=cond_f m G
   refine c_skip (n_block (n_then (⟨H,J,A,P,Q,B,C,(zt F D),y.to,(St.drop 2 l),I,o⟩)))
  rintro g k ⟨z6,y2,y3,e7,q7,e8,q8,l,f,m,p,o⟩
  refine c_q [] [0,5,8,9,10,11] f .nil fun g f=>n_then (⟨n1,Nat.lt_succ_self n1,z6,y2,y3,(w64 (K + (1:Int))),e7,q7,e8,q8,(zt k7 l),f.to,m,p,o⟩)
 have o:=cond_f a7 a8
 refine c_exit 2 (x_then (x_then (x_block (n_then (c_seq ?_)))))
 have f:=aa.drew
 refine c_regD (rD 4 [3]) [3] (fun x=>x=ac.drew) rfl (c_E 3 [sL V R W] [4,5,61] a9 (.cell (f.bx 1 0 rfl rfl) .nil) .nil fun k g=>c_st 3 [sL V R W] f g rfl fun k l f g=>⟨fun e=>absurd e (by decide),?_⟩)
 refine c_dt (c_ret (c_rt [sL V R W] (.tuple #[sL P J Q, .agg #[sL V R W]]) g (.cell (f.bx 3 0 rfl rfl) .nil) ?_))
 obtain rfl:=some_eq o
 exact ⟨_,rfl,U,P,Q,V,W,(zt (zt (zt k3 k5) k6) k7),rfl,(St.pick 4 [0] f (by kernel_rfl)),ab⟩
def F22_j2 (y1:List Part) (y2:List Lot) (y3:List (List (List Part))):Option (List Lot×List (List (List Part))×List Part×Int) :=
  (some (y2,y3,y1,0))
def F22_j1 (fuel:Nat) (r1:List Lot×List (List (List Part))) (y4:List (List (List Part))) (y5:List Part):Option (List Lot×List (List (List Part))×List Part×Int) :=
  ((F55 fuel r1.1 y4).bind fun r2=>((appC ([]) y5).bind fun d1=>(F22_j2 d1 r2.1 r2.2)))
def F22 (fuel:Nat) (x0l:List Lot) (x0h:List (List (List Part))) (x1k:Int) (x1o:Int) (x1f:Int) (x1t:Int) (x1m:Int):Option (List Lot×List (List (List Part))×List Part×Int) :=
  ((F54 fuel x0l x0h x1k x1o x1f x1t x1m).bind fun r3=>(cond (r3 != (0:Int)) (some ([],[[],[],[],[],[],[],[],[],[]],[],r3)) ((F55 fuel x0l x0h).bind fun r1=>(cond (x1k == (1:Int)) ((getI r1.2 x1t).bind fun p1=>((F56 fuel p1 ([⟨x1o,x1m⟩])).bind fun r4=>(F22_j1 fuel r1 (r1.2.set (Int.toNat x1t) r4) ([⟨x1o,x1m⟩])))) (cond (x1k == (2:Int)) ((getI r1.2 x1t).bind fun p2=>((appC p2 ([[⟨x1o,x1m⟩]])).bind fun d2=>(F22_j1 fuel r1 (r1.2.set (Int.toNat x1t) d2) ([⟨x1o,x1m⟩])))) (cond (x1k == (3:Int)) ((getI r1.2 x1f).bind fun p3=>((F57 fuel p3 x1m).bind fun r5=>(F22_j1 fuel r1 (r1.2.set (Int.toNat x1f) r5.1) r5.2))) (cond (x1k == (4:Int)) ((getI r1.2 x1f).bind fun p4=>((F57 fuel p4 x1m).bind fun r6=>((getI (r1.2.set (Int.toNat x1f) r6.1) x1t).bind fun p5=>((F56 fuel p5 r6.2).bind fun r7=>(F22_j1 fuel r1 ((r1.2.set (Int.toNat x1f) r6.1).set (Int.toNat x1t) r7) r6.2))))) (cond (x1k == (5:Int)) ((getI r1.2 x1f).bind fun p6=>((F58 fuel p6 x1m).bind fun r8=>(F22_j1 fuel r1 (r1.2.set (Int.toNat x1f) r8.1) r8.2))) (cond (x1k == (6:Int)) ((getI r1.2 x1f).bind fun p7=>((subI p7 0 (w64 ((p7.length:Int) - (2:Int)))).bind fun d3=>((getI p7 (w64 ((p7.length:Int) - (2:Int)))).bind fun p8=>((getI p7 (w64 ((p7.length:Int) - (1:Int)))).bind fun p9=>((appC ([]) d3).bind fun d4=>((F59 fuel p8 p9).bind fun r9=>((appC d4 ([r9])).bind fun d5=>(F22_j1 fuel r1 (r1.2.set (Int.toNat x1f) d5) ([]))))))))) (F22_j1 fuel r1 r1.2 ([])))))))))))
set_option maxRecDepth 100000 in
theorem f22_ok (fuel:Nat) (x0l:List Lot) (x0h:List (List (List Part))) (x1k:Int) (x1o:Int) (x1f:Int) (x1t:Int) (x1m:Int) (r:List Lot×List (List (List Part))×List Part×Int) (hr:F22 fuel x0l x0h x1k x1o x1f x1t x1m=some r) (h:Zone) (L:List Atom) (w:World) (hS:St h L w) (o_x0l:Option Addr) (c_x0l:Nat) (hx_x0l:SliceR LotT h o_x0l c_x0l x0l) (V00 V01 V02 V03 V04 V05 V06 V07 V08:Value) (hx_x0h:(Ty.arr 9 (Ty.slice (Ty.slice PartT))).rep h [V00,V01,V02,V03,V04,V05,V06,V07,V08] x0h) :
    Calls Tryz.prog 22 #[.agg #[.slice o_x0l x0l.length c_x0l,V00,V01,V02,V03,V04,V05,V06,V07,V08], .agg #[vI x1k,vI x1o,vI x1f,vI x1t,vI x1m]] w fun e w'=>∃v,e= .returned v∧(∃h',∃o0:Option Addr,∃c0:Nat,∃v1_0:Value,∃v1_1:Value,∃v1_2:Value,∃v1_3:Value,∃v1_4:Value,∃v1_5:Value,∃v1_6:Value,∃v1_7:Value,∃v1_8:Value,∃o2:Option Addr,∃c2:Nat,Zone.le h h'∧v= .tuple #[.agg #[.slice o0 r.1.length c0,v1_0,v1_1,v1_2,v1_3,v1_4,v1_5,v1_6,v1_7,v1_8], .agg #[.slice o2 r.2.2.1.length c2],vI r.2.2.2]∧St h' L w'∧SliceR LotT h' o0 c0 r.1∧(Ty.arr 9 (Ty.slice (Ty.slice PartT))).rep h' [v1_0,v1_1,v1_2,v1_3,v1_4,v1_5,v1_6,v1_7,v1_8] r.2.1∧SliceR PartT h' o2 c2 r.2.2.1):=by
 refine calls_intro (N:=162) Tryz.func22 (by kernel_rfl) fun a hf=>c_sr (c_box [sL o_x0l x0l c_x0l,V00,V01,V02,V03,V04,V05,V06,V07,V08] 29 hS hf fun b1 z A g l=>tv (c_box [vI x1k,vI x1o,vI x1f,vI x1t,vI x1m] 74 g l fun b2 B C m o=>tv (c_box [N0,N0,N0,N0,N0,N0,N0,N0,N0,N0] 29 m o fun b3 D F p q=>tv (c_box [N0] 49 p q fun b4 G H f t=>tv (c_t [] [2,3,4,5] t .nil fun I u=>(c_sr (c_n 2 [sL o_x0l x0l c_x0l,V00,V01,V02,V03,V04,V05,V06,V07,V08,vI x1k,vI x1o,vI x1f,vI x1t,vI x1m] [2,3,4,5,13,14] u (.cell (f.bx 3 0 rfl rfl) (.cell (f.bx 3 1 rfl rfl) (.cell (f.bx 3 2 rfl rfl) (.cell (f.bx 3 3 rfl rfl) (.cell (f.bx 3 4 rfl rfl) (.cell (f.bx 3 5 rfl rfl) (.cell (f.bx 3 6 rfl rfl) (.cell (f.bx 3 7 rfl rfl) (.cell (f.bx 3 8 rfl rfl) (.cell (f.bx 3 9 rfl rfl) (.cell (f.bx 2 0 rfl rfl) (.cell (f.bx 2 1 rfl rfl) (.cell (f.bx 2 2 rfl rfl) (.cell (f.bx 2 3 rfl rfl) (.cell (f.bx 2 4 rfl rfl) .nil))))))))))))))) fun J y=>?_)))))))
 obtain ⟨z,g,M⟩:=bind_some hr
 refine c_call y (f54_ok fuel x0l x0h x1k x1o x1f x1t x1m z g h _ _ f o_x0l c_x0l hx_x0l V00 V01 V02 V03 V04 V05 V06 V07 V08 (Ty.mono _ zr hx_x0h)) ?_
 rintro l m o ⟨G,k1,rfl,g⟩ f
 refine tv (c_t [] [2,3,4,5,7] f .nil fun l f=>c_seq (c_sq [] [2,3,4,5,7,17] f .nil fun f u=>(c_if (z != (0:Int)) u (fun t=>?_) (fun t=>?_))))
 ·have x:=cond_t t M
  refine c_sr (c_n 3 [] [4,5,18,19,20] u .nil fun y l=>(c_st 1 [N0,N0,N0,N0,N0,N0,N0,N0,N0,N0] g l rfl fun A B m o=>tv (c_st 0 [N0] m o rfl fun C D f p=>tv (c_t [] [4,5,6] p .nil fun F q=>(c_ret (r_then (c_rt [N0,N0,N0,N0,N0,N0,N0,N0,N0,N0,N0] (.tuple #[.agg #[N0,N0,N0,N0,N0,N0,N0,N0,N0,N0], .agg #[N0],vI z]) q (.cell (f.bx 1 0 rfl rfl) (.cell (f.bx 1 1 rfl rfl) (.cell (f.bx 1 2 rfl rfl) (.cell (f.bx 1 3 rfl rfl) (.cell (f.bx 1 4 rfl rfl) (.cell (f.bx 1 5 rfl rfl) (.cell (f.bx 1 6 rfl rfl) (.cell (f.bx 1 7 rfl rfl) (.cell (f.bx 1 8 rfl rfl) (.cell (f.bx 1 9 rfl rfl) (.cell (f.bx 0 0 rfl rfl) .nil))))))))))) ?_)))))))
  obtain rfl:=some_eq x
  exact ⟨_,rfl,G,none,0,N0,N0,N0,N0,N0,N0,N0,N0,N0,none,0,k1,rfl,(St.drop 4 f),SliceR.nil' _ _,⟨rfl,(Rows.cons (c:=[_]) (sliceRep (SliceR.nil' _ _)) (Rows.cons (c:=[_]) (sliceRep (SliceR.nil' _ _)) (Rows.cons (c:=[_]) (sliceRep (SliceR.nil' _ _)) (Rows.cons (c:=[_]) (sliceRep (SliceR.nil' _ _)) (Rows.cons (c:=[_]) (sliceRep (SliceR.nil' _ _)) (Rows.cons (c:=[_]) (sliceRep (SliceR.nil' _ _)) (Rows.cons (c:=[_]) (sliceRep (SliceR.nil' _ _)) (Rows.cons (c:=[_]) (sliceRep (SliceR.nil' _ _)) (Rows.cons (c:=[_]) (sliceRep (SliceR.nil' _ _)) rfl)))))))))⟩,SliceR.nil' _ _⟩
 have x:=cond_f t M
 refine c_skip (n_then (c_sr (c_n 1 [sL o_x0l x0l c_x0l,V00,V01,V02,V03,V04,V05,V06,V07,V08] [3,4,5,21] u (.cell (g.bx 3 0 rfl rfl) (.cell (g.bx 3 1 rfl rfl) (.cell (g.bx 3 2 rfl rfl) (.cell (g.bx 3 3 rfl rfl) (.cell (g.bx 3 4 rfl rfl) (.cell (g.bx 3 5 rfl rfl) (.cell (g.bx 3 6 rfl rfl) (.cell (g.bx 3 7 rfl rfl) (.cell (g.bx 3 8 rfl rfl) (.cell (g.bx 3 9 rfl rfl) .nil)))))))))) fun f l=>?_)))
 obtain ⟨X,f,M⟩:=bind_some x
 refine c_call l (f55_ok fuel x0l x0h X f G _ _ g o_x0l c_x0l (SliceR.mono k1 hx_x0l) V00 V01 V02 V03 V04 V05 V06 V07 V08 (Ty.mono _ k1 hx_x0h)) ?_
 rintro l m o ⟨p,e1,q1,v3,v4,v5,v6,v7,v8,v9,a1,a2,k2,rfl,f,al⟩ g
 refine tv (c_box [N0,N0,N0,N0,N0,N0,N0,N0,N0,N0] 29 f g fun b5 g m f l=>tv ?_)
 have g:=f.ownOnes (j:=1) rfl
 refine p_store_eq (i:=3) (j:=0) (b:=b5) (off:=0) (vs:=[sL e1 X.1 q1,v3,v4,v5,v6,v7,v8,v9,a1,a2]) (cs':=[sL e1 X.1 q1,v3,v4,v5,v6,v7,v8,v9,a1,a2]) f l rfl (by kernel_rfl) g rfl fun l m f g=>tv (c_dt (c_sr (c_n 5 [vI x1o,vI x1m] [3,4,5,8,27] g (.cell (f.bx 4 1 rfl rfl) (.cell (f.bx 4 4 rfl rfl) .nil)) fun m g=>(p_box (i:=5) (d:=(some 28)) (cs:=[vI x1o,vI x1m]) (T:=53) (v:=fun b6=> .slice (some ⟨b6,0,none⟩) 1 1) f g (fun b=>by kernel_rfl) fun b6 o p f l=>tv ?_))))
 have g:=f.ownBox (T:=PartT) (E:=53) (n:=1) (xs:=[⟨x1o,x1m⟩]) (i:=0) rfl (Rows.cons (c:=[vI x1o,vI x1m]) rfl rfl) rfl (by decide)
 refine c_n 1 [] [3,4,5,8,29] l .nil fun l f=>c_box [N0] 49 g f fun b7 l m f g=>tv (c_st 0 [.slice (some ⟨b6,0,none⟩) 1 1] f g rfl fun l m f g=>tv (c_dt (c_sr (c_box [N0] 49 f g fun b8 g l f m=>tv (c_dt ?_)))))
 obtain ⟨z3,k3,a5,Q⟩:=f.share (j:=2) rfl
 refine c_mid (fun a w=>∃z4:Zone,∃y4:List (List (List Part)),∃y5:List Part,∃ac:Value,∃ad:Value,∃ae:Value,∃af:Value,∃ag:Value,∃ah:Value,∃ai:Value,∃aj:Value,∃ak:Value,∃e2:Option Addr,∃q2:Nat,Zone.le z3 z4∧Fr a 162 [(4,pB b3 0),(5,pB b4 0),(8,pB b5 0),(10,pB b8 0)]∧St z4 (box b8 [sL e2 y5 q2] 49::box b7 [.slice (some ⟨b6,0,none⟩) 1 1] 49::emp::box b5 [sL e1 X.1 q1,ac,ad,ae,af,ag,ah,ai,aj,ak] 29::ownA (Ty.slice PartT) 49 [ac,ad,ae,af,ag,ah,ai,aj,ak] y4::box b4 [N0] 49::box b3 [N0,N0,N0,N0,N0,N0,N0,N0,N0,N0] 29::box b2 [vI x1k,vI x1o,vI x1f,vI x1t,vI x1m] 74::box b1 [sL o_x0l x0l c_x0l,V00,V01,V02,V03,V04,V05,V06,V07,V08] 29::L) w∧SliceR PartT z4 e2 q2 y5∧(F22_j1 fuel X y4 y5)=some r) ?_ ?_
 ·skip
  refine c_sq [vI x1k] [3,4,5,8,9,10,31] m (.cell (a5.bx 7 0 rfl rfl) .nil) fun g f=>c_block 0 (c_sq [] [3,4,5,8,9,10,31,32] f .nil fun f O=>(c_if (x1k == (1:Int)) O (fun J=>?_) (fun J=>?_)))
  ·have x:=cond_t J M
   refine c_seq ?_
   obtain ⟨z,K,x⟩:=bind_some x
   obtain ⟨t,u,l,o,f⟩:=a5.ownOpen (j:=4) rfl K
   have g:=f.drew
   have f:=Sub.of zr (g.mask (i:=0) rfl)
   refine c_regD [(0,true),(1,true),(2,true),(3,true),(4,true),(5,true),(6,true),(7,true),(9,true),(8,false),(10,true),(11,false)] [11] _ f (c_S 9 [vI x1t,vI x1t,sL t z u, .slice (some ⟨b6,0,none⟩) 1 1] [4,5,8,9,10,35,40,41,43] f O (fun _ s=>(.cell (s.bx 8 3 rfl rfl) (.cell (s.bx 8 3 rfl rfl) (.prop o (.cell ((arrAddr b5 1 (Int.toNat x1t)) ▸ (s.box (i:=4) rfl (getElem?_app_right [sL e1 X.1 q1] _ _ l []))) (.cell (s.bx 2 0 rfl rfl) .nil)))))) .nil fun f p=>?_)
   obtain ⟨g,y,l,m⟩:=g.share (j:=0) rfl
   obtain ⟨q,f,x⟩:=bind_some x
   refine c_call p (f56_ok fuel z ([⟨x1o,x1m⟩]) q f g _ _ l t u m (some ⟨b6,0,none⟩) 1 (SliceR.mono y Q)) ?_
   rintro g p t ⟨P,l,m,z,rfl,f⟩ u
   refine ⟨fun _=>Sub.of (zt y z) ((St.drop 1 f).mask (i:=0) rfl),?_⟩
   have g:=Sub.of (zt y z) ((St.drop 1 f).mask (i:=0) rfl)
   refine c_S 1 [] [4,5,8,9,10,42,44] g u (fun _ s=>(.prop o .nil)) .nil fun p g=>p_storeA (i:=11) (j:=5) (b:=b5) (ix:=x1t) (pre:=[sL e1 X.1 q1]) (vs:=[v3,v4,v5,v6,v7,v8,v9,a1,a2]) (post:=[]) (v:=sL l q m) f g rfl (by have z7:=o.1; have S:=o.2; simp at S ⊢; omega) (by kernel_rfl) rfl fun g p f I=>⟨fun e=>absurd e (by decide),?_⟩
   obtain ⟨t,u,A,B,C,D,F,G,H,g⟩:=nine (vs:=[v3,v4,v5,v6,v7,v8,v9,a1,a2].set (Int.toNat x1t) (sL l q m)) (by simp)
   rw [g] at f
   have l:[t,u,A,B,C,D,F,G,H][Int.toNat x1t]? =some (sL l q m):=by rw [← g]; exact List.getElem?_set_self (by have z7:=o.1; have S:=o.2; simp at S ⊢; omega)
   have f:=f
   refine c_done ?_
   have f:=f.ownClose (j:=6) (k:=0) rfl rfl (by decide) (List.getElem?_eq_some_iff.1 (getI_spec K).2).1
   rw [g] at f
   refine n_then (c_reg (c_n 1 [.slice (some ⟨b6,0,none⟩) 1 1] [4,5,8,10,45] I (.cell (f.bx 3 0 rfl rfl) .nil) fun m g=>(c_st 2 [.slice (some ⟨b6,0,none⟩) 1 1] f g rfl fun o p f l=>tv (c_done (n_block (n_then (⟨P,(X.2.set (Int.toNat x1t) q),[⟨x1o,x1m⟩],t,u,A,B,C,D,F,G,H,(some ⟨b6,0,none⟩),1,(zt y z),l.to,(St.drop 2 f),(SliceR.mono (zt y z) Q),x⟩)))))))
  have M:=cond_f J M
  refine c_sq [] [3,4,5,8,9,10,31,46] O .nil fun f J=>c_if (x1k == (2:Int)) J (fun H=>?_) (fun H=>?_)
  ·have x:=cond_t H M
   refine c_seq ?_
   obtain ⟨q,I,x⟩:=bind_some x
   obtain ⟨g,m,o,p,f⟩:=a5.ownOpen (j:=4) rfl I
   have l:=f.drew
   have f:=Sub.of zr (l.mask (i:=0) rfl)
   refine c_regD [(0,true),(1,true),(2,true),(3,true),(4,true),(5,true),(6,true),(7,true),(10,true),(8,false),(9,false),(11,true),(12,false)] [12] _ f (c_S 9 [vI x1t,vI x1t,sL g q m, .slice (some ⟨b6,0,none⟩) 1 1] [4,5,8,9,10,49,54,55,58] f J (fun _ s=>(.cell (s.bx 8 3 rfl rfl) (.cell (s.bx 8 3 rfl rfl) (.prop p (.cell ((arrAddr b5 1 (Int.toNat x1t)) ▸ (s.box (i:=4) rfl (getElem?_app_right [sL e1 X.1 q1] _ _ o []))) (.cell (s.bx 2 0 rfl rfl) .nil)))))) .nil fun g f=>?_)
   refine p_box (i:=8) (d:=(some 56)) (cs:=[.slice (some ⟨b6,0,none⟩) 1 1]) (T:=49) (v:=fun g=> .slice (some ⟨g,0,none⟩) 1 1) l f (fun b=>by kernel_rfl) fun g l m f o=>⟨fun _=>Sub.of zr ((St.drop 1 f).mask (i:=0) rfl),?_⟩
   have f:=f.ownBox (T:=(Ty.slice PartT)) (E:=49) (n:=1) (xs:=[[⟨x1o,x1m⟩]]) (i:=0) rfl (Rows.cons (c:=[.slice (some ⟨b6,0,none⟩) 1 1]) (sliceRep (Q)) rfl) rfl (by decide)
   have l:=Sub.of zr ((St.drop 1 f).mask (i:=0) rfl)
   obtain ⟨t,l,x⟩:=bind_some x
   refine p_append (T:=(Ty.slice PartT)) (i:=9) (j:=1) (d:=some 57) (o2:=(some ⟨g,0,none⟩)) (c2:=1) (ys:=([[⟨x1o,x1m⟩]])) el26 f o rfl (by kernel_rfl) (f.ownSrc (j:=0) rfl) l fun l m g q f o=>⟨fun _=>Sub.of zr ((St.drop 1 f).mask (i:=0) rfl),?_⟩
   have g:=Sub.of zr ((St.drop 1 f).mask (i:=0) rfl)
   refine c_S 1 [] [4,5,8,9,10,57,59] g o (fun _ s=>(.prop p .nil)) .nil fun o g=>p_storeA (i:=12) (j:=5) (b:=b5) (ix:=x1t) (pre:=[sL e1 X.1 q1]) (vs:=[v3,v4,v5,v6,v7,v8,v9,a1,a2]) (post:=[]) (v:=sL l t m) f g rfl (by have z7:=p.1; have S:=p.2; simp at S ⊢; omega) (by kernel_rfl) rfl fun g o f G=>⟨fun e=>absurd e (by decide),?_⟩
   obtain ⟨q,u,y,z,A,B,C,D,F,g⟩:=nine (vs:=[v3,v4,v5,v6,v7,v8,v9,a1,a2].set (Int.toNat x1t) (sL l t m)) (by simp)
   rw [g] at f
   have l:[q,u,y,z,A,B,C,D,F][Int.toNat x1t]? =some (sL l t m):=by rw [← g]; exact List.getElem?_set_self (by have z7:=p.1; have S:=p.2; simp at S ⊢; omega)
   have f:=f
   refine c_done ?_
   have f:=f.ownClose (j:=6) (k:=1) rfl rfl (by decide) (List.getElem?_eq_some_iff.1 (getI_spec I).2).1
   rw [g] at f
   refine n_then (c_reg (c_n 1 [.slice (some ⟨b6,0,none⟩) 1 1] [4,5,8,10,60] G (.cell (f.bx 3 0 rfl rfl) .nil) fun m g=>(c_st 2 [.slice (some ⟨b6,0,none⟩) 1 1] f g rfl fun o p f l=>tv (c_done (n_block (n_then (⟨z3,(X.2.set (Int.toNat x1t) t),[⟨x1o,x1m⟩],q,u,y,z,A,B,C,D,F,(some ⟨b6,0,none⟩),1,zr,l.to,(St.drop 2 f),Q,x⟩)))))))
  have M:=cond_f H M
  refine c_sq [] [3,4,5,8,10,31,61] J .nil fun f P=>c_if (x1k == (3:Int)) P (fun K=>?_) (fun K=>?_)
  ·have x:=cond_t K M
   obtain ⟨y,O,x⟩:=bind_some x
   obtain ⟨t,u,l,p,f⟩:=a5.ownOpen (j:=4) rfl O
   have g:=f.drew
   have f:=Sub.of zr (g.mask (i:=0) rfl)
   refine c_regD [(0,true),(1,true),(2,true),(3,true),(4,true),(5,true),(6,true),(7,true),(8,true),(13,true),(9,false),(10,true),(11,true),(12,true),(14,true),(15,false),(16,false)] [15,16] _ f (c_S 10 [vI x1f,vI x1f,sL t y u,vI x1m] [4,5,8,10,65,70,72,76] f P (fun _ s=>(.cell (s.bx 8 2 rfl rfl) (.cell (s.bx 8 2 rfl rfl) (.prop p (.cell ((arrAddr b5 1 (Int.toNat x1f)) ▸ (s.box (i:=4) rfl (getElem?_app_right [sL e1 X.1 q1] _ _ l []))) (.cell (s.bx 8 4 rfl rfl) .nil)))))) .nil fun f q=>?_)
   obtain ⟨g,H,m,o⟩:=g.share (j:=0) rfl
   obtain ⟨l,f,x⟩:=bind_some x
   refine c_call q (f57_ok fuel y x1m l f g _ _ m t u o) ?_
   rintro g q t ⟨Q,m,o,I,J,G,rfl,f,R⟩ u
   refine ⟨fun _=>Sub.of (zt H G) ((St.drop 1 f).mask (i:=0) rfl),?_⟩
   have g:=Sub.of (zt H G) ((St.drop 1 f).mask (i:=0) rfl)
   refine c_S 4 [] [4,5,8,10,74,75,77] g u (fun _ s=>(.prop p .nil)) .nil fun q g=>p_storeA (i:=15) (j:=5) (b:=b5) (ix:=x1f) (pre:=[sL e1 X.1 q1]) (vs:=[v3,v4,v5,v6,v7,v8,v9,a1,a2]) (post:=[]) (v:=sL m l.1 o) f g rfl (by have z7:=p.1; have S:=p.2; simp at S ⊢; omega) (by kernel_rfl) rfl fun g q f t=>⟨fun e=>absurd e (by decide),?_⟩
   obtain ⟨q,u,y,z,A,B,C,D,F,g⟩:=nine (vs:=[v3,v4,v5,v6,v7,v8,v9,a1,a2].set (Int.toNat x1f) (sL m l.1 o)) (by simp)
   rw [g] at f
   have m:[q,u,y,z,A,B,C,D,F][Int.toNat x1f]? =some (sL m l.1 o):=by rw [← g]; exact List.getElem?_set_self (by have z7:=p.1; have S:=p.2; simp at S ⊢; omega)
   have f:=f
   refine c_st 2 [sL I l.2 J] f t rfl fun m o f p=>⟨fun e=>absurd e (by decide),?_⟩
   refine c_done ?_
   have f:=f.ownClose (j:=6) (k:=0) rfl rfl (by decide) (List.getElem?_eq_some_iff.1 (getI_spec O).2).1
   rw [g] at f
   refine n_block (n_then (⟨Q,(X.2.set (Int.toNat x1f) l.1),l.2,q,u,y,z,A,B,C,D,F,I,J,(zt H G),p.to,(St.drop 2 f),R,x⟩))
  have M:=cond_f K M
  refine c_sq [] [3,4,5,8,10,31,78] P .nil fun f a0=>c_if (x1k == (4:Int)) a0 (fun Y=>?_) (fun Y=>?_)
  ·have x:=cond_t Y M
   refine c_seq ?_
   obtain ⟨u,y,x⟩:=bind_some x
   obtain ⟨q,t,l,o,f⟩:=a5.ownOpen (j:=4) rfl y
   have g:=f.drew
   have f:=Sub.of zr (g.mask (i:=0) rfl)
   refine c_regD [(0,true),(1,true),(2,true),(3,true),(4,true),(5,true),(6,true),(7,true),(8,true),(13,true),(9,false),(10,true),(11,true),(12,true),(14,true),(15,false),(16,false)] [15,16] _ f (c_S 10 [vI x1f,vI x1f,sL q u t,vI x1m] [3,4,5,8,10,82,87,89,93] f a0 (fun _ s=>(.cell (s.bx 8 2 rfl rfl) (.cell (s.bx 8 2 rfl rfl) (.prop o (.cell ((arrAddr b5 1 (Int.toNat x1f)) ▸ (s.box (i:=4) rfl (getElem?_app_right [sL e1 X.1 q1] _ _ l []))) (.cell (s.bx 8 4 rfl rfl) .nil)))))) .nil fun f p=>?_)
   obtain ⟨g,W,l,m⟩:=g.share (j:=0) rfl
   obtain ⟨H,f,x⟩:=bind_some x
   refine c_call p (f57_ok fuel u x1m H f g _ _ l q t m) ?_
   rintro g p q ⟨t,l,m,Q,R,V,rfl,f,Z⟩ u
   refine ⟨fun _=>Sub.of (zt W V) ((St.drop 1 f).mask (i:=0) rfl),?_⟩
   have g:=Sub.of (zt W V) ((St.drop 1 f).mask (i:=0) rfl)
   refine c_S 4 [] [3,4,5,8,10,91,92,94] g u (fun _ s=>(.prop o .nil)) .nil fun p g=>p_storeA (i:=15) (j:=5) (b:=b5) (ix:=x1f) (pre:=[sL e1 X.1 q1]) (vs:=[v3,v4,v5,v6,v7,v8,v9,a1,a2]) (post:=[]) (v:=sL l H.1 m) f g rfl (by have z7:=o.1; have S:=o.2; simp at S ⊢; omega) (by kernel_rfl) rfl fun g p f q=>⟨fun e=>absurd e (by decide),?_⟩
   obtain ⟨A,B,C,D,F,G,J,K,O,g⟩:=nine (vs:=[v3,v4,v5,v6,v7,v8,v9,a1,a2].set (Int.toNat x1f) (sL l H.1 m)) (by simp)
   rw [g] at f
   have l:[A,B,C,D,F,G,J,K,O][Int.toNat x1f]? =some (sL l H.1 m):=by rw [← g]; exact List.getElem?_set_self (by have z7:=o.1; have S:=o.2; simp at S ⊢; omega)
   have f:=f
   refine c_st 2 [sL Q H.2 R] f q rfl fun l m f p=>⟨fun e=>absurd e (by decide),?_⟩
   refine c_done ?_
   have f:=f.ownClose (j:=6) (k:=0) rfl rfl (by decide) (List.getElem?_eq_some_iff.1 (getI_spec y).2).1
   rw [g] at f
   refine n_then ?_
   obtain ⟨z,P,x⟩:=bind_some x
   obtain ⟨t,u,l,o,f⟩:=f.ownOpen (j:=6) rfl P
   have g:=f.drew
   have f:=Sub.of zr (g.mask (i:=0) rfl)
   refine c_regD [(0,true),(1,true),(2,true),(3,true),(4,true),(5,true),(6,true),(7,true),(9,true),(8,false),(10,true),(11,false)] [11] _ f (c_S 9 [vI x1t,vI x1t,sL t z u,sL Q H.2 R] [4,5,8,10,96,101,102,104] f p (fun _ s=>(.cell (s.bx 10 3 rfl rfl) (.cell (s.bx 10 3 rfl rfl) (.prop o (.cell ((arrAddr b5 1 (Int.toNat x1t)) ▸ (s.box (i:=6) rfl (getElem?_app_right [sL e1 X.1 q1] _ _ l []))) (.cell (s.bx 3 0 rfl rfl) .nil)))))) .nil fun f p=>?_)
   obtain ⟨g,y,l,m⟩:=g.share (j:=0) rfl
   obtain ⟨q,f,x⟩:=bind_some x
   refine c_call p (f56_ok fuel z H.2 q f g _ _ l t u m Q R (SliceR.mono y Z)) ?_
   rintro g p t ⟨U,l,m,z,rfl,f⟩ u
   refine ⟨fun _=>Sub.of (zt y z) ((St.drop 1 f).mask (i:=0) rfl),?_⟩
   have g:=Sub.of (zt y z) ((St.drop 1 f).mask (i:=0) rfl)
   refine c_S 1 [] [4,5,8,10,103,105] g u (fun _ s=>(.prop o .nil)) .nil fun p g=>p_storeA (i:=11) (j:=7) (b:=b5) (ix:=x1t) (pre:=[sL e1 X.1 q1]) (vs:=[A,B,C,D,F,G,J,K,O]) (post:=[]) (v:=sL l q m) f g rfl (by have z7:=o.1; have S:=o.2; simp at S ⊢; omega) (by kernel_rfl) rfl fun g p f I=>⟨fun e=>absurd e (by decide),?_⟩
   obtain ⟨p,t,u,A,B,C,D,F,G,g⟩:=nine (vs:=[A,B,C,D,F,G,J,K,O].set (Int.toNat x1t) (sL l q m)) (by simp)
   rw [g] at f
   have l:[p,t,u,A,B,C,D,F,G][Int.toNat x1t]? =some (sL l q m):=by rw [← g]; exact List.getElem?_set_self (by have z7:=o.1; have S:=o.2; simp at S ⊢; omega)
   have f:=f
   refine c_done ?_
   have f:=f.ownClose (j:=8) (k:=0) rfl rfl (by decide) (List.getElem?_eq_some_iff.1 (getI_spec P).2).1
   rw [g] at f
   refine n_block (n_then (⟨U,((X.2.set (Int.toNat x1f) H.1).set (Int.toNat x1t) q),H.2,p,t,u,A,B,C,D,F,G,Q,R,(zt (zt (zt W V) y) z),I.to,(St.drop 4 f),(SliceR.mono (zt y z) Z),x⟩))
  have M:=cond_f Y M
  refine c_sq [] [3,4,5,8,10,31,106] a0 .nil fun f P=>c_if (x1k == (5:Int)) P (fun K=>?_) (fun K=>?_)
  ·have x:=cond_t K M
   obtain ⟨y,O,x⟩:=bind_some x
   obtain ⟨t,u,l,p,f⟩:=a5.ownOpen (j:=4) rfl O
   have g:=f.drew
   have f:=Sub.of zr (g.mask (i:=0) rfl)
   refine c_regD [(0,true),(1,true),(2,true),(3,true),(4,true),(5,true),(6,true),(7,true),(8,true),(13,true),(9,false),(10,true),(11,true),(12,true),(14,true),(15,false),(16,false)] [15,16] _ f (c_S 10 [vI x1f,vI x1f,sL t y u,vI x1m] [4,5,8,10,110,115,117,121] f P (fun _ s=>(.cell (s.bx 8 2 rfl rfl) (.cell (s.bx 8 2 rfl rfl) (.prop p (.cell ((arrAddr b5 1 (Int.toNat x1f)) ▸ (s.box (i:=4) rfl (getElem?_app_right [sL e1 X.1 q1] _ _ l []))) (.cell (s.bx 8 4 rfl rfl) .nil)))))) .nil fun f q=>?_)
   obtain ⟨g,H,m,o⟩:=g.share (j:=0) rfl
   obtain ⟨l,f,x⟩:=bind_some x
   refine c_call q (f58_ok fuel y x1m l f g _ _ m t u o) ?_
   rintro g q t ⟨Q,m,o,I,J,G,rfl,f,R⟩ u
   refine ⟨fun _=>Sub.of (zt H G) ((St.drop 1 f).mask (i:=0) rfl),?_⟩
   have g:=Sub.of (zt H G) ((St.drop 1 f).mask (i:=0) rfl)
   refine c_S 4 [] [4,5,8,10,119,120,122] g u (fun _ s=>(.prop p .nil)) .nil fun q g=>p_storeA (i:=15) (j:=5) (b:=b5) (ix:=x1f) (pre:=[sL e1 X.1 q1]) (vs:=[v3,v4,v5,v6,v7,v8,v9,a1,a2]) (post:=[]) (v:=sL m l.1 o) f g rfl (by have z7:=p.1; have S:=p.2; simp at S ⊢; omega) (by kernel_rfl) rfl fun g q f t=>⟨fun e=>absurd e (by decide),?_⟩
   obtain ⟨q,u,y,z,A,B,C,D,F,g⟩:=nine (vs:=[v3,v4,v5,v6,v7,v8,v9,a1,a2].set (Int.toNat x1f) (sL m l.1 o)) (by simp)
   rw [g] at f
   have m:[q,u,y,z,A,B,C,D,F][Int.toNat x1f]? =some (sL m l.1 o):=by rw [← g]; exact List.getElem?_set_self (by have z7:=p.1; have S:=p.2; simp at S ⊢; omega)
   have f:=f
   refine c_st 2 [sL I l.2 J] f t rfl fun m o f p=>⟨fun e=>absurd e (by decide),?_⟩
   refine c_done ?_
   have f:=f.ownClose (j:=6) (k:=0) rfl rfl (by decide) (List.getElem?_eq_some_iff.1 (getI_spec O).2).1
   rw [g] at f
   refine n_block (n_then (⟨Q,(X.2.set (Int.toNat x1f) l.1),l.2,q,u,y,z,A,B,C,D,F,I,J,(zt H G),p.to,(St.drop 2 f),R,x⟩))
  have M:=cond_f K M
  refine c_sq [] [3,4,5,8,10,123] P .nil fun f a0=>c_if (x1k == (6:Int)) a0 (fun Z=>?_) (fun Z=>?_)
  ·have x:=cond_t Z M
   obtain ⟨o,a3,x⟩:=bind_some x
   obtain ⟨g,l,m,Q,f⟩:=a5.ownOpen (j:=4) rfl a3
   refine c_sq [vI x1f,sL g o l] [3,4,5,8,10,11] a0 (.cell (f.bx 8 2 rfl rfl) (.prop Q (.cell ((arrAddr b5 1 (Int.toNat x1f)) ▸ (f.box (i:=4) rfl (getElem?_app_right [sL e1 X.1 q1] _ _ m []))) .nil))) fun l g=>?_
   refine c_sq [] [3,4,5,8,10,11,12] g .nil fun g W=>?_
   obtain ⟨Y,a4,f,l⟩:=f.share (j:=0) rfl
   have D:=f.drew
   have B:=Sub.of zr D
   refine c_regD [(0,true),(1,true),(3,true),(4,true),(5,true),(6,true),(8,true),(9,true),(10,true),(11,true),(12,true),(13,true),(14,true),(15,true),(16,true),(17,true),(21,true),(2,false),(7,false),(18,false),(19,false),(20,false),(22,true),(23,false)] [23] _ B ?_
   obtain ⟨O,f,x⟩:=bind_some x
   obtain ⟨F,G,H,I,U⟩:=SliceR.subV l f
   obtain ⟨P,f,x⟩:=bind_some x
   obtain ⟨q,t,u,g,f,y⟩:=SliceR.getI l f
   obtain ⟨J,K,rfl,V⟩:=f
   obtain ⟨C,f,x⟩:=bind_some x
   obtain ⟨g,l,m,p,f,o⟩:=SliceR.getI l f
   obtain ⟨z,A,rfl,R⟩:=f
   refine c_S 17 [vI x1f,sL F O G, .pointer (some q),sL J P K, .pointer (some g),sL z C A] [4,5,8,10,133,138,144,149,153] B W (fun _ s=>(.cell (s.bx 8 2 rfl rfl) (.prop H (.prop I (.prop t (.prop u (.cell (s.cell (y 0 _ rfl)) (.prop l (.prop m (.cell (s.cell (o 0 _ rfl)) .nil)))))))))) .nil fun f g=>p_box (i:=2) (d:=(some 134)) (cs:=[]) (T:=49) (v:=fun f=> .slice (some ⟨f,0,none⟩) 0 0) D g (fun b=>by kernel_rfl) fun f l m g o=>⟨fun _=>Sub.of zr (St.drop 1 g),?_⟩
   have f:=g.ownBox (T:=(Ty.slice PartT)) (E:=49) (n:=0) (xs:=[]) (i:=0) rfl rfl rfl (by decide)
   have g:=Sub.of zr (St.drop 1 f)
   obtain ⟨l,g,x⟩:=bind_some x
   refine p_append (T:=(Ty.slice PartT)) (i:=7) (j:=0) (d:=some 139) (o2:=F) (c2:=G) (ys:=O) el26 f o rfl (by kernel_rfl) (SliceR.src U f) g fun g l m o f p=>⟨fun _=>Sub.of zr (St.drop 1 f),?_⟩
   have g:=Sub.of zr (St.drop 1 f)
   obtain ⟨l,g,x⟩:=bind_some x
   refine c_call p (f59_ok fuel P C l g Y _ _ f J K V z A R) ?_
   rintro g q t ⟨G,m,o,p,rfl,f,y⟩ u
   refine ⟨fun _=>Sub.of p (St.drop 1 f),?_⟩
   have g:=Sub.of p (St.drop 1 f)
   refine p_box (i:=19) (d:=(some 151)) (cs:=[sL m l o]) (T:=49) (v:=fun g=> .slice (some ⟨g,0,none⟩) 1 1) f u (fun b=>by kernel_rfl) fun g q t f u=>⟨fun _=>Sub.of p (St.drop 2 f),?_⟩
   have f:=f.ownBox (T:=(Ty.slice PartT)) (E:=49) (n:=1) (xs:=[l]) (i:=0) rfl (Rows.cons (c:=[sL m l o]) (sliceRep (y)) rfl) rfl (by decide)
   have m:=Sub.of p (St.drop 2 f)
   obtain ⟨t,m,x⟩:=bind_some x
   refine p_append (T:=(Ty.slice PartT)) (i:=20) (j:=1) (d:=some 152) (o2:=(some ⟨g,0,none⟩)) (c2:=1) (ys:=([l])) el26 f u rfl (by kernel_rfl) (f.ownSrc (j:=0) rfl) m fun l m g q f o=>⟨fun _=>Sub.of p (St.drop 2 f),?_⟩
   have g:=Sub.of p (St.drop 2 f)
   refine c_S 1 [] [4,5,8,10,152,154] g o (fun _ s=>(.prop Q .nil)) .nil fun o g=>p_storeA (i:=23) (j:=6) (b:=b5) (ix:=x1f) (pre:=[sL e1 X.1 q1]) (vs:=[v3,v4,v5,v6,v7,v8,v9,a1,a2]) (post:=[]) (v:=sL l t m) f g rfl (by have z7:=Q.1; have S:=Q.2; simp at S ⊢; omega) (by kernel_rfl) rfl fun g o f F=>⟨fun e=>absurd e (by decide),?_⟩
   obtain ⟨o,q,u,y,z,A,B,C,D,g⟩:=nine (vs:=[v3,v4,v5,v6,v7,v8,v9,a1,a2].set (Int.toNat x1f) (sL l t m)) (by simp)
   rw [g] at f
   have l:[o,q,u,y,z,A,B,C,D][Int.toNat x1f]? =some (sL l t m):=by rw [← g]; exact List.getElem?_set_self (by have z7:=Q.1; have S:=Q.2; simp at S ⊢; omega)
   have f:=f
   refine c_done ?_
   have f:=f.ownClose (j:=7) (k:=1) rfl rfl (by decide) (List.getElem?_eq_some_iff.1 (getI_spec a3).2).1
   rw [g] at f
   refine n_block (n_then (⟨G,(X.2.set (Int.toNat x1f) t),[],o,q,u,y,z,A,B,C,D,none,0,(zt a4 p),F.to,(St.drop 3 f),SliceR.nil' _ _,x⟩))
  have x:=cond_f Z M
  refine c_skip (n_block (n_then (⟨z3,X.2,[],v3,v4,v5,v6,v7,v8,v9,a1,a2,none,0,zr,a0.to,a5,SliceR.nil' _ _,x⟩)))
 rintro g l ⟨z4,y4,y5,ac,ad,ae,af,ag,ah,ai,aj,ak,e2,q2,aa,m,f,ab,M⟩
 have f:=f.ownNew (Ty.slice PartT) 49 9
 have f:=f
 refine c_mid (fun a w=>∃a9:Zone,∃Q:List Part,∃R:List Lot,∃y3:List (List (List Part)),∃S:Option Addr,∃U:Nat,∃V:Option Addr,∃W:Nat,∃Y:Value,∃Z:Value,∃a0:Value,∃a1:Value,∃a2:Value,∃a3:Value,∃a4:Value,∃a5:Value,∃a6:Value,Zone.le z4 a9∧Fr a 162 [(4,pB b3 0),(5,pB b4 0),(6,vI 0)]∧St a9 (ownS PartT 53 S U Q::ownA (Ty.slice PartT) 49 [Y,Z,a0,a1,a2,a3,a4,a5,a6] y3::ownA (Ty.slice PartT) 49 [(N0),(N0),(N0),(N0),(N0),(N0),(N0),(N0),(N0)] ([[],[],[],[],[],[],[],[],[]])::box b8 [sL e2 y5 q2] 49::box b7 [.slice (some ⟨b6,0,none⟩) 1 1] 49::emp::box b5 [sL e1 X.1 q1,ac,ad,ae,af,ag,ah,ai,aj,ak] 29::emp::box b4 [sL S Q U] 49::box b3 [sL V R W,Y,Z,a0,a1,a2,a3,a4,a5,a6] 29::box b2 [vI x1k,vI x1o,vI x1f,vI x1t,vI x1m] 74::box b1 [sL o_x0l x0l c_x0l,V00,V01,V02,V03,V04,V05,V06,V07,V08] 29::L) w∧SliceR LotT a9 V W R∧(F22_j2 Q R y3)=some r) ?_ ?_
 ·skip
  have O:=f.drew
  have f:=Sub.of zr (O.mask (i:=5) rfl)
  refine w_regB (by kernel_rfl) [5,7,8] (Sub z4 (ownA (Ty.slice PartT) 49 [(N0),(N0),(N0),(N0),(N0),(N0),(N0),(N0),(N0)] ([[],[],[],[],[],[],[],[],[]])::box b8 [sL e2 y5 q2] 49::box b7 [.slice (some ⟨b6,0,none⟩) 1 1] 49::emp::box b5 [sL e1 X.1 q1,ac,ad,ae,af,ag,ah,ai,aj,ak] 29::anyA::box b4 [N0] 49::box b3 [N0,(N0),(N0),(N0),(N0),(N0),(N0),(N0),(N0),(N0)] 29::box b2 [vI x1k,vI x1o,vI x1f,vI x1t,vI x1m] 74::box b1 [sL o_x0l x0l c_x0l,V00,V01,V02,V03,V04,V05,V06,V07,V08] 29::L)) (by kernel_rfl) (k_seg' 7 [(0,true),(3,true),(4,true)] (by kernel_rfl) (by kernel_rfl) (At.start f) (by kernel_rfl) (c_S 3 [sL e1 X.1 q1,ac,ad,ae,af,ag,ah,ai,aj,ak,sL e2 y5 q2] [4,5,155,159] f m (fun _ s=>(.cell (s.bx 4 0 rfl rfl) (.cell (s.bx 4 1 rfl rfl) (.cell (s.bx 4 2 rfl rfl) (.cell (s.bx 4 3 rfl rfl) (.cell (s.bx 4 4 rfl rfl) (.cell (s.bx 4 5 rfl rfl) (.cell (s.bx 4 6 rfl rfl) (.cell (s.bx 4 7 rfl rfl) (.cell (s.bx 4 8 rfl rfl) (.cell (s.bx 4 9 rfl rfl) (.cell (s.bx 1 0 rfl rfl) .nil)))))))))))) .nil fun f P=>c_done ?_))
  intro f
  refine k_any' 6 [1,2] (by kernel_rfl) f (by kernel_rfl) (by kernel_rfl) ((all_cons ?_ (all_cons ?_ all_nil)))
  ·skip
   obtain ⟨g,o,l,m⟩:=O.ownShareN (j:=5) rfl (n:=9) rfl
   obtain ⟨y,f,x⟩:=bind_some M
   refine c_call P (f55_ok fuel X.1 y4 y f g _ _ l e1 q1 (SliceR.mono (zt (zt k3 aa) o) al) ac ad ae af ag ah ai aj ak (Ty.mono _ zr m)) ?_
   rintro f l m ⟨a7,z,A,B,C,D,F,G,H,I,J,K,t,rfl,g,a8⟩ p
   refine ⟨fun _=>Sub.of (zt o t) ((St.drop 1 g).mask (i:=5) rfl),?_⟩
   refine c_done ?_
   intro f
   have l:=Sub.of (zt o t) ((St.drop 1 g).mask (i:=5) rfl)
   refine k_seg' 0 [(2,false),(5,false),(6,true),(7,false),(8,false),(9,true)] (by kernel_rfl) (by kernel_rfl) f (by kernel_rfl) (p_box (i:=2) (d:=(some 157)) (cs:=[]) (T:=53) (v:=fun f=> .slice (some ⟨f,0,none⟩) 0 0) g p (fun b=>by kernel_rfl) fun f l m g p=>⟨fun _=>Sub.of (zt o t) ((St.drop 2 g).mask (i:=5) rfl),?_⟩)
   have f:=g.ownBox (T:=PartT) (E:=53) (n:=0) (xs:=[]) (i:=0) rfl rfl rfl (by decide)
   have g:=Sub.of (zt o t) ((St.drop 2 f).mask (i:=5) rfl)
   obtain ⟨u,g,x⟩:=bind_some x
   refine p_append (T:=PartT) (i:=5) (j:=0) (d:=some 160) (o2:=e2) (c2:=q2) (ys:=y5) el47 f p rfl (by kernel_rfl) (SliceR.src (SliceR.mono (zt o t) ab) f) g fun p q l m f g=>⟨fun e=>absurd e (by decide),?_⟩
   refine p_qP 1 [] [(4,pB b3 0),(5,pB b4 0),(156, .agg #[sL z y.1 A,B,C,D,F,G,H,I,J,K]),(161, .agg #[sL p u q])] [] g (by kernel_rfl) (fun _=> .nil) fun g l=>?_
   have g:=f.ownOnes (j:=1) rfl
   refine p_store_eq (i:=7) (j:=9) (b:=b3) (off:=0) (vs:=[sL z y.1 A,B,C,D,F,G,H,I,J,K]) (cs':=[sL z y.1 A,B,C,D,F,G,H,I,J,K]) f l rfl (by kernel_rfl) g rfl fun l m f g=>⟨fun e=>absurd e (by decide),?_⟩
   refine c_st 8 [sL p u q] f g rfl fun g l m f=>⟨fun e=>absurd e (by decide),?_⟩
   refine p_qP 1 [] [(4,pB b3 0),(5,pB b4 0),(6,vI 0)] [] f (by kernel_rfl) (fun _=> .nil) fun f g=>c_done ?_
   intro f
   refine k_done' (by kernel_rfl) (by kernel_rfl) (n_then (⟨a7,u,y.1,y.2,p,q,z,A,B,C,D,F,G,H,I,J,K,(zt o t),g.to,(St.pick 2 [0,1] m (by kernel_rfl)),a8,x⟩))
  skip
  refine p_box (i:=2) (d:=(some 157)) (cs:=[]) (T:=53) (v:=fun f=> .slice (some ⟨f,0,none⟩) 0 0) O P (fun b=>by kernel_rfl) fun f l m g p=>⟨fun _=>Sub.of zr ((St.drop 1 g).mask (i:=5) rfl),?_⟩
  have g:=g.ownBox (T:=PartT) (E:=53) (n:=0) (xs:=[]) (i:=0) rfl rfl rfl (by decide)
  refine c_done ?_
  intro f
  have l:=Sub.of zr ((St.drop 1 g).mask (i:=5) rfl)
  refine k_seg' 0 [(1,false),(5,false),(6,true),(7,false),(8,false),(9,true)] (by kernel_rfl) (by kernel_rfl) f (by kernel_rfl) ?_
  obtain ⟨g,t,l,m⟩:=g.ownShareN (j:=6) rfl (n:=9) rfl
  obtain ⟨o,f,x⟩:=bind_some M
  refine c_call p (f55_ok fuel X.1 y4 o f g _ _ l e1 q1 (SliceR.mono (zt (zt k3 aa) t) al) ac ad ae af ag ah ai aj ak (Ty.mono _ zr m)) ?_
  rintro g l m ⟨O,u,y,z,A,B,C,D,F,G,H,I,J,rfl,f,P⟩ p
  refine ⟨fun _=>Sub.of (zt t J) ((St.drop 2 f).mask (i:=5) rfl),?_⟩
  have g:=Sub.of (zt t J) ((St.drop 2 f).mask (i:=5) rfl)
  obtain ⟨K,g,x⟩:=bind_some x
  refine p_append (T:=PartT) (i:=5) (j:=1) (d:=some 160) (o2:=e2) (c2:=q2) (ys:=y5) el47 f p rfl (by kernel_rfl) (SliceR.src (SliceR.mono (zt t J) ab) f) g fun p q l m f g=>⟨fun e=>absurd e (by decide),?_⟩
  refine p_qP 1 [] [(4,pB b3 0),(5,pB b4 0),(156, .agg #[sL u o.1 y,z,A,B,C,D,F,G,H,I]),(161, .agg #[sL p K q])] [] g (by kernel_rfl) (fun _=> .nil) fun g l=>?_
  have g:=f.ownOnes (j:=0) rfl
  refine p_store_eq (i:=7) (j:=9) (b:=b3) (off:=0) (vs:=[sL u o.1 y,z,A,B,C,D,F,G,H,I]) (cs':=[sL u o.1 y,z,A,B,C,D,F,G,H,I]) f l rfl (by kernel_rfl) g rfl fun l m f g=>⟨fun e=>absurd e (by decide),?_⟩
  refine c_st 8 [sL p K q] f g rfl fun g l m f=>⟨fun e=>absurd e (by decide),?_⟩
  refine p_qP 1 [] [(4,pB b3 0),(5,pB b4 0),(6,vI 0)] [] f (by kernel_rfl) (fun _=> .nil) fun f g=>c_done ?_
  intro f
  refine k_done' (by kernel_rfl) (by kernel_rfl) (n_then (⟨O,K,o.1,o.2,p,q,u,y,z,A,B,C,D,F,G,H,I,(zt t J),g.to,(St.pick 2 [1,0] m (by kernel_rfl)),P,x⟩))
 rintro g l ⟨a9,Q,R,y3,S,U,V,W,Y,Z,a0,a1,a2,a3,a4,a5,a6,t,p,f,u,x⟩
 refine c_ret ?_
 obtain ⟨g,l,f,q⟩:=f.share (j:=0) rfl
 obtain ⟨m,g,f,o⟩:=f.ownShareN (j:=1) rfl (n:=9) rfl
 refine c_rt [sL V R W,Y,Z,a0,a1,a2,a3,a4,a5,a6,sL S Q U] (.tuple #[.agg #[sL V R W,Y,Z,a0,a1,a2,a3,a4,a5,a6], .agg #[sL S Q U],vI 0]) p (.cell (f.bx 9 0 rfl rfl) (.cell (f.bx 9 1 rfl rfl) (.cell (f.bx 9 2 rfl rfl) (.cell (f.bx 9 3 rfl rfl) (.cell (f.bx 9 4 rfl rfl) (.cell (f.bx 9 5 rfl rfl) (.cell (f.bx 9 6 rfl rfl) (.cell (f.bx 9 7 rfl rfl) (.cell (f.bx 9 8 rfl rfl) (.cell (f.bx 9 9 rfl rfl) (.cell (f.bx 8 0 rfl rfl) .nil))))))))))) ?_
 obtain rfl:=some_eq x
 exact ⟨_,rfl,m,V,W,Y,Z,a0,a1,a2,a3,a4,a5,a6,S,U,(zt (zt (zt (zt (zt (zt k1 k2) k3) aa) t) l) g),rfl,(St.drop 12 f),(SliceR.mono (zt l g) u),(Ty.mono _ zr o),(SliceR.mono g q)⟩
end Go.Proofs.YtlmgjjmighajdaaGreat
