/-
  A part of the walk and of the plain law of one given statement. No condition.
-/
import Derived.Test.YtlmgjjmighajdaaGreatM8
set_option linter.unusedVariables false
namespace Go.Proofs.YtlmgjjmighajdaaGreat
open Go.Sl Go.Sx
def F67_j1 (fuel:Nat) (k1:(List (List (List Bool)))→(List (List Bool))→(List Lot)→(List (List (List Part)))→Int→Option (List (List (List Bool)))) (x1:List Deed) (x2:Int) (y1:List (List (List Bool))) (y2:List (List Bool)) (y3:List Lot) (y4:List (List (List Part))) (y5:Int) (y6:List Lot) (y7:List (List (List Part))):Option (List (List (List Bool))) :=
  ((getI x1 y5).bind fun p1=>((F89 fuel y2 y3 y4 y6 y7 p1.kind p1.lot p1.frm p1.to p1.mass x2).bind fun r1=>((appC y1 ([r1])).bind fun d1=>(k1 d1 r1 y6 y7 (w64 (y5 + (1:Int)))))))
def F67_l1 (fuel:Nat) (x1:List Deed) (x2:Int):Nat→(List (List (List Bool)))→(List (List Bool))→(List Lot)→(List (List (List Part)))→Int→Option (List (List (List Bool)))
  | 0,_,_,_,_,_=>none
  | n1 + 1,y1,y2,y3,y4,y5 =>
    let k1:(List (List (List Bool)))→(List (List Bool))→(List Lot)→(List (List (List Part)))→Int→Option (List (List (List Bool))):=F67_l1 fuel x1 x2 n1
    (cond (decide (y5<(x1.length:Int))) ((getI x1 y5).bind fun p2=>((F22 fuel y3 y4 p2.kind p2.lot p2.frm p2.to p2.mass).bind fun r2=>(F67_j1 fuel k1 x1 x2 y1 y2 y3 y4 y5 r2.1 r2.2.1))) (some (y1)))
def F67 (fuel:Nat) (x0:List Lot) (x1:List Deed) (x2:Int):Option (List (List (List Bool))) :=
  ((appC ([]) x0).bind fun d2=>(F67_l1 fuel x1 x2 fuel ([]) ([[],[],[],[],[],[],[],[],[]]) d2 ([[],[],[],[],[],[],[],[],[]]) 0))
set_option maxRecDepth 100000 in
theorem f67_ok (fuel:Nat) (x0:List Lot) (x1:List Deed) (x2:Int) (r:List (List (List Bool))) (hr:F67 fuel x0 x1 x2=some r) (h:Zone) (L:List Atom) (w:World) (hS:St h L w) (o_x0:Option Addr) (c_x0:Nat) (hx_x0:SliceR LotT h o_x0 c_x0 x0) (o_x1:Option Addr) (c_x1:Nat) (hx_x1:SliceR DeedT h o_x1 c_x1 x1) :
    Calls Tryz.prog 67 #[.slice o_x0 x0.length c_x0, .slice o_x1 x1.length c_x1,vI x2] w fun e w'=>∃v,e= .returned v∧(∃h',∃o0:Option Addr,∃c0:Nat,Zone.le h h'∧v= .slice o0 r.length c0∧St h' L w'∧SliceR (Ty.arr 9 (Ty.slice Ty.bool)) h' o0 c0 r):=by
 refine calls_intro (N:=49) Tryz.func67 (by kernel_rfl) fun a hf=>c_sq [] [0,1,2] hf .nil fun f g=>c_sr (p_box (i:=0) (d:=(some 14)) (cs:=[]) (T:=43) (v:=fun f=> .slice (some ⟨f,0,none⟩) 0 0) hS g (fun b=>by kernel_rfl) fun f l m g k=>tv ?_)
 have f:=g.ownBox (T:=LotT) (E:=43) (n:=0) (xs:=[]) (i:=0) rfl rfl rfl (by decide)
 refine c_n 1 [] [1,2,14,15] k .nil fun g k=>?_
 obtain ⟨y,g,I⟩:=bind_some hr
 refine p_append (T:=LotT) (i:=2) (j:=0) (d:=some 16) (o2:=o_x0) (c2:=c_x0) (ys:=x0) el22 f k rfl (by kernel_rfl) (SliceR.src hx_x0 f) g fun t u k l g f=>tv (c_n 1 [] [1,2,17] f .nil fun k f=>c_box [N0,N0,N0,N0,N0,N0,N0,N0,N0,N0] 29 g f fun Z k l f g=>tv (c_st 0 [sL t y u,N0,N0,N0,N0,N0,N0,N0,N0,N0] f g rfl fun k l f g=>tv (c_dt (c_sr (c_box [N0,N0,N0,N0,N0,N0,N0,N0,N0] 129 f g fun Y l m k f=>tv (c_dt (c_sq [] [1,2,7,8,9] f .nil fun o g=>(c_seq (c_sq [] [1,2,7,8,9,10] g .nil fun p q=>(c_block 0 ?_))))))))))
 obtain ⟨f,k2,g,k⟩:=k.share (j:=2) rfl
 have g:=g.ownNil (Ty.arr 9 (Ty.slice Ty.bool)) 129
 refine c_loop (fun n a w=>∃z2:Zone,∃U:List (List (List Bool)),∃y2:List (List Bool),∃y3:List Lot,∃y4:List (List (List Part)),∃X:Int,∃V:Option Addr,∃W:Nat,∃v1:Value,∃v2:Value,∃v3:Value,∃v4:Value,∃v5:Value,∃v6:Value,∃v7:Value,∃v8:Value,∃v9:Value,∃e3:Option Addr,∃q3:Nat,∃a1:Value,∃a2:Value,∃a3:Value,∃a4:Value,∃a5:Value,∃a6:Value,∃a7:Value,∃a8:Value,∃a9:Value,Zone.le f z2∧Fr a 49 [(1,sL o_x1 x1 c_x1),(2,vI x2),(7,pB Z 0),(8,pB Y 0),(9,sL V U W),(10,vI X)]∧St z2 (ownS (Ty.arr 9 (Ty.slice Ty.bool)) 129 V W U::box Y [v1,v2,v3,v4,v5,v6,v7,v8,v9] 129::box Z [sL e3 y3 q3,a1,a2,a3,a4,a5,a6,a7,a8,a9] 29::emp::L) w∧(Ty.arr 9 (Ty.slice Ty.bool)).rep z2 [v1,v2,v3,v4,v5,v6,v7,v8,v9] y2∧SliceR LotT z2 e3 q3 y3∧(Ty.arr 9 (Ty.slice (Ty.slice PartT))).rep z2 [a1,a2,a3,a4,a5,a6,a7,a8,a9] y4∧(F67_l1 fuel x1 x2 n U y2 y3 y4 X)=some r) fuel ⟨f,[],[[],[],[],[],[],[],[],[],[]],y,[[],[],[],[],[],[],[],[],[]],0,none,0,(N0),(N0),(N0),(N0),(N0),(N0),(N0),(N0),(N0),t,u,(N0),(N0),(N0),(N0),(N0),(N0),(N0),(N0),(N0),zr,q.to,g,⟨rfl,(Rows.cons (c:=[_]) (sliceRep (SliceR.nil' _ _)) (Rows.cons (c:=[_]) (sliceRep (SliceR.nil' _ _)) (Rows.cons (c:=[_]) (sliceRep (SliceR.nil' _ _)) (Rows.cons (c:=[_]) (sliceRep (SliceR.nil' _ _)) (Rows.cons (c:=[_]) (sliceRep (SliceR.nil' _ _)) (Rows.cons (c:=[_]) (sliceRep (SliceR.nil' _ _)) (Rows.cons (c:=[_]) (sliceRep (SliceR.nil' _ _)) (Rows.cons (c:=[_]) (sliceRep (SliceR.nil' _ _)) (Rows.cons (c:=[_]) (sliceRep (SliceR.nil' _ _)) rfl)))))))))⟩,k,⟨rfl,(Rows.cons (c:=[_]) (sliceRep (SliceR.nil' _ _)) (Rows.cons (c:=[_]) (sliceRep (SliceR.nil' _ _)) (Rows.cons (c:=[_]) (sliceRep (SliceR.nil' _ _)) (Rows.cons (c:=[_]) (sliceRep (SliceR.nil' _ _)) (Rows.cons (c:=[_]) (sliceRep (SliceR.nil' _ _)) (Rows.cons (c:=[_]) (sliceRep (SliceR.nil' _ _)) (Rows.cons (c:=[_]) (sliceRep (SliceR.nil' _ _)) (Rows.cons (c:=[_]) (sliceRep (SliceR.nil' _ _)) (Rows.cons (c:=[_]) (sliceRep (SliceR.nil' _ _)) rfl)))))))))⟩,I⟩ ?_
 rintro f g k ⟨z2,U,y2,y3,y4,X,V,W,v1,v2,v3,v4,v5,v6,v7,v8,v9,e3,q3,a1,a2,a3,a4,a5,a6,a7,a8,a9,k3,l,ar,au,al,am,aq⟩
 cases f with
 | zero=>cases aq
 | succ n1 =>
 refine c_seq (c_sq [] [1,2,7,8,9,10,21] l .nil fun f ap=>(c_if (decide (X<(x1.length:Int))) ap (fun ao=>?_) (fun ao=>?_)))
 ·have I:=cond_t ao aq
  refine c_skip (n_then (c_seq (c_block 1 (c_mid (fun a w=>∃z3:Zone,∃y6:List Lot,∃y7:List (List (List Part)),∃b4:Nat,∃e4:Option Addr,∃q4:Nat,∃aa:Value,∃ab:Value,∃ac:Value,∃ad:Value,∃ae:Value,∃af:Value,∃ag:Value,∃ah:Value,∃ai:Value,Zone.le z2 z3∧Fr a 49 [(1,sL o_x1 x1 c_x1),(2,vI x2),(7,pB Z 0),(8,pB Y 0),(9,sL V U W),(10,vI X),(11,pB b4 0)]∧St z3 (box b4 [sL e4 y6 q4,aa,ab,ac,ad,ae,af,ag,ah,ai] 29::ownS (Ty.arr 9 (Ty.slice Ty.bool)) 129 V W U::box Y [v1,v2,v3,v4,v5,v6,v7,v8,v9] 129::box Z [sL e3 y3 q3,a1,a2,a3,a4,a5,a6,a7,a8,a9] 29::emp::L) w∧SliceR LotT z3 e4 q4 y6∧(Ty.arr 9 (Ty.slice (Ty.slice PartT))).rep z3 [aa,ab,ac,ad,ae,af,ag,ah,ai] y7∧(F67_j1 fuel (F67_l1 fuel x1 x2 n1) x1 x2 U y2 y3 y4 X y6 y7)=some r) ?_ ?_))))
  ·skip
   have aj:=ar.drew
   have m:=Sub.of zr aj
   refine w_regB (by kernel_rfl) [5,12,13] (Sub z2 (ownS (Ty.arr 9 (Ty.slice Ty.bool)) 129 V W U::box Y [v1,v2,v3,v4,v5,v6,v7,v8,v9] 129::box Z [sL e3 y3 q3,a1,a2,a3,a4,a5,a6,a7,a8,a9] 29::emp::L)) (by kernel_rfl) (k_seg' 10 [(0,true),(1,true),(2,true),(3,true),(4,true)] (by kernel_rfl) (by kernel_rfl) (At.start m) (by kernel_rfl) ?_)
   obtain ⟨M,f,ak⟩:=bind_some I
   obtain ⟨g,k,l,o,rfl,f⟩:=SliceR.getI (SliceR.mono (zt k2 k3) hx_x1) f
   refine c_S 5 [sL e3 y3 q3,a1,a2,a3,a4,a5,a6,a7,a8,a9, .pointer (some g),vI M.kind,vI M.lot,vI M.frm,vI M.to,vI M.mass] [1,2,7,8,9,10,25,29] m ap (fun _ s=>(.cell (s.bx 2 0 rfl rfl) (.cell (s.bx 2 1 rfl rfl) (.cell (s.bx 2 2 rfl rfl) (.cell (s.bx 2 3 rfl rfl) (.cell (s.bx 2 4 rfl rfl) (.cell (s.bx 2 5 rfl rfl) (.cell (s.bx 2 6 rfl rfl) (.cell (s.bx 2 7 rfl rfl) (.cell (s.bx 2 8 rfl rfl) (.cell (s.bx 2 9 rfl rfl) (.prop k (.prop l (.cell (s.cell (f 0 _ rfl)) (.cell (s.cell (f 1 _ rfl)) (.cell (s.cell (f 2 _ rfl)) (.cell (s.cell (f 3 _ rfl)) (.cell (s.cell (f 4 _ rfl)) .nil)))))))))))))))))) .nil fun f an=>c_done ?_
   intro f
   refine k_any' 9 [5,10,11] (by kernel_rfl) f (by kernel_rfl) (by kernel_rfl) ((all_cons ?_ (all_cons ?_ (all_cons ?_ all_nil))))
   ·skip
    obtain ⟨o,f,I⟩:=bind_some ak
    refine c_call an (f22_ok fuel y3 y4 M.kind M.lot M.frm M.to M.mass o f z2 _ _ aj e3 q3 al a1 a2 a3 a4 a5 a6 a7 a8 a9 (Ty.mono _ zr am)) ?_
    rintro f g k ⟨R,t,u,y,z,A,B,C,D,F,G,H,O,P,q,rfl,Q,S,K,l⟩ m
    refine ⟨fun e=>absurd e (by decide),?_⟩
    refine c_done ?_
    intro f
    refine k_seg' 5 [(6,true),(7,true),(8,true),(9,true)] (by kernel_rfl) (by kernel_rfl) f (by kernel_rfl) (p_qP 4 [] [(1,sL o_x1 x1 c_x1),(2,vI x2),(7,pB Z 0),(8,pB Y 0),(9,sL V U W),(10,vI X),(31, .agg #[sL t o.1 u,y,z,A,B,C,D,F,G,H]),(32, .agg #[sL O o.2.2.1 P]),(33,vI o.2.2.2)] [] m (by kernel_rfl) (fun _=> .nil) fun f J=>c_done ?_)
    intro f
    refine k_any' 4 [10,11] (by kernel_rfl) f (by kernel_rfl) (by kernel_rfl) ((all_cons ?_ (all_cons ?_ all_nil)))
    ·skip
     refine c_box [N0,N0,N0,N0,N0,N0,N0,N0,N0,N0] 29 Q J fun p f k g l=>⟨fun _=>Sub.of q (St.drop 1 g),?_⟩
     refine c_done ?_
     intro f
     refine k_seg' 0 [(11,false),(12,false),(13,false),(14,true)] (by kernel_rfl) (by kernel_rfl) f (by kernel_rfl) (c_box [N0] 49 g l fun g k l f m=>⟨fun _=>Sub.of q (St.drop 2 f),?_⟩)
     have g:=Sub.of q (St.drop 2 f)
     have g:=oneCells_of (Ty.one _ (Ty.mono _ zr K))
     refine p_store_eq (i:=12) (j:=1) (b:=p) (off:=0) (vs:=[sL t o.1 u,y,z,A,B,C,D,F,G,H]) (cs':=[sL t o.1 u,y,z,A,B,C,D,F,G,H]) f m rfl (by kernel_rfl) g rfl fun k l f g=>⟨fun e=>absurd e (by decide),?_⟩
     refine c_st 0 [sL O o.2.2.1 P] f g rfl fun g k l f=>⟨fun e=>absurd e (by decide),?_⟩
     refine p_qP 1 [] [(1,sL o_x1 x1 c_x1),(2,vI x2),(7,pB Z 0),(8,pB Y 0),(9,sL V U W),(10,vI X),(11,pB p 0)] [] f (by kernel_rfl) (fun _=> .nil) fun f g=>c_done ?_
     intro f
     refine k_done' (by kernel_rfl) (by kernel_rfl) (n_then (⟨R,o.1,o.2.1,p,t,u,y,z,A,B,C,D,F,G,H,q,g.to,(St.pick 2 [1] l (by kernel_rfl)),S,(Ty.mono _ zr K),I⟩))
    skip
    refine c_box [N0] 49 Q J fun f k l g m=>⟨fun _=>Sub.of q (St.drop 1 g),?_⟩
    refine c_done ?_
    intro f
    refine k_seg' 0 [(10,false),(12,false),(13,false),(14,true)] (by kernel_rfl) (by kernel_rfl) f (by kernel_rfl) (c_box [N0,N0,N0,N0,N0,N0,N0,N0,N0,N0] 29 g m fun m g k f l=>⟨fun _=>Sub.of q (St.drop 2 f),?_⟩)
    have g:=Sub.of q (St.drop 2 f)
    have g:=oneCells_of (Ty.one _ (Ty.mono _ zr K))
    refine p_store_eq (i:=12) (j:=0) (b:=m) (off:=0) (vs:=[sL t o.1 u,y,z,A,B,C,D,F,G,H]) (cs':=[sL t o.1 u,y,z,A,B,C,D,F,G,H]) f l rfl (by kernel_rfl) g rfl fun k l f g=>⟨fun e=>absurd e (by decide),?_⟩
    refine c_st 1 [sL O o.2.2.1 P] f g rfl fun g k l f=>⟨fun e=>absurd e (by decide),?_⟩
    refine p_qP 1 [] [(1,sL o_x1 x1 c_x1),(2,vI x2),(7,pB Z 0),(8,pB Y 0),(9,sL V U W),(10,vI X),(11,pB m 0)] [] f (by kernel_rfl) (fun _=> .nil) fun f g=>c_done ?_
    intro f
    refine k_done' (by kernel_rfl) (by kernel_rfl) (n_then (⟨R,o.1,o.2.1,m,t,u,y,z,A,B,C,D,F,G,H,q,g.to,(St.pick 2 [0] l (by kernel_rfl)),S,(Ty.mono _ zr K),I⟩))
   ·skip
    refine c_box [N0,N0,N0,N0,N0,N0,N0,N0,N0,N0] 29 aj an fun O f g Q a0=>⟨fun _=>Sub.of zr (St.drop 1 Q),?_⟩
    refine c_done ?_
    intro f
    have g:=Sub.of zr (St.drop 1 Q)
    refine k_seg' 9 [] (by kernel_rfl) (by kernel_rfl) f (by kernel_rfl) (c_done ?_)
    intro f
    refine k_any' 8 [5,11] (by kernel_rfl) f (by kernel_rfl) (by kernel_rfl) ((all_cons ?_ (all_cons ?_ all_nil)))
    ·skip
     obtain ⟨k,f,I⟩:=bind_some ak
     refine c_call a0 (f22_ok fuel y3 y4 M.kind M.lot M.frm M.to M.mass k f z2 _ _ Q e3 q3 al a1 a2 a3 a4 a5 a6 a7 a8 a9 (Ty.mono _ zr am)) ?_
     rintro f g l ⟨R,p,q,t,u,y,z,A,B,C,D,F,G,H,K,rfl,J,S,P,m⟩ o
     refine ⟨fun e=>absurd e (by decide),?_⟩
     refine c_done ?_
     intro f
     refine k_seg' 0 [(6,true),(7,true),(8,true),(9,true),(11,false),(12,false),(13,false),(14,true)] (by kernel_rfl) (by kernel_rfl) f (by kernel_rfl) (p_qP 4 [] [(1,sL o_x1 x1 c_x1),(2,vI x2),(7,pB Z 0),(8,pB Y 0),(9,sL V U W),(10,vI X),(11,pB O 0),(31, .agg #[sL p k.1 q,t,u,y,z,A,B,C,D,F]),(32, .agg #[sL G k.2.2.1 H]),(33,vI k.2.2.2)] [] o (by kernel_rfl) (fun _=> .nil) fun g f=>c_box [N0] 49 J f fun g l m f o=>⟨fun _=>Sub.of K (St.drop 2 f),?_⟩)
     have g:=Sub.of K (St.drop 2 f)
     have g:=oneCells_of (Ty.one _ (Ty.mono _ zr P))
     refine p_store_eq (i:=12) (j:=1) (b:=O) (off:=0) (vs:=[sL p k.1 q,t,u,y,z,A,B,C,D,F]) (cs':=[sL p k.1 q,t,u,y,z,A,B,C,D,F]) f o rfl (by kernel_rfl) g rfl fun l m f g=>⟨fun e=>absurd e (by decide),?_⟩
     refine c_st 0 [sL G k.2.2.1 H] f g rfl fun g l m f=>⟨fun e=>absurd e (by decide),?_⟩
     refine p_qP 1 [] [(1,sL o_x1 x1 c_x1),(2,vI x2),(7,pB Z 0),(8,pB Y 0),(9,sL V U W),(10,vI X),(11,pB O 0)] [] f (by kernel_rfl) (fun _=> .nil) fun f g=>c_done ?_
     intro f
     refine k_done' (by kernel_rfl) (by kernel_rfl) (n_then (⟨R,k.1,k.2.1,O,p,q,t,u,y,z,A,B,C,D,F,K,g.to,(St.pick 2 [1] m (by kernel_rfl)),S,(Ty.mono _ zr P),I⟩))
    skip
    refine c_box [N0] 49 Q a0 fun P f g k l=>⟨fun _=>Sub.of zr (St.drop 2 k),?_⟩
    refine c_done ?_
    intro f
    have g:=Sub.of zr (St.drop 2 k)
    refine k_seg' 0 [(5,false),(6,true),(7,true),(8,true),(9,true),(12,false),(13,false),(14,true)] (by kernel_rfl) (by kernel_rfl) f (by kernel_rfl) ?_
    obtain ⟨f,g,I⟩:=bind_some ak
    refine c_call l (f22_ok fuel y3 y4 M.kind M.lot M.frm M.to M.mass f g z2 _ _ k e3 q3 al a1 a2 a3 a4 a5 a6 a7 a8 a9 (Ty.mono _ zr am)) ?_
    rintro k F G ⟨Q,o,p,q,t,u,y,z,A,B,C,D,l,m,R,rfl,J,S,K,H⟩ g
    refine ⟨fun e=>absurd e (by decide),?_⟩
    refine p_qP 4 [] [(1,sL o_x1 x1 c_x1),(2,vI x2),(7,pB Z 0),(8,pB Y 0),(9,sL V U W),(10,vI X),(11,pB O 0),(12,pB P 0),(31, .agg #[sL o f.1 p,q,t,u,y,z,A,B,C,D]),(32, .agg #[sL l f.2.2.1 m]),(33,vI f.2.2.2)] [] g (by kernel_rfl) (fun _=> .nil) fun g k=>?_
    have g:=oneCells_of (Ty.one _ (Ty.mono _ zr K))
    refine p_store_eq (i:=12) (j:=1) (b:=O) (off:=0) (vs:=[sL o f.1 p,q,t,u,y,z,A,B,C,D]) (cs':=[sL o f.1 p,q,t,u,y,z,A,B,C,D]) J k rfl (by kernel_rfl) g rfl fun F G g k=>⟨fun e=>absurd e (by decide),?_⟩
    refine c_st 0 [sL l f.2.2.1 m] g k rfl fun k l m g=>⟨fun e=>absurd e (by decide),?_⟩
    refine p_qP 1 [] [(1,sL o_x1 x1 c_x1),(2,vI x2),(7,pB Z 0),(8,pB Y 0),(9,sL V U W),(10,vI X),(11,pB O 0)] [] g (by kernel_rfl) (fun _=> .nil) fun g k=>c_done ?_
    intro g
    refine k_done' (by kernel_rfl) (by kernel_rfl) (n_then (⟨Q,f.1,f.2.1,O,o,p,q,t,u,y,z,A,B,C,D,R,k.to,(St.pick 2 [1] m (by kernel_rfl)),S,(Ty.mono _ zr K),I⟩))
   skip
   refine c_box [N0] 49 aj an fun a0 f g P S=>⟨fun _=>Sub.of zr (St.drop 1 P),?_⟩
   refine c_done ?_
   intro f
   have g:=Sub.of zr (St.drop 1 P)
   refine k_seg' 9 [] (by kernel_rfl) (by kernel_rfl) f (by kernel_rfl) (c_done ?_)
   intro f
   refine k_any' 8 [5,10] (by kernel_rfl) f (by kernel_rfl) (by kernel_rfl) ((all_cons ?_ (all_cons ?_ all_nil)))
   ·skip
    obtain ⟨k,f,I⟩:=bind_some ak
    refine c_call S (f22_ok fuel y3 y4 M.kind M.lot M.frm M.to M.mass k f z2 _ _ P e3 q3 al a1 a2 a3 a4 a5 a6 a7 a8 a9 (Ty.mono _ zr am)) ?_
    rintro f g l ⟨Q,p,q,t,u,y,z,A,B,C,D,F,G,H,K,rfl,J,R,O,m⟩ o
    refine ⟨fun e=>absurd e (by decide),?_⟩
    refine c_done ?_
    intro f
    refine k_seg' 0 [(6,true),(7,true),(8,true),(9,true),(10,false),(12,false),(13,false),(14,true)] (by kernel_rfl) (by kernel_rfl) f (by kernel_rfl) (p_qP 4 [] [(1,sL o_x1 x1 c_x1),(2,vI x2),(7,pB Z 0),(8,pB Y 0),(9,sL V U W),(10,vI X),(12,pB a0 0),(31, .agg #[sL p k.1 q,t,u,y,z,A,B,C,D,F]),(32, .agg #[sL G k.2.2.1 H]),(33,vI k.2.2.2)] [] o (by kernel_rfl) (fun _=> .nil) fun g f=>c_box [N0,N0,N0,N0,N0,N0,N0,N0,N0,N0] 29 J f fun o g l f m=>⟨fun _=>Sub.of K (St.drop 2 f),?_⟩)
    have g:=Sub.of K (St.drop 2 f)
    have g:=oneCells_of (Ty.one _ (Ty.mono _ zr O))
    refine p_store_eq (i:=12) (j:=0) (b:=o) (off:=0) (vs:=[sL p k.1 q,t,u,y,z,A,B,C,D,F]) (cs':=[sL p k.1 q,t,u,y,z,A,B,C,D,F]) f m rfl (by kernel_rfl) g rfl fun l m f g=>⟨fun e=>absurd e (by decide),?_⟩
    refine c_st 1 [sL G k.2.2.1 H] f g rfl fun g l m f=>⟨fun e=>absurd e (by decide),?_⟩
    refine p_qP 1 [] [(1,sL o_x1 x1 c_x1),(2,vI x2),(7,pB Z 0),(8,pB Y 0),(9,sL V U W),(10,vI X),(11,pB o 0)] [] f (by kernel_rfl) (fun _=> .nil) fun f g=>c_done ?_
    intro f
    refine k_done' (by kernel_rfl) (by kernel_rfl) (n_then (⟨Q,k.1,k.2.1,o,p,q,t,u,y,z,A,B,C,D,F,K,g.to,(St.pick 2 [0] m (by kernel_rfl)),R,(Ty.mono _ zr O),I⟩))
   skip
   refine c_box [N0,N0,N0,N0,N0,N0,N0,N0,N0,N0] 29 P S fun K f g k l=>⟨fun _=>Sub.of zr (St.drop 2 k),?_⟩
   refine c_done ?_
   intro f
   have g:=Sub.of zr (St.drop 2 k)
   refine k_seg' 0 [(5,false),(6,true),(7,true),(8,true),(9,true),(12,false),(13,false),(14,true)] (by kernel_rfl) (by kernel_rfl) f (by kernel_rfl) ?_
   obtain ⟨f,g,I⟩:=bind_some ak
   refine c_call l (f22_ok fuel y3 y4 M.kind M.lot M.frm M.to M.mass f g z2 _ _ k e3 q3 al a1 a2 a3 a4 a5 a6 a7 a8 a9 (Ty.mono _ zr am)) ?_
   rintro k F G ⟨O,o,p,q,t,u,y,z,A,B,C,D,l,m,P,rfl,J,Q,M,H⟩ g
   refine ⟨fun e=>absurd e (by decide),?_⟩
   refine p_qP 4 [] [(1,sL o_x1 x1 c_x1),(2,vI x2),(7,pB Z 0),(8,pB Y 0),(9,sL V U W),(10,vI X),(11,pB K 0),(12,pB a0 0),(31, .agg #[sL o f.1 p,q,t,u,y,z,A,B,C,D]),(32, .agg #[sL l f.2.2.1 m]),(33,vI f.2.2.2)] [] g (by kernel_rfl) (fun _=> .nil) fun g k=>?_
   have g:=oneCells_of (Ty.one _ (Ty.mono _ zr M))
   refine p_store_eq (i:=12) (j:=0) (b:=K) (off:=0) (vs:=[sL o f.1 p,q,t,u,y,z,A,B,C,D]) (cs':=[sL o f.1 p,q,t,u,y,z,A,B,C,D]) J k rfl (by kernel_rfl) g rfl fun F G g k=>⟨fun e=>absurd e (by decide),?_⟩
   refine c_st 1 [sL l f.2.2.1 m] g k rfl fun k l m g=>⟨fun e=>absurd e (by decide),?_⟩
   refine p_qP 1 [] [(1,sL o_x1 x1 c_x1),(2,vI x2),(7,pB Z 0),(8,pB Y 0),(9,sL V U W),(10,vI X),(11,pB K 0)] [] g (by kernel_rfl) (fun _=> .nil) fun g k=>c_done ?_
   intro g
   refine k_done' (by kernel_rfl) (by kernel_rfl) (n_then (⟨O,f.1,f.2.1,K,o,p,q,t,u,y,z,A,B,C,D,P,k.to,(St.pick 2 [0] m (by kernel_rfl)),Q,(Ty.mono _ zr M),I⟩))
  rintro g k ⟨z3,y6,y7,b4,e4,q4,aa,ab,ac,ad,ae,af,ag,ah,ai,J,q,f,P,M,I⟩
  refine c_seq ?_
  have f:=f.drew
  refine c_regD (rD 10 [8,9]) [8,9] (fun x=>x=k.drew) rfl ?_
  obtain ⟨g,k,I⟩:=bind_some I
  obtain ⟨l,m,o,p,rfl,k⟩:=SliceR.getI (SliceR.mono (zt (zt k2 k3) J) hx_x1) k
  refine c_E 8 [v1,v2,v3,v4,v5,v6,v7,v8,v9,sL e3 y3 q3,a1,a2,a3,a4,a5,a6,a7,a8,a9,sL e4 y6 q4,aa,ab,ac,ad,ae,af,ag,ah,ai, .pointer (some l),vI g.kind,vI g.lot,vI g.frm,vI g.to,vI g.mass] [1,2,7,8,9,10,11,34,35,36,40,41] q (.cell (f.bx 2 0 rfl rfl) (.cell (f.bx 2 1 rfl rfl) (.cell (f.bx 2 2 rfl rfl) (.cell (f.bx 2 3 rfl rfl) (.cell (f.bx 2 4 rfl rfl) (.cell (f.bx 2 5 rfl rfl) (.cell (f.bx 2 6 rfl rfl) (.cell (f.bx 2 7 rfl rfl) (.cell (f.bx 2 8 rfl rfl) (.cell (f.bx 3 0 rfl rfl) (.cell (f.bx 3 1 rfl rfl) (.cell (f.bx 3 2 rfl rfl) (.cell (f.bx 3 3 rfl rfl) (.cell (f.bx 3 4 rfl rfl) (.cell (f.bx 3 5 rfl rfl) (.cell (f.bx 3 6 rfl rfl) (.cell (f.bx 3 7 rfl rfl) (.cell (f.bx 3 8 rfl rfl) (.cell (f.bx 3 9 rfl rfl) (.cell (f.bx 0 0 rfl rfl) (.cell (f.bx 0 1 rfl rfl) (.cell (f.bx 0 2 rfl rfl) (.cell (f.bx 0 3 rfl rfl) (.cell (f.bx 0 4 rfl rfl) (.cell (f.bx 0 5 rfl rfl) (.cell (f.bx 0 6 rfl rfl) (.cell (f.bx 0 7 rfl rfl) (.cell (f.bx 0 8 rfl rfl) (.cell (f.bx 0 9 rfl rfl) (.prop m (.prop o (.cell (f.cell (k 0 _ rfl)) (.cell (f.cell (k 1 _ rfl)) (.cell (f.cell (k 2 _ rfl)) (.cell (f.cell (k 3 _ rfl)) (.cell (f.cell (k 4 _ rfl)) .nil)))))))))))))))))))))))))))))))))))) .nil fun k l=>?_
  obtain ⟨G,k,I⟩:=bind_some I
  refine c_call l (f89_ok fuel y2 y3 y4 y6 y7 g.kind g.lot g.frm g.to g.mass x2 G k z3 _ _ f v1 v2 v3 v4 v5 v6 v7 v8 v9 (Ty.mono _ J au) e3 q3 (SliceR.mono J al) a1 a2 a3 a4 a5 a6 a7 a8 a9 (Ty.mono _ J am) e4 q4 P aa ab ac ad ae af ag ah ai (Ty.mono _ zr M)) ?_
  rintro f g k ⟨O,l,m,o,p,q,t,u,y,z,F,rfl,A,H⟩ B
  refine ⟨fun e=>absurd e (by decide),?_⟩
  have f:=oneCells_of (Ty.one _ (Ty.mono _ zr H))
  refine p_store_eq (i:=9) (j:=2) (b:=Y) (off:=0) (vs:=[l,m,o,p,q,t,u,y,z]) (cs':=[l,m,o,p,q,t,u,y,z]) A B rfl (by kernel_rfl) f rfl fun k A f g=>⟨fun e=>absurd e (by decide),?_⟩
  refine c_dt (c_sr (c_n 2 [l,m,o,p,q,t,u,y,z] [1,2,7,8,10,11,43,44] g (.cell (f.bx 2 0 rfl rfl) (.cell (f.bx 2 1 rfl rfl) (.cell (f.bx 2 2 rfl rfl) (.cell (f.bx 2 3 rfl rfl) (.cell (f.bx 2 4 rfl rfl) (.cell (f.bx 2 5 rfl rfl) (.cell (f.bx 2 6 rfl rfl) (.cell (f.bx 2 7 rfl rfl) (.cell (f.bx 2 8 rfl rfl) .nil))))))))) fun A g=>(p_box (i:=2) (d:=(some 45)) (cs:=[l,m,o,p,q,t,u,y,z]) (T:=129) (v:=fun k=> .slice (some ⟨k,0,none⟩) 1 1) f g (fun b=>by kernel_rfl) fun k B C f D=>tv ?_)))
  have f:=f.ownBox (T:=(Ty.arr 9 (Ty.slice Ty.bool))) (E:=129) (n:=1) (xs:=[G]) (i:=0) rfl (Rows.cons (c:=[l,m,o,p,q,t,u,y,z]) (Ty.mono _ zr H) rfl) rfl (by decide)
  obtain ⟨K,g,I⟩:=bind_some I
  refine p_append (T:=(Ty.arr 9 (Ty.slice Ty.bool))) (i:=3) (j:=2) (d:=some 46) (o2:=(some ⟨k,0,none⟩)) (c2:=1) (ys:=([G])) el123 f D rfl (by kernel_rfl) (f.ownSrc (j:=0) rfl) g fun B C k A f g=>tv (c_t [] [1,2,7,8,9,10,11] g .nil fun k g=>c_reg (c_n 1 [sL e4 y6 q4,aa,ab,ac,ad,ae,af,ag,ah,ai] [1,2,7,8,9,10,47] g (.cell (f.bx 1 0 rfl rfl) (.cell (f.bx 1 1 rfl rfl) (.cell (f.bx 1 2 rfl rfl) (.cell (f.bx 1 3 rfl rfl) (.cell (f.bx 1 4 rfl rfl) (.cell (f.bx 1 5 rfl rfl) (.cell (f.bx 1 6 rfl rfl) (.cell (f.bx 1 7 rfl rfl) (.cell (f.bx 1 8 rfl rfl) (.cell (f.bx 1 9 rfl rfl) .nil)))))))))) fun g k=>?_))
  have g:=oneCells_of (Ty.one _ (Ty.mono _ F M))
  refine p_store_eq (i:=1) (j:=4) (b:=Z) (off:=0) (vs:=[sL e4 y6 q4,aa,ab,ac,ad,ae,af,ag,ah,ai]) (cs':=[sL e4 y6 q4,aa,ab,ac,ad,ae,af,ag,ah,ai]) f k rfl (by kernel_rfl) g rfl fun k A g f=>tv (c_done (n_block (n_then (c_q [] [1,2,7,8,9,10] f .nil fun k f=>(n_then (⟨n1,Nat.lt_succ_self n1,O,K,G,y6,y7,(w64 (X + (1:Int))),B,C,l,m,o,p,q,t,u,y,z,e4,q4,aa,ab,ac,ad,ae,af,ag,ah,ai,(zt (zt k3 J) F),f.to,(St.drop 2 g),(Ty.mono _ zr H),(SliceR.mono F P),(Ty.mono _ F M),I⟩))))))
 have I:=cond_f ao aq
 refine c_exit 0 (x_then (x_then (x_block (n_then (c_sq [] [6] ap .nil fun g f=>(c_ret ?_))))))
 obtain ⟨g,k,l,m⟩:=ar.share (j:=0) rfl
 refine c_rt [] (sL V U W) f .nil ?_
 obtain rfl:=some_eq I
 exact ⟨_,rfl,g,V,W,(zt (zt k2 k3) k),rfl,(St.drop 4 l),m⟩
def F31_j2 (k1:(List Int)→Int→Option (List Int×Int)) (y1:Int) (y2:List Int):Option (List Int×Int) :=
  (k1 y2 (w64 (y1 + (1:Int))))
def F31_j1 (fuel:Nat) (k1:(List Int)→Int→Option (List Int×Int)) (r1:List (List (List Bool))) (y3:List Int) (y1:Int) (y4:Bool):Option (List Int×Int) :=
  (cond y4 ((getI r1 (w64 ((r1.length:Int) - (1:Int)))).bind fun p1=>((getI p1 y1).bind fun p2=>((F68 fuel p2).bind fun r2=>(cond r2 ((appC y3 ([y1])).bind fun d1=>(F31_j2 k1 y1 d1)) (F31_j2 k1 y1 y3))))) (some (y3,0)))
def F31_l1 (fuel:Nat) (r1:List (List (List Bool))):Nat→(List Int)→Int→Option (List Int×Int)
  | 0,_,_=>none
  | n1 + 1,y3,y1 =>
    let k1:(List Int)→Int→Option (List Int×Int):=F31_l1 fuel r1 n1
    (cond (decide (y1<(9:Int))) (F31_j1 fuel k1 r1 y3 y1 (decide ((r1.length:Int) > (0:Int)))) (F31_j1 fuel k1 r1 y3 y1 false))
def F31 (fuel:Nat) (x0:List Lot) (x1:List Deed) (x2:Int):Option (List Int×Int) :=
  ((F7 fuel x0 x1).bind fun r3=>(cond (r3.2.2.2 != (0:Int)) (some ([],r3.2.2.2)) ((F64 fuel x0 x2).bind fun r4=>(cond (decide (r4<(0:Int))) (some ([],60)) ((F67 fuel x0 x1 x2).bind fun r1=>(F31_l1 fuel r1 fuel ([]) 0))))))
set_option maxRecDepth 100000 in
theorem f31_ok (fuel:Nat) (x0:List Lot) (x1:List Deed) (x2:Int) (r:List Int×Int) (hr:F31 fuel x0 x1 x2=some r) (h:Zone) (L:List Atom) (w:World) (hS:St h L w) (o_x0:Option Addr) (c_x0:Nat) (hx_x0:SliceR LotT h o_x0 c_x0 x0) (o_x1:Option Addr) (c_x1:Nat) (hx_x1:SliceR DeedT h o_x1 c_x1 x1) :
    Calls Tryz.prog 31 #[.slice o_x0 x0.length c_x0, .slice o_x1 x1.length c_x1,vI x2] w fun e w'=>∃v,e= .returned v∧(∃h',∃o0:Option Addr,∃c0:Nat,Zone.le h h'∧v= .tuple #[.slice o0 r.1.length c0,vI r.2]∧St h' L w'∧SliceR Ty.int h' o0 c0 r.1):=by
 refine calls_intro (N:=56) Tryz.func31 (by kernel_rfl) fun a hf=>c_sq [] [0,1,2] hf .nil fun g f=>c_sr (c_n 2 [] [0,1,2,15,16] f .nil fun f g=>?_)
 obtain ⟨t,f,y⟩:=bind_some hr
 refine c_call g (f7_ok fuel x0 x1 t f h _ _ hS o_x0 c_x0 hx_x0 o_x1 c_x1 hx_x1) ?_
 rintro g k l ⟨s,C,Q,R,S,U,V,W,X,Y,Z,a0,k2,rfl,o,p,q⟩ f
 refine tv (c_n 4 [] [0,1,2,18,19,20] f .nil fun g f=>c_box [N0,N0,N0,N0,N0,N0,N0,N0,N0,N0] 29 o f fun b1 f l g k=>tv ?_)
 have f:=oneCells_of (Ty.one _ (Ty.mono _ zr q))
 refine p_store_eq (i:=8) (j:=0) (b:=b1) (off:=0) (vs:=[sL C t.1 Q,R,S,U,V,W,X,Y,Z,a0]) (cs':=[sL C t.1 Q,R,S,U,V,W,X,Y,Z,a0]) g k rfl (by kernel_rfl) f rfl fun g k o f=>tv (c_t [] [0,1,2,10] f .nil fun g f=>c_seq (c_sq [] [0,1,2,10,22] f .nil fun f k=>(c_if (t.2.2.2 != (0:Int)) k (fun g=>?_) (fun g=>?_))))
 ·have m:=cond_t g y
  refine c_sq [] [6,7] k .nil fun l f=>c_ret (r_then (c_rt [] (.tuple #[N0,vI t.2.2.2]) f .nil ?_))
  obtain rfl:=some_eq m
  exact ⟨_,rfl,s,none,0,k2,rfl,(St.drop 1 o),SliceR.nil' _ _⟩
 have m:=cond_f g y
 refine c_skip (n_then (c_seq (c_sr (c_n 2 [] [0,1,2,24,25] k .nil fun f g=>?_))))
 obtain ⟨k,f,y⟩:=bind_some m
 refine c_call g (f64_ok fuel x0 x2 k f s _ _ o o_x0 c_x0 (SliceR.mono k2 hx_x0)) ?_
 rintro g l o ⟨q,k3,rfl,s⟩ f
 refine tv (c_t [] [0,1,2,27] f .nil fun f l=>c_if (decide (k<(0:Int))) l (fun g=>?_) (fun g=>?_))
 ·have m:=cond_t g y
  refine c_sq [] [6,7] l .nil fun k f=>c_ret (r_then (c_rt [] (.tuple #[N0,vI 60]) f .nil ?_))
  obtain rfl:=some_eq m
  exact ⟨_,rfl,q,none,0,(zt k2 k3),rfl,(St.drop 1 s),SliceR.nil' _ _⟩
 have m:=cond_f g y
 refine c_skip (n_then (c_sr (c_n 3 [] [28,29,30] l .nil fun f g=>?_)))
 obtain ⟨p,f,m⟩:=bind_some m
 refine c_call g (f67_ok fuel x0 x1 x2 p f q _ _ s o_x0 c_x0 (SliceR.mono (zt k2 k3) hx_x0) o_x1 c_x1 (SliceR.mono (zt k2 k3) hx_x1)) ?_
 rintro g k l ⟨o,u,B,k4,rfl,q,a2⟩ f
 refine tv (c_t [] [11] f .nil fun g f=>c_sq [] [11,12] f .nil fun g f=>c_seq (c_sq [] [11,12,13] f .nil fun f g=>(c_block 0 ?_)))
 have f:=q.ownNil Ty.int 3
 refine c_loop (fun n a w=>∃k:Zone,∃D:List Int,∃x:Int,∃I:Option Addr,∃J:Nat,Zone.le o k∧Fr a 56 [(11,sL u p B),(12,sL I D J),(13,vI x)]∧St k (ownS Ty.int 3 I J D::box b1 [sL C t.1 Q,R,S,U,V,W,X,Y,Z,a0] 29::L) w∧(F31_l1 fuel p n D x)=some r) fuel ⟨o,[],0,none,0,zr,g.to,f,m⟩ ?_
 rintro f g l ⟨k,D,x,I,J,k5,q,s,y⟩
 cases f with
 | zero=>cases y
 | succ P =>
 refine c_seq (c_mid (fun a w=>∃z:Zone,∃o:Bool,Zone.le k z∧Fr a 56 [(11,sL u p B),(12,sL I D J),(13,vI x),(38, .bool o)]∧St z (ownS Ty.int 3 I J D::box b1 [sL C t.1 Q,R,S,U,V,W,X,Y,Z,a0] 29::L) w∧(F31_j1 fuel (F31_l1 fuel p P) p D x o)=some r) ?_ ?_)
 ·skip
  refine c_reg (c_n 3 [] [11,12,13,34] q .nil fun f q=>?_)
  rcases bft (decide (x<(9:Int))) with f | f
  ·have m:=cond_t f y
   have g:=q.lit 34 f
   refine c_t [] [11,12,13,38] g .nil fun l g=>⟨k,(decide ((p.length:Int) > (0:Int))),zr,g.to,s,m⟩
  have m:=cond_f f y
  have f:=q.lit 34 f
  refine c_t [] [11,12,13,38] f .nil fun g f=>⟨k,false,zr,f.to,s,m⟩
 rintro f g ⟨z,o,k6,M,O,a1⟩
 refine c_if o M (fun K=>?_) (fun K=>?_)
 ·have m:=cond_t K a1
  refine c_skip (n_then (c_mid (fun a w=>∃F:Zone,∃A:List Int,∃G:Option Addr,∃H:Nat,Zone.le z F∧Fr a 56 [(11,sL u p B),(12,sL G A H),(13,vI x)]∧St F (ownS Ty.int 3 G H A::box b1 [sL C t.1 Q,R,S,U,V,W,X,Y,Z,a0] 29::L) w∧(F31_j2 (F31_l1 fuel p P) x A)=some r) ?_ ?_))
  ·skip
   refine c_block 1 (c_sr ?_)
   obtain ⟨g,f,m⟩:=bind_some m
   obtain ⟨o,q,s,f,g,t⟩:=SliceR.getI (SliceR.mono (zt k5 k6) a2) f
   obtain ⟨p,f,m⟩:=bind_some m
   obtain ⟨f,_,l,g,k,hehv2657,u⟩:=arrGet g rfl f
   obtain rfl:=List.head_eq_of_cons_eq hehv2657
   refine c_n 9 [.pointer (some o),sL g p k] [11,12,13,49] M (.prop q (.prop s (.prop f (.cell (O.cell (cell9 (t _ _ l))) .nil)))) fun f o=>?_
   obtain ⟨l,f,y⟩:=bind_some m
   refine c_call o (f68_ok fuel p l f z _ _ O g k u) ?_
   rintro f g k ⟨z,B,rfl,C⟩ u
   refine tv (c_dt (c_if l u (fun l=>?_) (fun l=>?_)))
   ·have m:=cond_t l y
    refine c_reg (c_n 2 [] [11,13,51,52] u .nil fun o f=>(p_box (i:=2) (d:=(some 53)) (cs:=[vI x]) (T:=3) (v:=fun g=> .slice (some ⟨g,0,none⟩) 1 1) C f (fun b=>by kernel_rfl) fun g p q k s=>tv ?_))
    have f:=k.ownBox (T:=Ty.int) (E:=3) (n:=1) (xs:=[x]) (i:=0) rfl (Rows.cons (c:=[vI x]) rfl rfl) rfl (by decide)
    obtain ⟨t,k,m⟩:=bind_some m
    refine p_append (T:=Ty.int) (i:=3) (j:=1) (d:=some 54) (o2:=(some ⟨g,0,none⟩)) (c2:=1) (ys:=([x])) el76 f s rfl (by kernel_rfl) (f.ownSrc (j:=0) rfl) k fun g k o p q f=>tv (c_z [] [11,12,13] f .nil fun o f=>n_block (n_then (⟨z,t,g,k,B,f.to,(St.drop 1 q),m⟩)))
   have m:=cond_f l y
   refine c_skip (n_block (n_then (⟨z,D,I,J,B,u.to,C,m⟩)))
  rintro g k ⟨F,A,G,H,l,f,o,m⟩
  refine c_q [] [11,12,13] f .nil fun g f=>n_then (⟨P,Nat.lt_succ_self P,F,A,(w64 (x + (1:Int))),G,H,(zt (zt k5 k6) l),f.to,o,m⟩)
 have m:=cond_f K a1
 refine c_exit 0 (x_then (x_then (x_block (n_then (c_sq [] [6,7] M .nil fun g f=>(c_ret ?_))))))
 obtain ⟨g,k,l,o⟩:=O.share (j:=0) rfl
 refine c_rt [] (.tuple #[sL I D J,vI 0]) f .nil ?_
 obtain rfl:=some_eq m
 exact ⟨_,rfl,g,I,J,(zt (zt (zt (zt (zt k2 k3) k4) k5) k6) k),rfl,(St.drop 2 l),o⟩
def F32_j2 (k1:Int→Option (Bool×Int×Int)) (y1:Int) (y2:Int) (y3:Bool):Option (Bool×Int×Int) :=
  (cond y3 (some (false,y1,0)) (k1 (w64 (y2 + (1:Int)))))
def F32_l3 (k2:Int→Option (Bool×Int×Int)) (r1:List (List (List Bool))) (r2:List (List (List Bool))) (y1:Int) (y4:Int):Nat→Int→Option (Bool×Int×Int)
  | 0,_=>none
  | n1 + 1,y2 =>
    let k1:Int→Option (Bool×Int×Int):=F32_l3 k2 r1 r2 y1 y4 n1
    ((getI r1 y1).bind fun p1=>((getI p1 y4).bind fun p2=>(cond (decide (y2<(p2.length:Int))) ((getI r1 y1).bind fun p3=>((getI p3 y4).bind fun p4=>((getI p4 y2).bind fun p5=>(cond p5 ((getI r2 y1).bind fun p6=>((getI p6 y4).bind fun p7=>((getI p7 y2).bind fun p8=>(F32_j2 k1 y1 y2 p8)))) (F32_j2 k1 y1 y2 false))))) (k2 (w64 (y4 + (1:Int)))))))
def F32_l2 (fuel:Nat) (k3:Int→Option (Bool×Int×Int)) (r1:List (List (List Bool))) (r2:List (List (List Bool))) (y1:Int):Nat→Int→Option (Bool×Int×Int)
  | 0,_=>none
  | n2 + 1,y4 =>
    let k2:Int→Option (Bool×Int×Int):=F32_l2 fuel k3 r1 r2 y1 n2
    (cond (decide (y4<(9:Int))) (F32_l3 k2 r1 r2 y1 y4 fuel 0) (k3 (w64 (y1 + (1:Int)))))
def F32_l1 (fuel:Nat) (x1:List Deed) (r1:List (List (List Bool))) (r2:List (List (List Bool))):Nat→Int→Option (Bool×Int×Int)
  | 0,_=>none
  | n3 + 1,y1 =>
    let k3:Int→Option (Bool×Int×Int):=F32_l1 fuel x1 r1 r2 n3
    (cond (decide (y1<(x1.length:Int))) (F32_l2 fuel k3 r1 r2 y1 fuel 0) (some (true, -1,0)))
def F32_j1 (fuel:Nat) (x0:List Lot) (x1:List Deed) (x2:Int) (x3:Int) (y5:Bool):Option (Bool×Int×Int) :=
  (cond y5 (some (false,0,60)) (cond (x2 == x3) (some (false,0,1)) ((F67 fuel x0 x1 x2).bind fun r1=>((F67 fuel x0 x1 x3).bind fun r2=>(F32_l1 fuel x1 r1 r2 fuel 0)))))
def F32 (fuel:Nat) (x0:List Lot) (x1:List Deed) (x2:Int) (x3:Int):Option (Bool×Int×Int) :=
  ((F7 fuel x0 x1).bind fun r3=>(cond (r3.2.2.2 != (0:Int)) (some (false,0,r3.2.2.2)) ((F64 fuel x0 x2).bind fun r4=>(cond (decide (r4<(0:Int))) (F32_j1 fuel x0 x1 x2 x3 true) ((F64 fuel x0 x3).bind fun r5=>(F32_j1 fuel x0 x1 x2 x3 (decide (r5<(0:Int)))))))))
set_option maxRecDepth 100000 in
theorem f32_ok (fuel:Nat) (x0:List Lot) (x1:List Deed) (x2:Int) (x3:Int) (r:Bool×Int×Int) (hr:F32 fuel x0 x1 x2 x3=some r) (h:Zone) (L:List Atom) (w:World) (hS:St h L w) (o_x0:Option Addr) (c_x0:Nat) (hx_x0:SliceR LotT h o_x0 c_x0 x0) (o_x1:Option Addr) (c_x1:Nat) (hx_x1:SliceR DeedT h o_x1 c_x1 x1) :
    Calls Tryz.prog 32 #[.slice o_x0 x0.length c_x0, .slice o_x1 x1.length c_x1,vI x2,vI x3] w fun e w'=>∃v,e= .returned v∧(∃h',Zone.le h h'∧v= .tuple #[.bool r.1,vI r.2.1,vI r.2.2]∧St h' L w'):=by
 refine calls_intro (N:=95) Tryz.func32 (by kernel_rfl) fun a hf=>c_sq [] [0,1,2,3] hf .nil fun d c=>c_sr (c_n 2 [] [0,1,2,3,20,21] c .nil fun c d=>?_)
 obtain ⟨E,c,q⟩:=bind_some hr
 refine c_call d (f7_ok fuel x0 x1 E c h _ _ hS o_x0 c_x0 hx_x0 o_x1 c_x1 hx_x1) ?_
 rintro d g k ⟨p,X,Y,Z,v3,v4,v5,v6,v7,v8,v9,a0,W,rfl,l,m,o⟩ c
 refine tv (c_n 4 [] [0,1,2,3,23,24,25] c .nil fun d c=>c_box [N0,N0,N0,N0,N0,N0,N0,N0,N0,N0] 29 l c fun b1 c k d g=>tv ?_)
 have c:=oneCells_of (Ty.one _ (Ty.mono _ zr o))
 refine p_store_eq (i:=8) (j:=0) (b:=b1) (off:=0) (vs:=[sL X E.1 Y,Z,v3,v4,v5,v6,v7,v8,v9,a0]) (cs':=[sL X E.1 Y,Z,v3,v4,v5,v6,v7,v8,v9,a0]) d g rfl (by kernel_rfl) c rfl fun d g l c=>tv (c_t [] [0,1,2,3,13] c .nil fun d c=>c_seq (c_sq [] [0,1,2,3,13,27] c .nil fun c g=>(c_if (E.2.2.2 != (0:Int)) g (fun d=>?_) (fun d=>?_))))
 ·have f:=cond_t d q
  refine c_sq [] [8,9,10] g .nil fun k c=>c_ret (r_then (c_rt [] (.tuple #[.bool false,vI 0,vI E.2.2.2]) c .nil ?_))
  obtain rfl:=some_eq f
  exact ⟨_,rfl,p,W,rfl,(St.drop 1 l)⟩
 have f:=cond_f d q
 refine c_skip (n_then (c_seq (c_mid (fun a w=>∃u:Zone,∃t:Bool,Zone.le p u∧Fr a 95 [(0,sL o_x0 x0 c_x0),(1,sL o_x1 x1 c_x1),(2,vI x2),(3,vI x3),(38, .bool t)]∧St u (box b1 [sL X E.1 Y,Z,v3,v4,v5,v6,v7,v8,v9,a0] 29::L) w∧(F32_j1 fuel x0 x1 x2 x3 t)=some r) ?_ ?_)))
 ·skip
  refine c_reg (c_n 2 [] [0,1,2,3,29,30] g .nil fun c d=>?_)
  obtain ⟨g,c,q⟩:=bind_some f
  refine c_call d (f64_ok fuel x0 x2 g c p _ _ l o_x0 c_x0 (SliceR.mono W hx_x0)) ?_
  rintro d k l ⟨m,s,rfl,o⟩ c
  refine tv (c_n 2 [] [0,1,2,3,33] c .nil fun c k=>?_)
  rcases bft (decide (g<(0:Int))) with c | c
  ·have f:=cond_t c q
   have d:=k.lit 33 c
   refine c_t [] [0,1,2,3,38] d .nil fun g d=>⟨m,true,s,d.to,o,f⟩
  have f:=cond_f c q
  have c:=k.lit 33 c
  refine c_n 2 [] [0,1,2,3,33,34,35] c .nil fun c d=>?_
  obtain ⟨g,c,f⟩:=bind_some f
  refine c_call d (f64_ok fuel x0 x3 g c m _ _ o o_x0 c_x0 (SliceR.mono (zt W s) hx_x0)) ?_
  rintro d k l ⟨m,o,rfl,p⟩ c
  refine tv (c_t [] [0,1,2,3,38] c .nil fun d c=>⟨m,(decide (g<(0:Int))),(zt s o),c.to,p,f⟩)
 rintro c d ⟨u,t,V,g,l,q⟩
 refine c_if t g (fun d=>?_) (fun d=>?_)
 ·have f:=cond_t d q
  refine c_sq [] [8,9,10] g .nil fun k c=>c_ret (r_then (c_rt [] (.tuple #[.bool false,vI 0,vI 60]) c .nil ?_))
  obtain rfl:=some_eq f
  exact ⟨_,rfl,u,(zt W V),rfl,(St.drop 1 l)⟩
 have q:=cond_f d q
 refine c_skip (n_then (c_seq (c_sq [] [0,1,2,3,41] g .nil fun c g=>(c_if (x2 == x3) g (fun d=>?_) (fun d=>?_)))))
 ·have f:=cond_t d q
  refine c_sq [] [8,9,10] g .nil fun k c=>c_ret (r_then (c_rt [] (.tuple #[.bool false,vI 0,vI 1]) c .nil ?_))
  obtain rfl:=some_eq f
  exact ⟨_,rfl,u,(zt W V),rfl,(St.drop 1 l)⟩
 have f:=cond_f d q
 refine c_skip (n_then (c_sr (c_n 3 [] [0,1,3,42,43,44] g .nil fun c d=>?_)))
 obtain ⟨o,c,f⟩:=bind_some f
 refine c_call d (f67_ok fuel x0 x1 x2 o c u _ _ l o_x0 c_x0 (SliceR.mono (zt W V) hx_x0) o_x1 c_x1 (SliceR.mono (zt W V) hx_x1)) ?_
 rintro d g k ⟨l,B,D,k8,rfl,m,a1⟩ c
 refine tv (c_t [] [0,1,3,14] c .nil fun d c=>c_sr (c_n 3 [] [1,14,46,47,48] c .nil fun c d=>?_))
 obtain ⟨g,c,f⟩:=bind_some f
 refine c_call d (f67_ok fuel x0 x1 x3 g c l _ _ m o_x0 c_x0 (SliceR.mono (zt (zt W V) k8) hx_x0) o_x1 c_x1 (SliceR.mono (zt (zt W V) k8) hx_x1)) ?_
 rintro k l m ⟨d,z,A,k9,rfl,p,aa⟩ c
 refine tv (c_t [] [1,14,15] c .nil fun k c=>c_seq (c_sq [] [1,14,15,16] c .nil fun k c=>(c_block 0 (c_loop (fun n a w=>∃S:Zone,∃C:Int,Zone.le d S∧Fr a 95 [(1,sL o_x1 x1 c_x1),(14,sL B o D),(15,sL z g A),(16,vI C)]∧St S (box b1 [sL X E.1 Y,Z,v3,v4,v5,v6,v7,v8,v9,a0] 29::L) w∧(F32_l1 fuel x1 o g n C)=some r) fuel ⟨d,0,zr,c.to,p,f⟩ ?_))))
 rintro c d k ⟨S,C,R,l,ab,a8⟩
 cases c with
 | zero=>cases a8
 | succ U =>
 refine c_seq (c_sq [] [1,14,15,16,53] l .nil fun c a7=>(c_if (decide (C<(x1.length:Int))) a7 (fun a6=>?_) (fun a6=>?_)))
 ·have f:=cond_t a6 a8
  refine c_skip (n_then (c_seq (c_block 1 (c_sq [] [1,14,15,16,17] a7 .nil fun d c=>(c_block 2 (c_loop (fun n a w=>∃P:Zone,∃H:Int,Zone.le S P∧Fr a 95 [(1,sL o_x1 x1 c_x1),(14,sL B o D),(15,sL z g A),(16,vI C),(17,vI H)]∧St P (box b1 [sL X E.1 Y,Z,v3,v4,v5,v6,v7,v8,v9,a0] 29::L) w∧(F32_l2 fuel (F32_l1 fuel x1 o g U) o g C n H)=some r) fuel ⟨S,0,zr,c.to,ab,f⟩ ?_))))))
  rintro c d k ⟨P,H,O,l,a9,a5⟩
  cases c with
  | zero=>cases a5
  | succ n2 =>
  refine c_seq (c_sq [] [1,14,15,16,17,57] l .nil fun c a3=>(c_if (decide (H<(9:Int))) a3 (fun a2=>?_) (fun a2=>?_)))
  ·have f:=cond_t a2 a5
   refine c_skip (n_then (c_seq (c_block 3 (c_sq [] [1,14,15,16,17,18] a3 .nil fun d c=>(c_block 4 (c_loop (fun n a w=>∃K:Zone,∃J:Int,Zone.le P K∧Fr a 95 [(1,sL o_x1 x1 c_x1),(14,sL B o D),(15,sL z g A),(16,vI C),(17,vI H),(18,vI J)]∧St K (box b1 [sL X E.1 Y,Z,v3,v4,v5,v6,v7,v8,v9,a0] 29::L) w∧(F32_l3 (F32_l2 fuel (F32_l1 fuel x1 o g U) o g C n2) o g C H n J)=some r) fuel ⟨P,0,zr,c.to,a9,f⟩ ?_))))))
   rintro c d k ⟨K,J,M,y,F,f⟩
   cases c with
   | zero=>cases f
   | succ n1 =>
   refine c_seq ?_
   obtain ⟨d,c,f⟩:=bind_some f
   obtain ⟨s,t,u,c,k,x⟩:=SliceR.getI (SliceR.mono (zt (zt (zt k9 R) O) M) a1) c
   obtain ⟨d,c,a4⟩:=bind_some f
   obtain ⟨c,_,k,l,m,hehv228480,p⟩:=arrGet k rfl c
   obtain rfl:=List.head_eq_of_cons_eq hehv228480
   refine c_sq [.pointer (some s),sL l d m] [1,14,15,16,17,18,69] y (.prop t (.prop u (.prop c (.cell (F.cell (cell9 (x _ _ k))) .nil)))) fun c T=>c_if (decide (J<(d.length:Int))) T (fun Q=>?_) (fun Q=>?_)
   ·have f:=cond_t Q a4
    refine c_skip (n_then (c_seq (c_block 5 (c_mid (fun a w=>∃I:Zone,∃G:Bool,Zone.le K I∧Fr a 95 [(1,sL o_x1 x1 c_x1),(14,sL B o D),(15,sL z g A),(16,vI C),(17,vI H),(18,vI J),(93, .bool G)]∧St I (box b1 [sL X E.1 Y,Z,v3,v4,v5,v6,v7,v8,v9,a0] 29::L) w∧(F32_j2 (F32_l3 (F32_l2 fuel (F32_l1 fuel x1 o g U) o g C n2) o g C H n1) C J G)=some r) ?_ ?_))))
    ·skip
     refine c_reg ?_
     obtain ⟨d,c,f⟩:=bind_some f
     obtain ⟨x,y,z,c,d,A⟩:=SliceR.getI (SliceR.mono (zt (zt (zt k9 R) O) M) a1) c
     obtain ⟨u,c,f⟩:=bind_some f
     obtain ⟨o,_,p,s,t,hehv228896,g⟩:=arrGet d rfl c
     obtain rfl:=List.head_eq_of_cons_eq hehv228896
     obtain ⟨c,d,q⟩:=bind_some f
     obtain ⟨d,g,k,m,rfl,l⟩:=SliceR.getI g d
     refine c_n 11 [.pointer (some x),sL s u t, .pointer (some d), .bool c] [1,14,15,16,17,18,82] T (.prop y (.prop z (.prop o (.cell (F.cell (cell9 (A _ _ p))) (.prop g (.prop k (.cell (F.cell (l 0 _ rfl)) .nil))))))) fun d E=>?_
     rcases bft c with m | m
     ·have f:=cond_t m q
      have D:=E.lit 82 m
      obtain ⟨d,c,f⟩:=bind_some f
      obtain ⟨y,z,A,c,d,B⟩:=SliceR.getI (SliceR.mono (zt (zt R O) M) aa) c
      obtain ⟨x,c,f⟩:=bind_some f
      obtain ⟨p,_,s,t,u,hehv228927,g⟩:=arrGet d rfl c
      obtain rfl:=List.head_eq_of_cons_eq hehv228927
      obtain ⟨c,d,f⟩:=bind_some f
      obtain ⟨d,g,k,o,rfl,l⟩:=SliceR.getI g d
      refine c_t [.pointer (some y),sL t x u, .pointer (some d), .bool c] [1,14,15,16,17,18,93] D (.prop z (.prop A (.prop p (.cell (F.cell (cell9 (B _ _ s))) (.prop g (.prop k (.cell (F.cell (l 0 _ rfl)) .nil))))))) fun g d=>⟨K,c,zr,d.to,F,f⟩
     have f:=cond_f m q
     have c:=E.lit 82 m
     refine c_t [] [1,14,15,16,17,18,93] c .nil fun d c=>⟨K,false,zr,c.to,F,f⟩
    rintro c d ⟨I,G,l,g,m,q⟩
    refine c_if G g (fun d=>?_) (fun d=>?_)
    ·have f:=cond_t d q
     refine c_sq [] [8,9,10] g .nil fun k c=>c_ret (r_block (r_then (r_then (r_block (r_block (r_then (r_then (r_block (r_block (r_then (r_then (r_block (r_then (c_rt [] (.tuple #[.bool false,vI C,vI 0]) c .nil ?_))))))))))))))
     obtain rfl:=some_eq f
     exact ⟨_,rfl,I,(zt (zt (zt (zt (zt (zt (zt W V) k8) k9) R) O) M) l),rfl,(St.drop 1 m)⟩
    have f:=cond_f d q
    refine c_skip (n_block (n_then (c_q [] [1,14,15,16,17,18] g .nil fun d c=>(n_then (⟨n1,Nat.lt_succ_self n1,I,(w64 (J + (1:Int))),(zt M l),c.to,m,f⟩)))))
   have f:=cond_f Q a4
   refine c_exit 4 (x_then (x_then (x_block (n_block (n_then (c_q [] [1,14,15,16,17] T .nil fun d c=>(n_then (⟨n2,Nat.lt_succ_self n2,K,(w64 (H + (1:Int))),(zt O M),c.to,F,f⟩))))))))
  have f:=cond_f a2 a5
  refine c_exit 2 (x_then (x_then (x_block (n_block (n_then (c_q [] [1,14,15,16] a3 .nil fun d c=>(n_then (⟨U,Nat.lt_succ_self U,P,(w64 (C + (1:Int))),(zt R O),c.to,a9,f⟩))))))))
 have f:=cond_f a6 a8
 refine c_exit 0 (x_then (x_then (x_block (n_then (c_sq [] [8,9,10] a7 .nil fun d c=>(c_ret (c_rt [] (.tuple #[.bool true,vI (-1),vI 0]) c .nil ?_)))))))
 obtain rfl:=some_eq f
 exact ⟨_,rfl,S,(zt (zt (zt (zt W V) k8) k9) R),rfl,(St.drop 1 ab)⟩
def F33_j1 (k1:Bool→Int→Option (Bool)) (x0:List Int) (x1:List Int) (y1:Bool) (y2:Int) (y3:Bool):Option (Bool) :=
  (cond y3 ((getI x0 y2).bind fun p1=>((getI x1 y2).bind fun p2=>(k1 (p1 == p2) (w64 (y2 + (1:Int)))))) (some (y1)))
def F33_l1 (x0:List Int) (x1:List Int):Nat→Bool→Int→Option (Bool)
  | 0,_,_=>none
  | n1 + 1,y1,y2 =>
    let k1:Bool→Int→Option (Bool):=F33_l1 x0 x1 n1
    (cond (decide (y2<(x0.length:Int))) (F33_j1 k1 x0 x1 y1 y2 y1) (F33_j1 k1 x0 x1 y1 y2 false))
def F33 (fuel:Nat) (x0:List Int) (x1:List Int):Option (Bool) :=
  (F33_l1 x0 x1 fuel ((x0.length:Int) == (x1.length:Int)) 0)
set_option maxRecDepth 100000 in
theorem f33_ok (fuel:Nat) (x0:List Int) (x1:List Int) (r:Bool) (hr:F33 fuel x0 x1=some r) (h:Zone) (L:List Atom) (w:World) (hS:St h L w) (o_x0:Option Addr) (c_x0:Nat) (hx_x0:SliceR Ty.int h o_x0 c_x0 x0) (o_x1:Option Addr) (c_x1:Nat) (hx_x1:SliceR Ty.int h o_x1 c_x1 x1) :
    Calls Tryz.prog 33 #[.slice o_x0 x0.length c_x0, .slice o_x1 x1.length c_x1] w fun e w'=>∃v,e= .returned v∧(∃h',Zone.le h h'∧v= .bool r∧St h' L w'):=by
 refine calls_intro (N:=31) Tryz.func33 (by kernel_rfl) fun a hf=>c_sq [] [0,1] hf .nil fun c b=>c_sq [] [0,1,5] b .nil fun c b=>c_seq (c_sq [] [0,1,5,6] b .nil fun c b=>(c_block 0 (c_loop (fun n a w=>∃d:Zone,∃z:Bool,∃x:Int,Zone.le h d∧Fr a 31 [(0,sL o_x0 x0 c_x0),(1,sL o_x1 x1 c_x1),(5, .bool z),(6,vI x)]∧St d (L) w∧(F33_l1 x0 x1 n z x)=some r) fuel ⟨h,((x0.length:Int) == (x1.length:Int)),0,zr,b.to,hS,hr⟩ ?_)))
 rintro b c f ⟨d,z,x,D,i,k,u⟩
 cases b with
 | zero=>cases u
 | succ C =>
 refine c_seq (c_mid (fun a w=>∃A:Zone,∃g:Bool,Zone.le d A∧Fr a 31 [(0,sL o_x0 x0 c_x0),(1,sL o_x1 x1 c_x1),(5, .bool z),(6,vI x),(18, .bool g)]∧St A (L) w∧(F33_j1 (F33_l1 x0 x1 C) x0 x1 z x g)=some r) ?_ ?_)
 ·skip
  refine c_reg (c_n 5 [] [0,1,5,6,16] i .nil fun b i=>?_)
  rcases bft (decide (x<(x0.length:Int))) with b | b
  ·have j:=cond_t b u
   have c:=i.lit 16 b
   refine c_t [] [0,1,5,6,18] c .nil fun f c=>⟨d,z,zr,c.to,k,j⟩
  have j:=cond_f b u
  have b:=i.lit 16 b
  refine c_t [] [0,1,5,6,18] b .nil fun c b=>⟨d,false,zr,b.to,k,j⟩
 rintro b c ⟨A,g,t,y,B,u⟩
 refine c_if g y (fun s=>?_) (fun s=>?_)
 ·have j:=cond_t s u
  refine c_skip (n_then (c_seq (c_block 1 ?_)))
  have i:=B.drew
  obtain ⟨k,b,j⟩:=bind_some j
  obtain ⟨l,m,o,b,rfl,p⟩:=SliceR.getI (SliceR.mono (zt D t) hx_x0) b
  obtain ⟨g,b,j⟩:=bind_some j
  obtain ⟨b,c,d,q,rfl,f⟩:=SliceR.getI (SliceR.mono (zt D t) hx_x1) b
  refine c_qD [(0,true),(1,true),(2,true),(3,true),(4,true),(5,true),(6,true),(7,true),(8,true),(9,true)] [] [.pointer (some l),vI k, .pointer (some b),vI g] [0,1,5,6] y (.prop m (.prop o (.cell (i.cell (p 0 _ rfl)) (.prop c (.prop d (.cell (i.cell (f 0 _ rfl)) .nil)))))) .nil fun c b=>n_block (n_then (c_q [] [0,1,5,6] b .nil fun c b=>(n_then (⟨C,Nat.lt_succ_self C,A,(k == g),(w64 (x + (1:Int))),(zt D t),b.to,i,j⟩))))
 have j:=cond_f s u
 refine c_exit 0 (x_then (x_then (x_block (n_then (c_sq [] [4] y .nil fun c b=>(c_ret (c_rt [] (.bool z) b .nil ?_)))))))
 obtain rfl:=some_eq j
 exact ⟨_,rfl,A,(zt D t),rfl,B⟩
def F34_j1 (k1:Bool→Int→Option (Bool)) (x0:List Trail) (x1:List Trail) (y1:Bool) (y2:Int) (y3:Bool):Option (Bool) :=
  (cond y3 ((getI x0 y2).bind fun p1=>((getI x1 y2).bind fun p2=>(k1 ((p1.deed == p2.deed) && ((p1.mass == p2.mass) && true)) (w64 (y2 + (1:Int)))))) (some (y1)))
def F34_l1 (x0:List Trail) (x1:List Trail):Nat→Bool→Int→Option (Bool)
  | 0,_,_=>none
  | n1 + 1,y1,y2 =>
    let k1:Bool→Int→Option (Bool):=F34_l1 x0 x1 n1
    (cond (decide (y2<(x0.length:Int))) (F34_j1 k1 x0 x1 y1 y2 y1) (F34_j1 k1 x0 x1 y1 y2 false))
def F34 (fuel:Nat) (x0:List Trail) (x1:List Trail):Option (Bool) :=
  (F34_l1 x0 x1 fuel ((x0.length:Int) == (x1.length:Int)) 0)
set_option maxRecDepth 100000 in
theorem f34_ok (fuel:Nat) (x0:List Trail) (x1:List Trail) (r:Bool) (hr:F34 fuel x0 x1=some r) (h:Zone) (L:List Atom) (w:World) (hS:St h L w) (o_x0:Option Addr) (c_x0:Nat) (hx_x0:SliceR TrailT h o_x0 c_x0 x0) (o_x1:Option Addr) (c_x1:Nat) (hx_x1:SliceR TrailT h o_x1 c_x1 x1) :
    Calls Tryz.prog 34 #[.slice o_x0 x0.length c_x0, .slice o_x1 x1.length c_x1] w fun e w'=>∃v,e= .returned v∧(∃h',Zone.le h h'∧v= .bool r∧St h' L w'):=by
 refine calls_intro (N:=31) Tryz.func34 (by kernel_rfl) fun a hf=>c_sq [] [0,1] hf .nil fun c b=>c_sq [] [0,1,5] b .nil fun c b=>c_seq (c_sq [] [0,1,5,6] b .nil fun c b=>(c_block 0 (c_loop (fun n a w=>∃d:Zone,∃z:Bool,∃x:Int,Zone.le h d∧Fr a 31 [(0,sL o_x0 x0 c_x0),(1,sL o_x1 x1 c_x1),(5, .bool z),(6,vI x)]∧St d (L) w∧(F34_l1 x0 x1 n z x)=some r) fuel ⟨h,((x0.length:Int) == (x1.length:Int)),0,zr,b.to,hS,hr⟩ ?_)))
 rintro b c f ⟨d,z,x,D,i,j,u⟩
 cases b with
 | zero=>cases u
 | succ C =>
 refine c_seq (c_mid (fun a w=>∃A:Zone,∃g:Bool,Zone.le d A∧Fr a 31 [(0,sL o_x0 x0 c_x0),(1,sL o_x1 x1 c_x1),(5, .bool z),(6,vI x),(18, .bool g)]∧St A (L) w∧(F34_j1 (F34_l1 x0 x1 C) x0 x1 z x g)=some r) ?_ ?_)
 ·skip
  refine c_reg (c_n 5 [] [0,1,5,6,16] i .nil fun b i=>?_)
  rcases bft (decide (x<(x0.length:Int))) with b | b
  ·have l:=cond_t b u
   have c:=i.lit 16 b
   refine c_t [] [0,1,5,6,18] c .nil fun f c=>⟨d,z,zr,c.to,j,l⟩
  have l:=cond_f b u
  have b:=i.lit 16 b
  refine c_t [] [0,1,5,6,18] b .nil fun c b=>⟨d,false,zr,b.to,j,l⟩
 rintro b c ⟨A,g,t,y,B,u⟩
 refine c_if g y (fun s=>?_) (fun s=>?_)
 ·have l:=cond_t s u
  refine c_skip (n_then (c_seq (c_block 1 ?_)))
  have d:=B.drew
  obtain ⟨f,b,l⟩:=bind_some l
  obtain ⟨m,o,p,b,rfl,g⟩:=SliceR.getI (SliceR.mono (zt D t) hx_x0) b
  obtain ⟨c,b,l⟩:=bind_some l
  obtain ⟨i,j,k,q,rfl,b⟩:=SliceR.getI (SliceR.mono (zt D t) hx_x1) b
  refine c_qD [(0,true),(1,true),(2,true),(3,true),(4,true),(5,true),(6,true),(7,true),(8,true),(9,true)] [] [.pointer (some m),vI f.deed,vI f.mass, .pointer (some i),vI c.deed,vI c.mass] [0,1,5,6] y (.prop o (.prop p (.cell (d.cell (g 0 _ rfl)) (.cell (d.cell (g 1 _ rfl)) (.prop j (.prop k (.cell (d.cell (b 0 _ rfl)) (.cell (d.cell (b 1 _ rfl)) .nil)))))))) .nil fun g b=>n_block (n_then (c_q [] [0,1,5,6] b .nil fun g b=>(n_then (⟨C,Nat.lt_succ_self C,A,((f.deed == c.deed) && ((f.mass == c.mass) && true)),(w64 (x + (1:Int))),(zt D t),b.to,d,l⟩))))
 have l:=cond_f s u
 refine c_exit 0 (x_then (x_then (x_block (n_then (c_sq [] [4] y .nil fun c b=>(c_ret (c_rt [] (.bool z) b .nil ?_)))))))
 obtain rfl:=some_eq l
 exact ⟨_,rfl,A,(zt D t),rfl,B⟩
def F9_j1 (y1:Bool):Option (Bool) :=
  (some (y1))
def F9 (fuel:Nat) (x0:List Lot) (x1:List Deed) (y2:Int) (y3:Int) (y4:Int):Option (Bool) :=
  ((F24 fuel x0 x1 y2).bind fun r1=>((F25 fuel x0 x1 y2).bind fun r2=>((F26 fuel x0 x1 y2).bind fun r3=>((F27 fuel x0 x1 y2).bind fun r4=>((F28 fuel x0 x1 y3).bind fun r5=>((F29 fuel x0 x1 y3).bind fun r6=>((F30 fuel x0 x1 y3).bind fun r7=>((F31 fuel x0 x1 y3).bind fun r8=>((F16 fuel x0 x1 y3 y4).bind fun r9=>((F32 fuel x0 x1 y3 y4).bind fun r10=>((F8 fuel r1.1 r1.2.1 r2.1 r2.2.1).bind fun r11=>((F33 fuel r1.2.2.1 r2.2.2.1).bind fun r12=>((F34 fuel r5.1 r6.1).bind fun r13=>((F33 fuel r7.1 r8.1).bind fun r14=>(cond r11 (cond r12 (cond r13 (cond r14 (cond (r1.2.2.2 == r2.2.2.2) (cond (r3.1 == r4.1) (cond (r3.2 == r4.2) (cond (r5.2 == r6.2) (cond (r7.2 == r8.2) (cond (r9.1 == r10.1) (cond (r9.2.1 == r10.2.1) (F9_j1 (r9.2.2 == r10.2.2)) (F9_j1 false)) (F9_j1 false)) (F9_j1 false)) (F9_j1 false)) (F9_j1 false)) (F9_j1 false)) (F9_j1 false)) (F9_j1 false)) (F9_j1 false)) (F9_j1 false)) (F9_j1 false))))))))))))))))
set_option maxRecDepth 100000 in
theorem f9_ok (fuel:Nat) (x0:List Lot) (x1:List Deed) (y2:Int) (y3:Int) (y4:Int) (r:Bool) (hr:F9 fuel x0 x1 y2 y3 y4=some r) (h:Zone) (L:List Atom) (w:World) (hS:St h L w) (o_x0:Option Addr) (c_x0:Nat) (hx_x0:SliceR LotT h o_x0 c_x0 x0) (o_x1:Option Addr) (c_x1:Nat) (hx_x1:SliceR DeedT h o_x1 c_x1 x1) :
    Calls Tryz.prog 9 #[.slice o_x0 x0.length c_x0, .slice o_x1 x1.length c_x1, .agg #[vI y2,vI y3,vI y4]] w fun e w'=>∃v,e= .returned v∧(∃h',Zone.le h h'∧v= .bool r∧St h' L w'):=by
 refine calls_intro (N:=185) Tryz.func9 (by kernel_rfl) fun a hf=>c_sr (c_box [vI y2,vI y3,vI y4] 24 hS hf fun s l m f c=>tv (c_t [] [0,1,5] c .nil fun n d=>(c_sr (c_n (oC:=[.prop ((0:Int)≤0∧(0:Int)<(3:Nat)), .cell ⟨s,0,none⟩ (vI y2)]) 4 [vI y2] [0,1,5,36,37,39] d (.prop (by decide) (.cell (f.bx 0 0 rfl rfl) .nil)) fun o g=>?_))))
 obtain ⟨O,c,k⟩:=bind_some hr
 refine c_call g (f24_ok fuel x0 x1 y2 O c h _ _ f o_x0 c_x0 hx_x0 o_x1 c_x1 hx_x1) ?_
 rintro d f g ⟨m,e1,q1,v2,v3,v4,v5,v6,v7,v8,v9,a2,e2,q2,H,rfl,l,a1,o,af⟩ c
 refine tv (c_n 4 [] [0,1,5,41,42,43] c .nil fun d c=>c_box [N0,N0,N0,N0,N0,N0,N0,N0,N0,N0] 29 l c fun b2 c g d f=>tv ?_)
 have c:=oneCells_of (Ty.one _ (Ty.mono _ zr o))
 refine p_store_eq (i:=10) (j:=0) (b:=b2) (off:=0) (vs:=[sL e1 O.1 q1,v2,v3,v4,v5,v6,v7,v8,v9,a2]) (cs':=[sL e1 O.1 q1,v2,v3,v4,v5,v6,v7,v8,v9,a2]) d f rfl (by kernel_rfl) c rfl fun f g d c=>tv (c_t [] [0,1,5,7,8,9] c .nil fun f c=>c_sr (c_n (oC:=[.prop ((0:Int)≤0∧(0:Int)<(3:Nat)), .cell ⟨s,0,none⟩ (vI y2)]) 4 [vI y2] [0,1,5,7,8,9,45,46,48] c (.prop (by decide) (.cell (d.bx 1 0 rfl rfl) .nil)) fun c f=>?_))
 obtain ⟨J,c,k⟩:=bind_some k
 refine c_call f (f25_ok fuel x0 x1 y2 J c m _ _ d o_x0 c_x0 (SliceR.mono H hx_x0) o_x1 c_x1 (SliceR.mono H hx_x1)) ?_
 rintro d f g ⟨m,M,Q,R,S,T,U,V,W,X,Y,Z,e4,q4,A,rfl,l,z,n,a5⟩ c
 refine tv (c_n 4 [] [0,1,5,7,8,9,50,51,52] c .nil fun d c=>c_box [N0,N0,N0,N0,N0,N0,N0,N0,N0,N0] 29 l c fun b3 c g d f=>tv ?_)
 have c:=oneCells_of (Ty.one _ (Ty.mono _ zr n))
 refine p_store_eq (i:=10) (j:=0) (b:=b3) (off:=0) (vs:=[sL M J.1 Q,R,S,T,U,V,W,X,Y,Z]) (cs':=[sL M J.1 Q,R,S,T,U,V,W,X,Y,Z]) d f rfl (by kernel_rfl) c rfl fun f g d c=>tv (c_t [] [0,1,5,7,8,9,10,11,12] c .nil fun f c=>c_sr (c_n (oC:=[.prop ((0:Int)≤0∧(0:Int)<(3:Nat)), .cell ⟨s,0,none⟩ (vI y2)]) 4 [vI y2] [0,1,5,7,8,9,10,11,12,54,55,57] c (.prop (by decide) (.cell (d.bx 2 0 rfl rfl) .nil)) fun c f=>?_))
 obtain ⟨r3,c,k⟩:=bind_some k
 refine c_call f (f26_ok fuel x0 x1 y2 r3 c m _ _ d o_x0 c_x0 (SliceR.mono (zt H A) hx_x0) o_x1 c_x1 (SliceR.mono (zt H A) hx_x1)) ?_
 rintro d g l ⟨m,x,rfl,f⟩ c
 refine tv (c_t [] [0,1,5,7,8,9,10,11,12,13,14] c .nil fun d c=>c_sr (c_n (oC:=[.prop ((0:Int)≤0∧(0:Int)<(3:Nat)), .cell ⟨s,0,none⟩ (vI y2)]) 4 [vI y2] [0,1,5,7,8,9,10,11,12,13,14,62,63,65] c (.prop (by decide) (.cell (f.bx 2 0 rfl rfl) .nil)) fun c d=>?_))
 obtain ⟨r4,c,k⟩:=bind_some k
 refine c_call d (f27_ok fuel x0 x1 y2 r4 c m _ _ f o_x0 c_x0 (SliceR.mono (zt (zt H A) x) hx_x0) o_x1 c_x1 (SliceR.mono (zt (zt H A) x) hx_x1)) ?_
 rintro d g l ⟨m,y,rfl,f⟩ c
 refine tv (c_t [] [0,1,5,7,8,9,10,11,12,13,14,15,16] c .nil fun d c=>c_sr (c_n (oC:=[.prop ((0:Int)≤1∧(1:Int)<(3:Nat)), .cell ⟨s,1,none⟩ (vI y3)]) 4 [vI y3] [0,1,5,7,8,9,10,11,12,13,14,15,16,70,71,73] c (.prop (by decide) (.cell (f.bx 2 1 rfl rfl) .nil)) fun c d=>?_))
 obtain ⟨r5,c,k⟩:=bind_some k
 refine c_call d (f28_ok fuel x0 x1 y3 r5 c m _ _ f o_x0 c_x0 (SliceR.mono (zt (zt (zt H A) x) y) hx_x0) o_x1 c_x1 (SliceR.mono (zt (zt (zt H A) x) y) hx_x1)) ?_
 rintro d g l ⟨m,e5,q5,B,rfl,f,ab⟩ c
 refine tv (c_t [] [0,1,5,7,8,9,10,11,12,13,14,15,16,17,18] c .nil fun d c=>c_sr (c_n (oC:=[.prop ((0:Int)≤1∧(1:Int)<(3:Nat)), .cell ⟨s,1,none⟩ (vI y3)]) 4 [vI y3] [0,1,5,7,8,9,10,11,12,13,14,15,16,17,18,78,79,81] c (.prop (by decide) (.cell (f.bx 2 1 rfl rfl) .nil)) fun c d=>?_))
 obtain ⟨r6,c,k⟩:=bind_some k
 refine c_call d (f29_ok fuel x0 x1 y3 r6 c m _ _ f o_x0 c_x0 (SliceR.mono (zt (zt (zt (zt H A) x) y) B) hx_x0) o_x1 c_x1 (SliceR.mono (zt (zt (zt (zt H A) x) y) B) hx_x1)) ?_
 rintro d g l ⟨m,e6,q6,D,rfl,f,a8⟩ c
 refine tv (c_t [] [0,1,5,7,8,9,10,11,12,13,14,15,16,17,18,19,20] c .nil fun d c=>c_sr (c_n (oC:=[.prop ((0:Int)≤1∧(1:Int)<(3:Nat)), .cell ⟨s,1,none⟩ (vI y3)]) 4 [vI y3] [0,1,5,7,8,9,10,11,12,13,14,15,16,17,18,19,20,86,87,89] c (.prop (by decide) (.cell (f.bx 2 1 rfl rfl) .nil)) fun c d=>?_))
 obtain ⟨r7,c,k⟩:=bind_some k
 refine c_call d (f30_ok fuel x0 x1 y3 r7 c m _ _ f o_x0 c_x0 (SliceR.mono (zt (zt (zt (zt (zt H A) x) y) B) D) hx_x0) o_x1 c_x1 (SliceR.mono (zt (zt (zt (zt (zt H A) x) y) B) D) hx_x1)) ?_
 rintro d g l ⟨m,e7,q7,E,rfl,f,a9⟩ c
 refine tv (c_t [] [0,1,5,7,8,9,10,11,12,13,14,15,16,17,18,19,20,21,22] c .nil fun d c=>c_sr (c_n (oC:=[.prop ((0:Int)≤1∧(1:Int)<(3:Nat)), .cell ⟨s,1,none⟩ (vI y3)]) 4 [vI y3] [0,1,5,7,8,9,10,11,12,13,14,15,16,17,18,19,20,21,22,94,95,97] c (.prop (by decide) (.cell (f.bx 2 1 rfl rfl) .nil)) fun c d=>?_))
 obtain ⟨r8,c,k⟩:=bind_some k
 refine c_call d (f31_ok fuel x0 x1 y3 r8 c m _ _ f o_x0 c_x0 (SliceR.mono (zt (zt (zt (zt (zt (zt H A) x) y) B) D) E) hx_x0) o_x1 c_x1 (SliceR.mono (zt (zt (zt (zt (zt (zt H A) x) y) B) D) E) hx_x1)) ?_
 rintro f g l ⟨m,t,u,G,rfl,c,a6⟩ d
 refine tv (c_t [] [0,1,5,7,8,9,10,11,12,13,14,15,16,17,18,19,20,21,22,23,24] d .nil fun f d=>c_sr (c_n (oC:=[.prop ((0:Int)≤1∧(1:Int)<(3:Nat)), .cell ⟨s,1,none⟩ (vI y3), .prop ((0:Int)≤2∧(2:Int)<(3:Nat)), .cell ⟨s,2,none⟩ (vI y4)]) 6 [vI y3,vI y4] [0,1,5,7,8,9,10,11,12,13,14,15,16,17,18,19,20,21,22,23,24,102,103,105,107] d (.prop (by decide) (.cell (c.bx 2 1 rfl rfl) (.prop (by decide) (.cell (c.bx 2 2 rfl rfl) .nil)))) fun d f=>?_))
 obtain ⟨r9,d,k⟩:=bind_some k
 refine c_call f (f16_ok fuel x0 x1 y3 y4 r9 d m _ _ c o_x0 c_x0 (SliceR.mono (zt (zt (zt (zt (zt (zt (zt H A) x) y) B) D) E) G) hx_x0) o_x1 c_x1 (SliceR.mono (zt (zt (zt (zt (zt (zt (zt H A) x) y) B) D) E) G) hx_x1)) ?_
 rintro f g l ⟨m,I,rfl,c⟩ d
 refine tv (c_t [] [0,1,5,7,8,9,10,11,12,13,14,15,16,17,18,19,20,21,22,23,24,25,26,27] d .nil fun f d=>c_sr (c_n (oC:=[.prop ((0:Int)≤1∧(1:Int)<(3:Nat)), .cell ⟨s,1,none⟩ (vI y3), .prop ((0:Int)≤2∧(2:Int)<(3:Nat)), .cell ⟨s,2,none⟩ (vI y4)]) 6 [vI y3,vI y4] [7,8,9,10,11,12,13,14,15,16,17,18,19,20,21,22,23,24,25,26,27,113,114,116,118] d (.prop (by decide) (.cell (c.bx 2 1 rfl rfl) (.prop (by decide) (.cell (c.bx 2 2 rfl rfl) .nil)))) fun d f=>?_))
 obtain ⟨a3,d,k⟩:=bind_some k
 refine c_call f (f32_ok fuel x0 x1 y3 y4 a3 d m _ _ c o_x0 c_x0 (SliceR.mono (zt (zt (zt (zt (zt (zt (zt (zt H A) x) y) B) D) E) G) I) hx_x0) o_x1 c_x1 (SliceR.mono (zt (zt (zt (zt (zt (zt (zt (zt H A) x) y) B) D) E) G) I) hx_x1)) ?_
 rintro f g l ⟨m,K,rfl,c⟩ d
 refine tv (c_t [] [7,8,9,10,11,12,13,14,15,16,17,18,19,20,21,22,23,24,25,26,27,28,29,30] d .nil fun f d=>c_sr (c_n 2 [sL e1 O.1 q1,v2,v3,v4,v5,v6,v7,v8,v9,a2,sL M J.1 Q,R,S,T,U,V,W,X,Y,Z] [8,9,11,12,13,14,15,16,17,18,19,20,21,22,23,24,25,26,27,28,29,30,123,124] d (.cell (c.bx 1 0 rfl rfl) (.cell (c.bx 1 1 rfl rfl) (.cell (c.bx 1 2 rfl rfl) (.cell (c.bx 1 3 rfl rfl) (.cell (c.bx 1 4 rfl rfl) (.cell (c.bx 1 5 rfl rfl) (.cell (c.bx 1 6 rfl rfl) (.cell (c.bx 1 7 rfl rfl) (.cell (c.bx 1 8 rfl rfl) (.cell (c.bx 1 9 rfl rfl) (.cell (c.bx 0 0 rfl rfl) (.cell (c.bx 0 1 rfl rfl) (.cell (c.bx 0 2 rfl rfl) (.cell (c.bx 0 3 rfl rfl) (.cell (c.bx 0 4 rfl rfl) (.cell (c.bx 0 5 rfl rfl) (.cell (c.bx 0 6 rfl rfl) (.cell (c.bx 0 7 rfl rfl) (.cell (c.bx 0 8 rfl rfl) (.cell (c.bx 0 9 rfl rfl) .nil)))))))))))))))))))) fun d f=>?_))
 obtain ⟨C,d,k⟩:=bind_some k
 refine c_call f (f8_ok fuel O.1 O.2.1 J.1 J.2.1 C d m _ _ c e1 q1 (SliceR.mono (zt (zt (zt (zt (zt (zt (zt (zt A x) y) B) D) E) G) I) K) a1) v2 v3 v4 v5 v6 v7 v8 v9 a2 (Ty.mono _ (zt (zt (zt (zt (zt (zt (zt (zt A x) y) B) D) E) G) I) K) o) M Q (SliceR.mono (zt (zt (zt (zt (zt (zt (zt x y) B) D) E) G) I) K) z) R S T U V W X Y Z (Ty.mono _ (zt (zt (zt (zt (zt (zt (zt x y) B) D) E) G) I) K) n)) ?_
 rintro d f g ⟨l,a1,rfl,m⟩ c
 refine tv (c_t [] [8,9,11,12,13,14,15,16,17,18,19,20,21,22,23,24,25,26,27,28,29,30,31] c .nil fun d c=>c_sr (c_n 2 [] [9,12,13,14,15,16,17,18,19,20,21,22,23,24,25,26,27,28,29,30,31,126,127] c .nil fun c d=>?_))
 obtain ⟨z,c,k⟩:=bind_some k
 refine c_call d (f33_ok fuel O.2.2.1 J.2.2.1 z c l _ _ m e2 q2 (SliceR.mono (zt (zt (zt (zt (zt (zt (zt (zt (zt A x) y) B) D) E) G) I) K) a1) af) e4 q4 (SliceR.mono (zt (zt (zt (zt (zt (zt (zt (zt x y) B) D) E) G) I) K) a1) a5)) ?_
 rintro d f g ⟨l,a5,rfl,m⟩ c
 refine tv (c_t [] [9,12,13,14,15,16,17,18,19,20,21,22,23,24,25,26,27,28,29,30,31,32] c .nil fun d c=>c_sr (c_n 2 [] [9,12,13,14,15,16,18,20,21,22,23,24,25,26,27,28,29,30,31,32,129,130] c .nil fun c d=>?_))
 obtain ⟨o,c,k⟩:=bind_some k
 refine c_call d (f34_ok fuel r5.1 r6.1 o c l _ _ m e5 q5 (SliceR.mono (zt (zt (zt (zt (zt (zt D E) G) I) K) a1) a5) ab) e6 q6 (SliceR.mono (zt (zt (zt (zt (zt E G) I) K) a1) a5) a8)) ?_
 rintro d f g ⟨l,a8,rfl,m⟩ c
 refine tv (c_t [] [9,12,13,14,15,16,18,20,21,22,23,24,25,26,27,28,29,30,31,32,33] c .nil fun d c=>c_sr (c_n 2 [] [9,12,13,14,15,16,18,20,22,24,25,26,27,28,29,30,31,32,33,132,133] c .nil fun c d=>?_))
 obtain ⟨n,c,ae⟩:=bind_some k
 refine c_call d (f33_ok fuel r7.1 r8.1 n c l _ _ m e7 q7 (SliceR.mono (zt (zt (zt (zt (zt G I) K) a1) a5) a8) a9) t u (SliceR.mono (zt (zt (zt (zt I K) a1) a5) a8) a6)) ?_
 rintro d f g ⟨t,a9,rfl,u⟩ c
 refine tv (c_t [] [9,12,13,14,15,16,18,20,22,24,25,26,27,28,29,30,31,32,33,34] c .nil fun c d=>c_mid (fun a w=>∃a6:Zone,∃y1:Bool,Zone.le t a6∧Fr a 185 [(6, .bool y1)]∧St a6 (box b3 [sL M J.1 Q,R,S,T,U,V,W,X,Y,Z] 29::box b2 [sL e1 O.1 q1,v2,v3,v4,v5,v6,v7,v8,v9,a2] 29::box s [vI y2,vI y3,vI y4] 24::L) w∧(F9_j1 y1)=some r) ?_ ?_)
 ·skip
  refine c_reg (c_n 2 [] [9,12,13,14,15,16,18,20,22,24,25,26,27,28,29,30,32,33,34,136] d .nil fun c Z=>?_)
  rcases bft C with T | T
  ·have ad:=cond_t T ae
   have c:=Z.lit 136 T
   refine c_n 3 [] [9,12,13,14,15,16,18,20,22,24,25,26,27,28,29,30,33,34,139] c .nil fun c Y=>?_
   rcases bft z with R | R
   ·have ac:=cond_t R ad
    have c:=Y.lit 139 R
    refine c_n 3 [] [9,12,13,14,15,16,18,20,22,24,25,26,27,28,29,30,34,142] c .nil fun c X=>?_
    rcases bft o with Q | Q
    ·have aa:=cond_t Q ac
     have c:=X.lit 142 Q
     refine c_n 3 [] [9,12,13,14,15,16,18,20,22,24,25,26,27,28,29,30,145] c .nil fun c W=>?_
     rcases bft n with M | M
     ·have a7:=cond_t M aa
      have c:=W.lit 145 M
      refine c_n 5 [] [13,14,15,16,18,20,22,24,25,26,27,28,29,30,150] c .nil fun c V=>?_
      rcases bft (O.2.2.2 == J.2.2.2) with J | J
      ·have a4:=cond_t J a7
       have c:=V.lit 150 J
       refine c_n 5 [] [14,16,18,20,22,24,25,26,27,28,29,30,155] c .nil fun c U=>?_
       rcases bft (r3.1 == r4.1) with z | z
       ·have a0:=cond_t z a4
        have c:=U.lit 155 z
        refine c_n 5 [] [18,20,22,24,25,26,27,28,29,30,160] c .nil fun c S=>?_
        rcases bft (r3.2 == r4.2) with s | s
        ·have P:=cond_t s a0
         have c:=S.lit 160 s
         refine c_n 5 [] [22,24,25,26,27,28,29,30,165] c .nil fun c O=>?_
         rcases bft (r5.2 == r6.2) with n | n
         ·have F:=cond_t n P
          have c:=O.lit 165 n
          refine c_n 5 [] [25,26,27,28,29,30,170] c .nil fun c C=>?_
          rcases bft (r7.2 == r8.2) with m | m
          ·have q:=cond_t m F
           have c:=C.lit 170 m
           refine c_n 5 [] [26,27,29,30,175] c .nil fun c o=>?_
           rcases bft (r9.1 == a3.1) with f | f
           ·have p:=cond_t f q
            have c:=o.lit 175 f
            refine c_n 5 [] [27,30,180] c .nil fun c l=>?_
            rcases bft (r9.2.1 == a3.2.1) with c | c
            ·have k:=cond_t c p
             have d:=l.lit 180 c
             refine c_t [] [6] d .nil fun g d=>⟨t,(r9.2.2 == a3.2.2),zr,d.to,u,k⟩
            have k:=cond_f c p
            have c:=l.lit 180 c
            refine c_t [] [6] c .nil fun d c=>⟨t,false,zr,c.to,u,k⟩
           have k:=cond_f f q
           have c:=o.lit 175 f
           refine c_t [] [6] c .nil fun d c=>⟨t,false,zr,c.to,u,k⟩
          have k:=cond_f m F
          have c:=C.lit 170 m
          refine c_t [] [6] c .nil fun d c=>⟨t,false,zr,c.to,u,k⟩
         have k:=cond_f n P
         have c:=O.lit 165 n
         refine c_t [] [6] c .nil fun d c=>⟨t,false,zr,c.to,u,k⟩
        have k:=cond_f s a0
        have c:=S.lit 160 s
        refine c_t [] [6] c .nil fun d c=>⟨t,false,zr,c.to,u,k⟩
       have k:=cond_f z a4
       have c:=U.lit 155 z
       refine c_t [] [6] c .nil fun d c=>⟨t,false,zr,c.to,u,k⟩
      have k:=cond_f J a7
      have c:=V.lit 150 J
      refine c_t [] [6] c .nil fun d c=>⟨t,false,zr,c.to,u,k⟩
     have k:=cond_f M aa
     have c:=W.lit 145 M
     refine c_t [] [6] c .nil fun d c=>⟨t,false,zr,c.to,u,k⟩
    have k:=cond_f Q ac
    have c:=X.lit 142 Q
    refine c_t [] [6] c .nil fun d c=>⟨t,false,zr,c.to,u,k⟩
   have k:=cond_f R ad
   have c:=Y.lit 139 R
   refine c_t [] [6] c .nil fun d c=>⟨t,false,zr,c.to,u,k⟩
  have k:=cond_f T ae
  have c:=Z.lit 136 T
  refine c_t [] [6] c .nil fun d c=>⟨t,false,zr,c.to,u,k⟩
 rintro d f ⟨a6,y1,g,c,l,k⟩
 refine c_ret (c_rt [] (.bool y1) c .nil ?_)
 obtain rfl:=some_eq k
 exact ⟨_,rfl,a6,(zt (zt (zt (zt (zt (zt (zt (zt (zt (zt (zt (zt (zt (zt H A) x) y) B) D) E) G) I) K) a1) a5) a8) a9) g),rfl,(St.drop 3 l)⟩
def F3_j1 (y1:Bool):Option (Bool) :=
  (some (y1))
def F3 (fuel:Nat) (x0:List Lot) (x1:List Deed) (y2:Int) (y3:Int) (y4:Int):Option (Bool) :=
  ((F5 fuel ).bind fun r1=>((F6 fuel x0 x1).bind fun r2=>((F7 fuel x0 x1).bind fun r3=>((F8 fuel r2.1 r2.2.1 r3.1 r3.2.1).bind fun r4=>(cond r1 (cond r4 (cond (r2.2.2.1 == r3.2.2.1) (cond (r2.2.2.2 == r3.2.2.2) ((F9 fuel x0 x1 y2 y3 y4).bind fun r5=>(F3_j1 r5)) (F3_j1 false)) (F3_j1 false)) (F3_j1 false)) (F3_j1 false))))))
set_option maxRecDepth 100000 in
theorem f3_ok (fuel:Nat) (x0:List Lot) (x1:List Deed) (y2:Int) (y3:Int) (y4:Int) (r:Bool) (hr:F3 fuel x0 x1 y2 y3 y4=some r) (h:Zone) (L:List Atom) (w:World) (hS:St h L w) (o_x0:Option Addr) (c_x0:Nat) (hx_x0:SliceR LotT h o_x0 c_x0 x0) (o_x1:Option Addr) (c_x1:Nat) (hx_x1:SliceR DeedT h o_x1 c_x1 x1) :
    Calls Tryz.prog 3 #[.slice o_x0 x0.length c_x0, .slice o_x1 x1.length c_x1, .agg #[vI y2,vI y3,vI y4]] w fun e w'=>∃v,e= .returned v∧(∃h',Zone.le h h'∧v= .bool r∧St h' L w'):=by
 refine calls_intro (N:=53) Tryz.func3 (by kernel_rfl) fun a hf=>c_sr (c_box [vI y2,vI y3,vI y4] 24 hS hf fun b1 k l d c=>tv (c_t [] [0,1,5] c .nil fun m f=>(c_sr ?_)))
 obtain ⟨r1,c,g⟩:=bind_some hr
 refine c_call f (f5_ok fuel  r1 c h _ _ d ) ?_
 rintro d f k ⟨l,X,rfl,m⟩ c
 refine tv (c_t [] [0,1,5,7] c .nil fun d c=>c_sr (c_n 2 [] [0,1,5,7,17,18] c .nil fun c d=>?_))
 obtain ⟨C,c,g⟩:=bind_some g
 refine c_call d (f6_ok fuel x0 x1 C c l _ _ m o_x0 c_x0 (SliceR.mono X hx_x0) o_x1 c_x1 (SliceR.mono X hx_x1)) ?_
 rintro d f k ⟨m,D,E,F,G,H,I,J,K,M,O,P,k2,rfl,l,a0,U⟩ c
 refine tv (c_n 4 [] [0,1,5,7,20,21,22] c .nil fun d c=>c_box [N0,N0,N0,N0,N0,N0,N0,N0,N0,N0] 29 l c fun V c k d f=>tv ?_)
 have c:=oneCells_of (Ty.one _ (Ty.mono _ zr U))
 refine p_store_eq (i:=8) (j:=0) (b:=V) (off:=0) (vs:=[sL D C.1 E,F,G,H,I,J,K,M,O,P]) (cs':=[sL D C.1 E,F,G,H,I,J,K,M,O,P]) d f rfl (by kernel_rfl) c rfl fun d f k c=>tv (c_t [] [0,1,5,7,8,9,10] c .nil fun d c=>c_sr (c_n 2 [] [0,1,5,7,8,9,10,24,25] c .nil fun c d=>?_))
 obtain ⟨A,c,g⟩:=bind_some g
 refine c_call d (f7_ok fuel x0 x1 A c m _ _ k o_x0 c_x0 (SliceR.mono (zt X k2) hx_x0) o_x1 c_x1 (SliceR.mono (zt X k2) hx_x1)) ?_
 rintro d f y ⟨S,k,l,m,n,o,p,q,s,t,u,x,Y,rfl,z,T,B⟩ c
 refine tv (c_n 4 [] [0,1,5,7,8,9,10,27,28,29] c .nil fun d c=>c_box [N0,N0,N0,N0,N0,N0,N0,N0,N0,N0] 29 z c fun z c y d f=>tv ?_)
 have c:=oneCells_of (Ty.one _ (Ty.mono _ zr B))
 refine p_store_eq (i:=8) (j:=0) (b:=z) (off:=0) (vs:=[sL k A.1 l,m,n,o,p,q,s,t,u,x]) (cs':=[sL k A.1 l,m,n,o,p,q,s,t,u,x]) d f rfl (by kernel_rfl) c rfl fun f y c d=>tv (c_t [] [0,1,5,7,8,9,10,11,12,13] d .nil fun f d=>c_sr (c_n 2 [sL D C.1 E,F,G,H,I,J,K,M,O,P,sL k A.1 l,m,n,o,p,q,s,t,u,x] [0,1,5,7,9,10,12,13,30,31] d (.cell (c.bx 1 0 rfl rfl) (.cell (c.bx 1 1 rfl rfl) (.cell (c.bx 1 2 rfl rfl) (.cell (c.bx 1 3 rfl rfl) (.cell (c.bx 1 4 rfl rfl) (.cell (c.bx 1 5 rfl rfl) (.cell (c.bx 1 6 rfl rfl) (.cell (c.bx 1 7 rfl rfl) (.cell (c.bx 1 8 rfl rfl) (.cell (c.bx 1 9 rfl rfl) (.cell (c.bx 0 0 rfl rfl) (.cell (c.bx 0 1 rfl rfl) (.cell (c.bx 0 2 rfl rfl) (.cell (c.bx 0 3 rfl rfl) (.cell (c.bx 0 4 rfl rfl) (.cell (c.bx 0 5 rfl rfl) (.cell (c.bx 0 6 rfl rfl) (.cell (c.bx 0 7 rfl rfl) (.cell (c.bx 0 8 rfl rfl) (.cell (c.bx 0 9 rfl rfl) .nil)))))))))))))))))))) fun d f=>?_))
 obtain ⟨Q,d,a1⟩:=bind_some g
 refine c_call f (f8_ok fuel C.1 C.2.1 A.1 A.2.1 Q d S _ _ c D E (SliceR.mono Y a0) F G H I J K M O P (Ty.mono _ Y U) k l T m n o p q s t u x (Ty.mono _ zr B)) ?_
 rintro d f y ⟨S,U,rfl,B⟩ c
 refine tv (c_t [] [0,1,5,7,9,10,12,13,14] c .nil fun c d=>c_mid (fun a w=>∃T:Zone,∃y:Bool,Zone.le S T∧Fr a 53 [(6, .bool y)]∧St T (box z [sL k A.1 l,m,n,o,p,q,s,t,u,x] 29::box V [sL D C.1 E,F,G,H,I,J,K,M,O,P] 29::box b1 [vI y2,vI y3,vI y4] 24::L) w∧(F3_j1 y)=some r) ?_ ?_)
 ·skip
  refine c_reg (c_n 2 [] [0,1,5,9,10,12,13,14,34] d .nil fun c D=>?_)
  rcases bft r1 with u | u
  ·have Z:=cond_t u a1
   have c:=D.lit 34 u
   refine c_n 3 [] [0,1,5,9,10,12,13,37] c .nil fun c z=>?_
   rcases bft Q with s | s
   ·have W:=cond_t s Z
    have c:=z.lit 37 s
    refine c_n 5 [] [0,1,5,10,13,42] c .nil fun c x=>?_
    rcases bft (C.2.2.1 == A.2.2.1) with q | q
    ·have R:=cond_t q W
     have c:=x.lit 42 q
     refine c_n 5 [] [0,1,5,47] c .nil fun c t=>?_
     rcases bft (C.2.2.2 == A.2.2.2) with d | d
     ·have g:=cond_t d R
      have c:=t.lit 47 d
      refine c_n 3 [vI y2,vI y3,vI y4] [47,48,49,50] c (.cell (B.bx 2 0 rfl rfl) (.cell (B.bx 2 1 rfl rfl) (.cell (B.bx 2 2 rfl rfl) .nil))) fun c f=>?_
      obtain ⟨k,c,g⟩:=bind_some g
      refine c_call f (f9_ok fuel x0 x1 y2 y3 y4 k c S _ _ B o_x0 c_x0 (SliceR.mono (zt (zt (zt X k2) Y) U) hx_x0) o_x1 c_x1 (SliceR.mono (zt (zt (zt X k2) Y) U) hx_x1)) ?_
      rintro f l m ⟨n,o,rfl,p⟩ c
      refine tv (c_t [] [6] c .nil fun f c=>⟨n,k,o,c.to,p,g⟩)
     have g:=cond_f d R
     have c:=t.lit 47 d
     refine c_t [] [6] c .nil fun d c=>⟨S,false,zr,c.to,B,g⟩
    have g:=cond_f q W
    have c:=x.lit 42 q
    refine c_t [] [6] c .nil fun d c=>⟨S,false,zr,c.to,B,g⟩
   have g:=cond_f s Z
   have c:=z.lit 37 s
   refine c_t [] [6] c .nil fun d c=>⟨S,false,zr,c.to,B,g⟩
  have g:=cond_f u a1
  have c:=D.lit 34 u
  refine c_t [] [6] c .nil fun d c=>⟨S,false,zr,c.to,B,g⟩
 rintro d f ⟨T,y,k,c,l,g⟩
 refine c_ret (c_rt [] (.bool y) c .nil ?_)
 obtain rfl:=some_eq g
 exact ⟨_,rfl,T,(zt (zt (zt (zt X k2) Y) U) k),rfl,(St.drop 3 l)⟩
end Go.Proofs.YtlmgjjmighajdaaGreat
set_option linter.unusedSimpArgs false
set_option linter.unusedVariables false
namespace Go.Proofs.YtlmgjjmighajdaaGreat
open Go.Sl Go.Sx
theorem wid {n:Int} (h1: -9223372036854775808≤n) (h2:n≤9223372036854775807):w64 n=n:=by
  unfold w64 IntKind.wrap
  simp [IntKind.bits,IntKind.signed]
  omega
def mk (L:Nat) (g:Nat→Int):List Int:=(List.range L).map g
theorem mk_len (L:Nat) (g:Nat→Int):(mk L g).length=L:=by simp [mk]
theorem mk_get {L:Nat} {g:Nat→Int} {i:Nat} (h:i<L) {n:Int} (e:n=(i:Int)):getI (mk L g) n=some (g i):=by
  subst e
  unfold getI mk
  simp [h]
def upd (g:Nat→Int) (i:Nat) (v:Int):Nat→Int:=fun k=>if k=i then v else g k
theorem mk_congr {L:Nat} {g g':Nat→Int} (h:∀k,k<L→g k=g' k):mk L g=mk L g':=by
  unfold mk
  exact List.map_congr_left fun k hk=>h k (List.mem_range.1 hk)
theorem mk_set {L:Nat} {g:Nat→Int} {i:Nat} (h:i<L) (v:Int) {n:Int} (e:n=(i:Int)):setI (mk L g) n v=some (mk L (upd g i v)):=by
  subst e
  unfold setI
  have hl:=mk_len L g
  rw [if_pos (by rw [hl]; omega)]
  congr 1
  refine List.ext_getElem (by simp [mk]) fun k h1 h2=>?_
  simp only [mk,upd,List.getElem_map,List.getElem_range,Int.toNat_natCast]
  by_cases e:i=k
  · subst e; simp
  · have e':¬ k=i:=fun x=>e x.symm
    rw [List.getElem_set_ne e]
    simp [e']
def swp (g:Nat→Int) (p q t:Nat):Nat→Int:=fun k=>if p≤k∧k<p + t then g (q + (k - p)) else if q≤k∧k<q + t then g (p + (k - q)) else g k
theorem swp_step {g:Nat→Int} {p q t:Nat} (h:p + t<q) (k:Nat):upd (upd (swp g p q t) (p + t) (swp g p q t (q + t))) (q + t) (swp g p q t (p + t)) k=swp g p q (t + 1) k:=by
  have e1:swp g p q t (q + t)=g (q + t):=by unfold swp; rw [if_neg (by omega),if_neg (by omega)]
  have e2:swp g p q t (p + t)=g (p + t):=by unfold swp; rw [if_neg (by omega),if_neg (by omega)]
  rw [e1,e2]
  unfold upd swp
  by_cases a:k=q + t
  · subst a
    rw [if_pos rfl,if_neg (by omega),if_pos (by omega)]
    congr 1; omega
  · rw [if_neg a]
    by_cases b:k=p + t
    · subst b
      rw [if_pos rfl,if_pos (by omega)]
      congr 1; omega
    · rw [if_neg b]
      by_cases c:p≤k∧k<p + t
      · rw [if_pos c,if_pos (by omega)]
      · rw [if_neg c]
        by_cases d:q≤k∧k<q + t
        · rw [if_pos d,if_neg (by omega),if_pos (by omega)]
        · rw [if_neg d,if_neg (by omega),if_neg (by omega)]
theorem swp_zero (g:Nat→Int) (p q:Nat):swp g p q 0=g:=by
  funext k
  unfold swp
  rw [if_neg (by omega),if_neg (by omega)]
section
variable {L : Nat} (hL : L ≤ 1000)
theorem F115_l7_eq (hL:L≤1000) (k5:List Int→Int→Int→Option (List Int)) {mm i j:Nat} (hi:i≤mm) (hj:mm + j≤L) (hji:j≤i) (g:Nat→Int):∀n t,t≤j→j - t<n →
    F115_l7 k5 (mm:Int) (i:Int) (j:Int) n (mk L (swp g (mm - i) mm t)) (t:Int)=k5 (mk L (swp g (mm - i) mm j)) ((i - j:Nat):Int) (j:Int)
  | 0,t,ht,hn=>by omega
  | n + 1,t,ht,hn=>by
    rcases Nat.lt_or_ge t j with hlt | hge
    · have w1:w64 ((mm:Int) + (t:Int))=((mm + t:Nat):Int):=by rw [wid (by omega) (by omega)]; omega
      have w2:w64 (w64 ((mm:Int) - (i:Int)) + (t:Int))=((mm - i + t:Nat):Int):=by rw [wid (n:=(mm:Int) - i) (by omega) (by omega),wid (by omega) (by omega)]; omega
      have w3:w64 ((t:Int) + 1)=((t + 1:Nat):Int):=by rw [wid (by omega) (by omega)]; omega
      simp only [F115_l7,decide_eq_true (show (t:Int)<(j:Int) by omega),cond_true,w1,w2,w3]
      rw [mk_get (show mm + t<L by omega) rfl]
      simp only [Option.bind_some]
      rw [mk_get (show mm - i + t<L by omega) rfl]
      simp only [Option.bind_some]
      rw [mk_set (show mm - i + t<L by omega) _ rfl]
      simp only [Option.bind_some]
      rw [mk_get (show mm + t<L by omega) rfl]
      simp only [Option.bind_some]
      rw [mk_set (show mm + t<L by omega) _ rfl]
      simp only [Option.bind_some]
      rw [mk_congr fun k _=>swp_step (g:=g) (p:=mm - i) (q:=mm) (t:=t) (by omega) k]
      exact F115_l7_eq hL k5 hi hj hji g n (t + 1) hlt (by omega)
    · have:t=j:=by omega
      subst this
      have w:w64 ((i:Int) - (t:Int))=((i - t:Nat):Int):=by rw [wid (by omega) (by omega)]; omega
      simp only [F115_l7,decide_eq_false (show ¬ (t:Int)<(t:Int) by omega),cond_false,w]
theorem F115_l8_eq (hL:L≤1000) (k5:List Int→Int→Int→Option (List Int)) {mm i j:Nat} (hi:i≤mm) (hj:mm + j≤L) (hji:i≤j) (g:Nat→Int):∀n t,t≤i→i - t<n →
    F115_l8 k5 (mm:Int) (i:Int) (j:Int) n (mk L (swp g (mm - i) (mm + j - i) t)) (t:Int)=k5 (mk L (swp g (mm - i) (mm + j - i) i)) (i:Int) ((j - i:Nat):Int)
  | 0,t,ht,hn=>by omega
  | n + 1,t,ht,hn=>by
    rcases Nat.lt_or_ge t i with hlt | hge
    · have w0:w64 ((mm:Int) + (j:Int))=(mm:Int) + (j:Int):=wid (by omega) (by omega)
      have w1:w64 (w64 (w64 ((mm:Int) + (j:Int)) - (i:Int)) + (t:Int))=((mm + j - i + t:Nat):Int):=by rw [w0,wid (n:=(mm:Int) + j - i) (by omega) (by omega),wid (by omega) (by omega)]; omega
      have w2:w64 (w64 ((mm:Int) - (i:Int)) + (t:Int))=((mm - i + t:Nat):Int):=by rw [wid (n:=(mm:Int) - i) (by omega) (by omega),wid (by omega) (by omega)]; omega
      have w3:w64 ((t:Int) + 1)=((t + 1:Nat):Int):=by rw [wid (by omega) (by omega)]; omega
      simp only [F115_l8,decide_eq_true (show (t:Int)<(i:Int) by omega),cond_true,w1,w2,w3]
      rw [mk_get (show mm + j - i + t<L by omega) rfl]
      simp only [Option.bind_some]
      rw [mk_get (show mm - i + t<L by omega) rfl]
      simp only [Option.bind_some]
      rw [mk_set (show mm - i + t<L by omega) _ rfl]
      simp only [Option.bind_some]
      rw [mk_get (show mm + j - i + t<L by omega) rfl]
      simp only [Option.bind_some]
      rw [mk_set (show mm + j - i + t<L by omega) _ rfl]
      simp only [Option.bind_some]
      rw [mk_congr fun k _=>swp_step (g:=g) (p:=mm - i) (q:=mm + j - i) (t:=t) (by omega) k]
      exact F115_l8_eq hL k5 hi hj hji g n (t + 1) hlt (by omega)
    · have:t=i:=by omega
      subst this
      have w:w64 ((j:Int) - (t:Int))=((j - t:Nat):Int):=by rw [wid (by omega) (by omega)]; omega
      simp only [F115_l8,decide_eq_false (show ¬ (t:Int)<(t:Int) by omega),cond_false,w]
theorem F115_l9_eq (hL:L≤1000) (rec:List Int→Int→Int→Int→Option (List Int)) (x1 x3 y9:Int) {mm i:Nat} (hi:i≤mm) (hj:mm + i≤L) (g:Nat→Int):∀n t,t≤i→i - t<n →
    F115_l9 rec x1 (mm:Int) x3 y9 (i:Int) n (mk L (swp g (mm - i) mm t)) (t:Int)=F115_j2 rec x1 (mm:Int) x3 y9 (mk L (swp g (mm - i) mm i))
  | 0,t,ht,hn=>by omega
  | n + 1,t,ht,hn=>by
    rcases Nat.lt_or_ge t i with hlt | hge
    · have w1:w64 ((mm:Int) + (t:Int))=((mm + t:Nat):Int):=by rw [wid (by omega) (by omega)]; omega
      have w2:w64 (w64 ((mm:Int) - (i:Int)) + (t:Int))=((mm - i + t:Nat):Int):=by rw [wid (n:=(mm:Int) - i) (by omega) (by omega),wid (by omega) (by omega)]; omega
      have w3:w64 ((t:Int) + 1)=((t + 1:Nat):Int):=by rw [wid (by omega) (by omega)]; omega
      simp only [F115_l9,decide_eq_true (show (t:Int)<(i:Int) by omega),cond_true,w1,w2,w3]
      rw [mk_get (show mm + t<L by omega) rfl]
      simp only [Option.bind_some]
      rw [mk_get (show mm - i + t<L by omega) rfl]
      simp only [Option.bind_some]
      rw [mk_set (show mm - i + t<L by omega) _ rfl]
      simp only [Option.bind_some]
      rw [mk_get (show mm + t<L by omega) rfl]
      simp only [Option.bind_some]
      rw [mk_set (show mm + t<L by omega) _ rfl]
      simp only [Option.bind_some]
      rw [mk_congr fun k _=>swp_step (g:=g) (p:=mm - i) (q:=mm) (t:=t) (by omega) k]
      exact F115_l9_eq hL rec x1 x3 y9 hi hj g n (t + 1) hlt (by omega)
    · have:t=i:=by omega
      subst this
      simp only [F115_l9,decide_eq_false (show ¬ (t:Int)<(t:Int) by omega),cond_false]
end
def rot (g:Nat→Int) (lo i j:Nat):Nat→Int:=fun k=>if lo≤k∧k<lo + j then g (k + i) else if lo + j≤k∧k<lo + j + i then g (k - j) else g k
theorem F115_l6_eq {f L:Nat} (hL:L≤1000) (hf:1000<f) (rec:List Int→Int→Int→Int→Option (List Int)) (x1 x3 y9:Int) {mm:Nat}:∀(n i j:Nat) (g:Nat→Int),0<i→0<j→i≤mm→mm + j≤L→i + j≤n →
    F115_l6 f rec x1 (mm:Int) x3 y9 n (mk L g) (i:Int) (j:Int)=F115_j2 rec x1 (mm:Int) x3 y9 (mk L (rot g (mm - i) i j))
  | 0,i,j,g,hi0,hj0,hi,hj,hn=>by omega
  | n + 1,i,j,g,hi0,hj0,hi,hj,hn=>by
    by_cases e:i=j
    · subst e
      simp only [F115_l6,bne_self_eq_false,cond_false]
      have:=F115_l9_eq hL rec x1 x3 y9 hi hj g f 0 (by omega) (by omega)
      rw [swp_zero] at this
      refine this.trans ?_
      congr 1
      refine mk_congr fun k _=>?_
      unfold swp rot
      by_cases a:mm - i≤k∧k<mm - i + i
      · rw [if_pos a,if_pos a]; congr 1; omega
      · rw [if_neg a,if_neg a]
        by_cases b:mm≤k∧k<mm + i
        · rw [if_pos b,if_pos (by omega)]; congr 1; omega
        · rw [if_neg b,if_neg (by omega)]
    · have hne:((i:Int) != (j:Int))=true:=by
        have:¬ (i:Int)=(j:Int):=by omega
        simpa using this
      simp only [F115_l6,hne,cond_true]
      by_cases hgt:i > j
      · rw [decide_eq_true (show (i:Int) > (j:Int) by omega),cond_true]
        have:=F115_l7_eq hL (F115_l6 f rec x1 (mm:Int) x3 y9 n) hi hj (by omega) g f 0 (by omega) (by omega)
        rw [swp_zero] at this
        refine this.trans ?_
        rw [F115_l6_eq hL hf rec x1 x3 y9 n (i - j) j _ (by omega) hj0 (by omega) hj (by omega)]
        congr 1
        refine mk_congr fun k _=>?_
        unfold rot
        by_cases a:mm - i≤k∧k<mm - i + j
        · rw [if_neg (by omega),if_neg (by omega),if_pos a]
          unfold swp
          rw [if_pos a]; congr 1; omega
        · rw [if_neg a]
          by_cases b:mm - i + j≤k∧k<mm - i + j + i
          · rw [if_pos b]
            by_cases c:k<mm - i + j + j
            · rw [if_pos (by omega)]
              unfold swp
              rw [if_neg (by omega),if_pos (by omega)]; congr 1; omega
            · rw [if_neg (by omega),if_pos (by omega)]
              unfold swp
              rw [if_neg (by omega),if_neg (by omega)]
          · rw [if_neg b,if_neg (by omega),if_neg (by omega)]
            unfold swp
            rw [if_neg (by omega),if_neg (by omega)]
      · rw [decide_eq_false (show ¬ (i:Int) > (j:Int) by omega),cond_false]
        have:=F115_l8_eq hL (F115_l6 f rec x1 (mm:Int) x3 y9 n) hi hj (by omega) g f 0 (by omega) (by omega)
        rw [swp_zero] at this
        refine this.trans ?_
        rw [F115_l6_eq hL hf rec x1 x3 y9 n i (j - i) _ hi0 (by omega) hi (by omega) (by omega)]
        congr 1
        refine mk_congr fun k _=>?_
        unfold rot
        by_cases a:mm - i≤k∧k<mm - i + (j - i)
        · rw [if_pos a,if_pos (by omega)]
          unfold swp
          by_cases c:k + i<mm + j - i
          · rw [if_neg (by omega),if_neg (by omega)]
          · rw [if_neg (by omega),if_neg (by omega)]
        · rw [if_neg a]
          by_cases b:mm - i + (j - i)≤k∧k<mm - i + (j - i) + i
          · rw [if_pos b,if_pos (by omega)]
            unfold swp
            rw [if_pos (by omega)]; congr 1; omega
          · rw [if_neg b]
            unfold swp
            by_cases c:mm - i + j≤k∧k<mm - i + j + i
            · rw [if_neg (by omega),if_pos (by omega),if_neg (by omega),if_pos (by omega)]; congr 1; omega
            · rw [if_neg (by omega),if_neg (by omega),if_neg (by omega),if_neg (by omega)]
end Go.Proofs.YtlmgjjmighajdaaGreat
set_option linter.unusedSimpArgs false
set_option linter.unusedVariables false
namespace Go.Proofs.YtlmgjjmighajdaaGreat
open Go.Sl Go.Sx
theorem w64_id {n:Int} (h1: -9223372036854775808≤n) (h2:n≤9223372036854775807):w64 n=n:=by
  unfold w64 IntKind.wrap
  simp [IntKind.bits,IntKind.signed]
  omega
theorem succ_w {i:Nat} (h:i<4000000000):w64 ((i:Int) + 1)=((i + 1:Nat):Int):=by
  rw [w64_id (by omega) (by omega)]; simp
theorem pred_w {i:Nat} (h:i<4000000000) (h0:0<i):w64 ((i:Int) - 1)=((i - 1:Nat):Int):=by
  rw [w64_id (by omega) (by omega)]; omega
theorem loop_all {ρ:Type} {L:Nat→Int→Option ρ} {len:Nat} {good:Nat→Prop} {no yes:Option ρ}
    (h:∀n i,i<len→(good i∧L (n + 1) (i:Int)=L n ((i + 1:Nat):Int))∨(¬ good i∧L (n + 1) (i:Int)=no))
    (he:∀n,L (n + 1) (len:Int)=yes):∀n i,i≤len→len - i<n→((∀j,i≤j→j<len→good j)∧L n (i:Int)=yes)∨((¬ ∀j,i≤j→j<len→good j)∧L n (i:Int)=no)
  | 0,i,_,hn=>by omega
  | n + 1,i,hi,hn=>by
    rcases Nat.lt_or_ge i len with hlt | hge
    · rcases h n i hlt with ⟨hg,e⟩ | ⟨hg,e⟩
      · rw [e]
        rcases loop_all h he n (i + 1) (by omega) (by omega) with ⟨h1,h2⟩ | ⟨h1,h2⟩
        · exact .inl ⟨fun j hj hl=>by rcases Nat.eq_or_lt_of_le hj with e | e; exact e ▸ hg; exact h1 j e hl,h2⟩
        · exact .inr ⟨fun hall=>h1 fun j hj hl=>hall j (by omega) hl,h2⟩
      · exact .inr ⟨fun hall=>hg (hall i (Nat.le_refl _) hlt),e⟩
    · have:i=len:=by omega
      subst this
      exact .inl ⟨fun j hj hl=>by omega,he n⟩
theorem loop_all0 {ρ:Type} {L:Nat→Int→Option ρ} {len:Nat} {good:Nat→Prop} {no yes:Option ρ}
    (h:∀n i,i<len→(good i∧L (n + 1) (i:Int)=L n ((i + 1:Nat):Int))∨(¬ good i∧L (n + 1) (i:Int)=no))
    (he:∀n,L (n + 1) (len:Int)=yes) {n:Nat} (hn:len<n):((∀j,j<len→good j)∧L n 0=yes)∨((¬ ∀j,j<len→good j)∧L n 0=no):=by
  rcases loop_all h he n 0 (by omega) (by omega) with ⟨h1,h2⟩ | ⟨h1,h2⟩
  · exact .inl ⟨fun j hj=>h1 j (by omega) hj,h2⟩
  · exact .inr ⟨fun h=>h1 fun j _ hj=>h j hj,h2⟩
theorem getI_nat {α:Type} {xs:List α} {i:Nat} (h:i<xs.length):getI xs (i:Int)=some xs[i]:=getI_of h
theorem lt_len {i n:Nat}:decide ((i:Int)<(n:Int))=decide (i<n):=by
  by_cases h:i<n
  · have:(i:Int)<n:=by omega
    simp [h,this]
  · have:¬ (i:Int)<n:=by omega
    simp [h,this]
theorem F48_eq (f:Nat) (x a b:Int):F48 f x a b=some (decide (a≤x∧x≤b)):=by
  unfold F48 F48_j1
  by_cases h1:a≤x <;> by_cases h2:x≤b <;> simp [h1,h2]
theorem F60_eq (f:Nat) (x a b:Int):F60 f x a b=some (decide (a≤x∧x≤b)):=by
  unfold F60 F60_j1
  by_cases h1:a≤x <;> by_cases h2:x≤b <;> simp [h1,h2]
structure LotOk (l:Lot):Prop where
  id0:1≤l.id
  id1:l.id≤9999
  ow0:1≤l.owner
  ow1:l.owner≤9
  gr0:1≤l.grade
  gr1:l.grade≤9
  we0:0≤l.wet
  we1:l.wet≤10000
theorem F17_eq (f:Nat) (l:Lot):(LotOk l∧F17 f l.id l.owner l.grade l.wet=some 0)∨(¬ LotOk l∧F17 f l.id l.owner l.grade l.wet=some 60):=by
  unfold F17 F17_j1
  simp only [F48_eq,Option.bind_some]
  by_cases h1:1≤l.id∧l.id≤9999
  · by_cases h2:1≤l.owner∧l.owner≤9
    · by_cases h3:1≤l.grade∧l.grade≤9
      · by_cases h4:0≤l.wet∧l.wet≤10000
        · exact .inl ⟨⟨h1.1,h1.2,h2.1,h2.2,h3.1,h3.2,h4.1,h4.2⟩,by simp [h1,h2,h3,h4]⟩
        · exact .inr ⟨fun k=>h4 ⟨k.we0,k.we1⟩,by simp [h1,h2,h3,h4]⟩
      · exact .inr ⟨fun k=>h3 ⟨k.gr0,k.gr1⟩,by simp [h1,h2,h3]⟩
    · exact .inr ⟨fun k=>h2 ⟨k.ow0,k.ow1⟩,by simp [h1,h2]⟩
  · exact .inr ⟨fun k=>h1 ⟨k.id0,k.id1⟩,by simp [h1]⟩
theorem F53_17 (f:Nat) (a b c d:Int):F53 f a b c d=F17 f a b c d:=by
  unfold F53 F17 F53_j1 F17_j1
  simp only [F48_eq,F60_eq]
def LotsOk (l:List Lot):Prop:=l.length≤40∧(∀x∈l,LotOk x)∧l.Pairwise fun a b=>a.id<b.id
theorem pairs_of {α:Type} {r:α→α→Prop} (tr:∀a b c,r a b→r b c→r a c):∀ {l:List α},(∀j (h:j + 1<l.length),r l[j] l[j + 1])→l.Pairwise r
  | [],_=>List.Pairwise.nil
  | [_],_=>List.pairwise_singleton _ _
  | a::b::l,h=>by
    have ih:=pairs_of tr (l:=b::l) fun j hj=>h (j + 1) (by simpa using hj)
    refine List.pairwise_cons.2 ⟨fun c hc=>?_,ih⟩
    have h0:r a b:=h 0 (by simp)
    rcases List.mem_cons.1 hc with rfl | hc
    · exact h0
    · exact tr _ _ _ h0 ((List.pairwise_cons.1 ih).1 c hc)
theorem pairs_at {α:Type} {r:α→α→Prop}:∀ {l:List α},l.Pairwise r→∀ {i j:Nat} (hi:i<l.length) (hj:j<l.length),i<j→r l[i] l[j]:=by
  intro l hl i j hi hj hij
  exact List.pairwise_iff_getElem.1 hl i j hi hj hij
def adjL (l:List Lot) (j:Nat):Prop:=∀h:j<l.length,LotOk l[j]∧(0<j→l[j - 1].id<l[j].id)
theorem lotsOk_iff {l:List Lot} (h:l.length≤40):(∀j,j<l.length→adjL l j)↔LotsOk l:=by
  constructor
  · intro k
    refine ⟨h,fun x hx=>?_,pairs_of (fun a b c h1 h2=>by omega) fun j hj=>?_⟩
    · obtain ⟨j,hj,rfl⟩:=List.getElem_of_mem hx
      exact (k j hj hj).1
    · exact (k (j + 1) hj hj).2 (by omega)
  · rintro ⟨_,h1,h2⟩ j _ hj
    exact ⟨h1 _ (List.getElem_mem _),fun h0=>pairs_at h2 (by omega) hj (by omega)⟩
theorem F77_eq {f:Nat} {l:List Lot} (hf:40<f):(LotsOk l∧F77 f l=some 0)∨(¬ LotsOk l∧F77 f l=some 60):=by
  unfold F77
  by_cases h40:(l.length:Int) > 40
  · exact .inr ⟨fun k=>by have:=k.1; omega,by simp [h40]⟩
  · have h41:l.length≤40:=by omega
    simp only [h40,decide_false,cond_false]
    rw [← lotsOk_iff h41]
    refine loop_all0 (L:=F77_l1 f l) (len:=l.length) (fun n i hi=>?_) (fun n=>?_) (by omega)
    · simp only [F77_l1,lt_len,hi,decide_true,cond_true,getI_nat hi,Option.bind_some,F77_j1]
      rw [succ_w (by omega)]
      rcases F17_eq f l[i] with ⟨g1,e⟩ | ⟨g1,e⟩
      · rw [e]
        simp only [Option.bind_some]
        by_cases h0:0<i
        · have h0':(i:Int) > 0:=by omega
          simp only [h0',decide_true,pred_w (i:=i) (by omega) h0,getI_nat (show i - 1<l.length by omega),Option.bind_some]
          by_cases hg:l[i - 1].id≥l[i].id
          · exact .inr ⟨fun k=>by have:=(k hi).2 h0; omega,by simp [hg]⟩
          · exact .inl ⟨fun h=>⟨g1,fun _=>by omega⟩,by simp [hg]⟩
        · have h0':¬ (i:Int) > 0:=by omega
          exact .inl ⟨fun h=>⟨g1,fun k=>absurd k h0⟩,by simp [h0]⟩
      · exact .inr ⟨fun k=>g1 (k hi).1,by rw [e]; simp⟩
    · simp [F77_l1]
theorem F21_19 (f:Nat) (l:List Lot):F21 f l=F77 f l:=by
  unfold F21 F77
  have:∀n y,F21_l1 f l n y=F77_l1 f l n y:=by
    intro n
    induction n with
    | zero=>intro y; rfl
    | succ n ih =>
      intro y
      have ih':F21_l1 f l n=F77_l1 f l n:=funext ih
      simp only [F21_l1,F77_l1,ih',F21_j1,F77_j1,F53_17]
      cases h:getI l y with
      | none=>simp
      | some p=>simp
  rw [this]
def sumM (h:List Part):Int:=(h.map (·.mass)).sum
def sumH (l:List (List Part)):Int:=(l.map sumM).sum
structure PartOk (p:Part):Prop where
  l0:1≤p.lot
  l1:p.lot≤9999
  m0:1≤p.mass
  m1:p.mass≤100000000
def HeapOk (h:List Part):Prop:=h.length≤40∧(∀p∈h,PartOk p)∧(h.Pairwise fun a b=>a.lot<b.lot)∧sumM h≤100000000
def adjP (l:List Part) (j:Nat):Prop:=∀h:j<l.length,PartOk l[j]∧(0<j→l[j - 1].lot<l[j].lot)
theorem sum_app:∀(a b:List Int),(a ++ b).sum=a.sum + b.sum
  | [],b=>by simp
  | x::a,b=>by simp only [List.cons_append,List.sum_cons,sum_app a b]; omega
theorem sumM_app (a b:List Part):sumM (a ++ b)=sumM a + sumM b:=by unfold sumM; rw [List.map_append,sum_app]
theorem sumH_app (a b:List (List Part)):sumH (a ++ b)=sumH a + sumH b:=by unfold sumH; rw [List.map_append,sum_app]
theorem sumM_take {l:List Part} {i:Nat} (hi:i<l.length):sumM (l.take (i + 1))=sumM (l.take i) + l[i].mass:=by
  rw [List.take_succ_eq_append_getElem hi,sumM_app]
  simp [sumM]
theorem sumM_bound:∀ {l:List Part},(∀p∈l,PartOk p)→0≤sumM l∧sumM l≤100000000 * l.length
  | [],_=>by simp [sumM]
  | p::l,h=>by
    have ih:=sumM_bound (l:=l) fun q hq=>h q (List.mem_cons_of_mem _ hq)
    have hp:=h p (by simp)
    have:=hp.m0; have:=hp.m1
    simp only [sumM,List.map_cons,List.sum_cons,List.length_cons] at ih ⊢
    omega
theorem heapOk_iff {l:List Part} (h:l.length≤40):((∀j,j<l.length→adjP l j)∧sumM l≤100000000)↔HeapOk l:=by
  constructor
  · rintro ⟨k,hs⟩
    refine ⟨h,fun x hx=>?_,pairs_of (fun a b c h1 h2=>by omega) fun j hj=>?_,hs⟩
    · obtain ⟨j,hj,rfl⟩:=List.getElem_of_mem hx
      exact (k j hj hj).1
    · exact (k (j + 1) hj hj).2 (by omega)
  · rintro ⟨_,h1,h2,h3⟩
    exact ⟨fun j _ hj=>⟨h1 _ (List.getElem_mem _),fun h0=>pairs_at h2 (by omega) hj (by omega)⟩,h3⟩
theorem F37_loop {f:Nat} {l:List Part} (h40:l.length≤40):∀n i,i≤l.length→l.length - i<n→(∀j,j<i→adjP l j) →
    ((∀j,j<l.length→adjP l j)∧F37_l1 f l n (sumM (l.take i)) (i:Int)=some (decide (sumM l≤100000000)))∨((¬ ∀j,j<l.length→adjP l j)∧F37_l1 f l n (sumM (l.take i)) (i:Int)=some false)
  | 0,i,_,hn,_=>by omega
  | n + 1,i,hi,hn,hd=>by
    rcases Nat.lt_or_ge i l.length with hlt | hge
    · have hb:0≤sumM (l.take i)∧sumM (l.take i)≤100000000 * (l.take i).length:=sumM_bound fun p hp=>by
        obtain ⟨j,hj,rfl⟩:=List.getElem_of_mem hp
        simp only [List.length_take] at hj
        rw [List.getElem_take]
        exact (hd j (by omega) (by omega)).1
      have hb2:(l.take i).length≤40:=by rw [List.length_take]; omega
      have next:adjP l i→((∀j,j<l.length→adjP l j)∧F37_l1 f l n (w64 (sumM (l.take i) + l[i].mass)) (w64 ((i:Int) + 1))=some (decide (sumM l≤100000000)))∨((¬ ∀j,j<l.length→adjP l j)∧F37_l1 f l n (w64 (sumM (l.take i) + l[i].mass)) (w64 ((i:Int) + 1))=some false):=fun g=>by
        have gp:=(g hlt).1
        have:=gp.m0; have:=gp.m1
        rw [succ_w (by omega),w64_id (by omega) (by omega), ← sumM_take hlt]
        exact F37_loop h40 n (i + 1) (by omega) (by omega) fun j hj=>by
          rcases Nat.lt_or_ge j i with h | h
          · exact hd j h
          · have:j=i:=by omega
            subst this; exact g
      simp only [F37_l1,lt_len,hlt,decide_true,cond_true,getI_nat hlt,Option.bind_some,F37_j1,F48_eq]
      by_cases h1:1≤l[i].lot∧l[i].lot≤9999
      · by_cases h2:1≤l[i].mass∧l[i].mass≤100000000
        · by_cases h0:0<i
          · have h0':(i:Int) > 0:=by omega
            simp only [h1,h2,h0',and_self,decide_true,Bool.not_true,cond_false,cond_true,pred_w (i:=i) (by omega) h0,getI_nat (show i - 1<l.length by omega),Option.bind_some]
            by_cases hg:l[i - 1].lot≥l[i].lot
            · exact .inr ⟨fun k=>by have:=(k i hlt hlt).2 h0; omega,by simp [hg]⟩
            · simp only [hg,decide_false,cond_false]
              exact next fun h=>⟨⟨h1.1,h1.2,h2.1,h2.2⟩,fun _=>by omega⟩
          · have h0':¬ (i:Int) > 0:=by omega
            simp only [h1,h2,h0',and_self,decide_true,decide_false,Bool.not_true,cond_false]
            exact next fun h=>⟨⟨h1.1,h1.2,h2.1,h2.2⟩,fun k=>absurd k h0⟩
        · exact .inr ⟨fun k=>h2 ⟨(k i hlt hlt).1.m0,(k i hlt hlt).1.m1⟩,by simp [h1,h2]⟩
      · exact .inr ⟨fun k=>h1 ⟨(k i hlt hlt).1.l0,(k i hlt hlt).1.l1⟩,by simp [h1]⟩
    · have:i=l.length:=by omega
      subst this
      refine .inl ⟨fun j hj=>hd j hj,?_⟩
      simp [F37_l1]
theorem F37_eq {f:Nat} {l:List Part} (hf:40<f):(HeapOk l∧F37 f l=some true)∨(¬ HeapOk l∧F37 f l=some false):=by
  unfold F37
  by_cases h40:(l.length:Int) > 40
  · exact .inr ⟨fun k=>by have:=k.1; omega,by simp [h40]⟩
  · have h41:l.length≤40:=by omega
    simp only [h40,decide_false,cond_false]
    rw [← heapOk_iff h41]
    have:=F37_loop (f:=f) h41 f 0 (by omega) (by omega) (fun j hj=>by omega)
    simp only [List.take_zero] at this
    have e0:sumM []=0:=rfl
    rw [e0] at this
    rcases this with ⟨h1,h2⟩ | ⟨h1,h2⟩
    · by_cases hs:sumM l≤100000000
      · exact .inl ⟨⟨h1,hs⟩,by simpa [hs] using h2⟩
      · exact .inr ⟨fun k=>hs k.2,by simpa [hs] using h2⟩
    · exact .inr ⟨fun k=>h1 k.1,by simpa using h2⟩
theorem F100_73 (f:Nat) (l:List Part):F100 f l=F37 f l:=by
  unfold F100 F37
  have:∀n y z,F100_l1 f l n y z=F37_l1 f l n y z:=by
    intro n
    induction n with
    | zero=>intro y z; rfl
    | succ n ih =>
      intro y z
      have ih':F100_l1 f l n=F37_l1 f l n:=funext fun y=>funext fun z=>ih y z
      simp only [F100_l1,F37_l1,ih',F100_j1,F37_j1,F48_eq,F60_eq]
  rw [this]
theorem mass_le {l:List Part} (h:HeapOk l):0≤sumM l∧sumM l≤100000000:=⟨(sumM_bound h.2.1).1,h.2.2.2⟩
theorem sumM_take_le {l:List Part} (h:∀p∈l,PartOk p) (i:Nat):0≤sumM (l.take i)∧sumM (l.take i)≤sumM l:=by
  have e:l=l.take i ++ l.drop i:=(List.take_append_drop i l).symm
  have h1:=sumM_bound (l:=l.take i) fun p hp=>h p (List.mem_of_mem_take hp)
  have h2:=sumM_bound (l:=l.drop i) fun p hp=>h p (List.mem_of_mem_drop hp)
  have h3:sumM l=sumM (l.take i) + sumM (l.drop i):=by rw [← sumM_app,List.take_append_drop]
  omega
theorem F38_loop {l:List Part} (h:HeapOk l):∀n i,i≤l.length→l.length - i<n→F38_l1 l n (sumM (l.take i)) (i:Int)=some (sumM l)
  | 0,i,_,hn=>by omega
  | n + 1,i,hi,hn=>by
    have h40:=h.1
    rcases Nat.lt_or_ge i l.length with hlt | hge
    · have h1:=sumM_take_le h.2.1 (i + 1)
      have h2:=mass_le h
      rw [sumM_take hlt] at h1
      simp only [F38_l1,lt_len,hlt,decide_true,cond_true,getI_nat hlt,Option.bind_some]
      rw [succ_w (by omega),w64_id (by omega) (by omega), ← sumM_take hlt]
      exact F38_loop h n (i + 1) (by omega) (by omega)
    · have:i=l.length:=by omega
      subst this
      simp [F38_l1]
theorem F38_eq {f:Nat} {l:List Part} (h:HeapOk l) (hf:40<f):F38 f l=some (sumM l):=by
  have:=F38_loop h f 0 (by omega) (by have:=h.1; omega)
  simpa [F38,sumM] using this
theorem F82_90 (f:Nat) (l:List Part):F82 f l=F38 f l:=by
  unfold F82 F38
  have:∀n y z,F82_l1 l n y z=F38_l1 l n y z:=by
    intro n
    induction n with
    | zero=>intro y z; rfl
    | succ n ih =>
      intro y z
      have ih':F82_l1 l n=F38_l1 l n:=funext fun y=>funext fun z=>ih y z
      simp only [F82_l1,F38_l1,ih']
  rw [this]
theorem sumH_take {l:List (List Part)} {i:Nat} (hi:i<l.length):sumH (l.take (i + 1))=sumH (l.take i) + sumM l[i]:=by
  rw [List.take_succ_eq_append_getElem hi,sumH_app]
  simp [sumH]
theorem sumH_bound:∀ {l:List (List Part)},(∀h∈l,HeapOk h)→0≤sumH l∧sumH l≤100000000 * l.length
  | [],_=>by simp [sumH]
  | p::l,h=>by
    have ih:=sumH_bound (l:=l) fun q hq=>h q (List.mem_cons_of_mem _ hq)
    have hp:=mass_le (h p (by simp))
    simp only [sumH,List.map_cons,List.sum_cons,List.length_cons] at ih ⊢
    omega
theorem F41_loop {f:Nat} {l:List (List Part)} (hl:l.length≤4) (h:∀x∈l,HeapOk x) (hf:40<f):∀n i,i≤l.length→l.length - i<n→F41_l1 f l n (sumH (l.take i)) (i:Int)=some (sumH l)
  | 0,i,_,hn=>by omega
  | n + 1,i,hi,hn=>by
    rcases Nat.lt_or_ge i l.length with hlt | hge
    · have h1:=sumH_bound (l:=l.take (i + 1)) fun x hx=>h x (List.mem_of_mem_take hx)
      have h2:(l.take (i + 1)).length≤4:=by rw [List.length_take]; omega
      rw [sumH_take hlt] at h1
      simp only [F41_l1,lt_len,hlt,decide_true,cond_true,getI_nat hlt,Option.bind_some,F38_eq (h _ (List.getElem_mem _)) hf]
      rw [succ_w (by omega),w64_id (by omega) (by omega), ← sumH_take hlt]
      exact F41_loop hl h hf n (i + 1) (by omega) (by omega)
    · have:i=l.length:=by omega
      subst this
      simp [F41_l1]
theorem F41_eq {f:Nat} {l:List (List Part)} (hl:l.length≤4) (h:∀x∈l,HeapOk x) (hf:40<f):F41 f l=some (sumH l):=by
  have:=F41_loop hl h hf f 0 (by omega) (by omega)
  simpa [F41,sumH] using this
theorem F69_75 (f:Nat) (l:List (List Part)):F69 f l=F41 f l:=by
  unfold F69 F41
  have:∀n y z,F69_l1 f l n y z=F41_l1 f l n y z:=by
    intro n
    induction n with
    | zero=>intro y z; rfl
    | succ n ih =>
      intro y z
      have ih':F69_l1 f l n=F41_l1 f l n:=funext fun y=>funext fun z=>ih y z
      simp only [F69_l1,F41_l1,ih',F82_90]
  rw [this]
end Go.Proofs.YtlmgjjmighajdaaGreat
set_option linter.unusedSimpArgs false
set_option linter.unusedVariables false
namespace Go.Proofs.YtlmgjjmighajdaaGreat
open Go.Sl Go.Sx
def Has (l:List Lot) (id:Int):Prop:=∃x∈l,x.id=id
instance (l:List Lot) (x:Int):Decidable (Has l x):=inferInstanceAs (Decidable (∃y∈l,y.id=x))
theorem F74_eq (f:Nat) (l:Lot) (x:Int):F74 f l.id l.owner l.grade l.wet x=some (if l.id<x then -1 else if l.id > x then 1 else 0):=by
  unfold F74 F75 F92
  by_cases h1:l.id<x <;> by_cases h2:l.id > x <;> simp [h1,h2]
theorem half_w {a b:Nat} (h:a + b<4000000000):w64 (Int.fdiv (IntKind.wrap .u64 (w64 ((a:Int) + (b:Int)))) 2)=(((a + b) / 2:Nat):Int):=by
  rw [w64_id (n:=(a:Int) + b) (by omega) (by omega)]
  have e1:IntKind.wrap .u64 ((a:Int) + b)=(a:Int) + b:=by
    unfold IntKind.wrap
    simp [IntKind.bits,IntKind.signed]
    omega
  rw [e1]
  have e2:Int.fdiv ((a:Int) + b) 2=(((a + b) / 2:Nat):Int):=by
    rw [Int.fdiv_eq_ediv_of_nonneg _ (by decide)]
    omega
  rw [e2,w64_id (by omega) (by omega)]
theorem F42_loop {f:Nat} {l:List Lot} (hl:l.length≤40) (hs:l.Pairwise fun a b=>a.id<b.id) (x:Int):∀n i j,i≤j→j≤l.length→j - i<n →
    (∀k (h:k<l.length),k<i→l[k].id<x)→(∀k (h:k<l.length),j≤k→¬ l[k].id<x) →
    ∃p:Nat,p≤l.length∧(∀k (h:k<l.length),k<p→l[k].id<x)∧(∀k (h:k<l.length),p≤k→¬ l[k].id<x) ∧
      F42_l1 f l x n (i:Int) (j:Int)=some ((p:Int),decide (∃h:p<l.length,l[p].id=x))
  | 0,i,j,_,_,hn,_,_=>by omega
  | n + 1,i,j,hij,hj,hn,h1,h2=>by
    rcases Nat.lt_or_ge i j with hlt | hge
    · have hm:(i + j) / 2<l.length:=by omega
      have hm1:i≤(i + j) / 2:=by omega
      have hm2:(i + j) / 2<j:=by omega
      simp only [F42_l1,lt_len,hlt,decide_true,cond_true,half_w (a:=i) (b:=j) (by omega),getI_nat hm,Option.bind_some,F74_eq]
      by_cases hx:l[(i + j) / 2].id<x
      · simp only [hx,if_true]
        have e:decide ((-1:Int)<0)=true:=rfl
        rw [e,cond_true,succ_w (by omega)]
        refine F42_loop hl hs x n ((i + j) / 2 + 1) j (by omega) hj (by omega) (fun k hk hki=>?_) h2
        rcases Nat.lt_or_ge k ((i + j) / 2) with h | h
        · have:=pairs_at hs hk hm h; omega
        · have:k=(i + j) / 2:=by omega
          subst this; exact hx
      · have e:decide ((if l[(i + j) / 2].id<x then (-1:Int) else if l[(i + j) / 2].id > x then 1 else 0)<0)=false:=by
          rw [if_neg hx]; split <;> rfl
        rw [e,cond_false]
        refine F42_loop hl hs x n i ((i + j) / 2) (by omega) (by omega) (by omega) h1 (fun k hk hki=>?_)
        rcases Nat.lt_or_ge ((i + j) / 2) k with h | h
        · have:=pairs_at hs hm hk h; omega
        · have:k=(i + j) / 2:=by omega
          subst this; exact hx
    · have:i=j:=by omega
      subst this
      refine ⟨i,hj,h1,h2,?_⟩
      simp only [F42_l1,lt_len,Nat.lt_irrefl,decide_false,cond_false]
      by_cases hi:i<l.length
      · simp only [hi,decide_true,cond_true,getI_nat hi,Option.bind_some,F74_eq,F42_j1]
        have hx:=h2 i hi (Nat.le_refl _)
        congr 2
        rw [if_neg hx]
        by_cases hg:l[i].id > x
        · have:¬ l[i].id=x:=by omega
          simp [hg,this]
        · have:l[i].id=x:=by omega
          simp [this]
      · simp [hi,F42_j1]
theorem F42_eq {f:Nat} {l:List Lot} (h:LotsOk l) (x:Int) (hf:40<f) :
    ∃p:Nat,F42 f l x=some ((p:Int),decide (Has l x))∧(Has l x→∃h:p<l.length,l[p].id=x):=by
  obtain ⟨p,hp,h1,h2,e⟩:=F42_loop (f:=f) h.1 h.2.2 x f 0 l.length (by omega) (by omega) (by have:=h.1; omega) (fun k _ hk=>by omega) (fun k hk hk2=>by omega)
  have key:Has l x↔∃h:p<l.length,l[p].id=x:=by
    constructor
    · rintro ⟨y,hy,rfl⟩
      obtain ⟨j,hj,rfl⟩:=List.getElem_of_mem hy
      rcases Nat.lt_trichotomy j p with hjp | hjp | hjp
      · have:=h1 j hj hjp; omega
      · subst hjp; exact ⟨hj,rfl⟩
      · have hpl:p<l.length:=by omega
        have:=pairs_at h.2.2 hpl hj hjp
        have:=h2 p hpl (Nat.le_refl _)
        omega
    · rintro ⟨hp,e⟩
      exact ⟨l[p],List.getElem_mem _,e⟩
  refine ⟨p,?_,key.1⟩
  unfold F42
  have e0:(0:Int)=((0:Nat):Int):=rfl
  rw [e0,e]
  congr 2
  exact decide_eq_decide.2 key.symm
theorem F64_loop {l:List Lot} (hl:l.length≤40) (x:Int):∀n i,i≤l.length→l.length - i<n→(∀k (h:k<l.length),k<i→l[k].id≠x) →
    (∃p:Nat,(∃h:p<l.length,l[p].id=x∧∀k (h:k<l.length),k<p→l[k].id≠x)∧F64_l1 l x n (i:Int)=some (p:Int))∨(¬ Has l x∧F64_l1 l x n (i:Int)=some (-1))
  | 0,i,_,hn,_=>by omega
  | n + 1,i,hi,hn,hd=>by
    rcases Nat.lt_or_ge i l.length with hlt | hge
    · simp only [F64_l1,lt_len,hlt,decide_true,cond_true,getI_nat hlt,Option.bind_some]
      by_cases hx:l[i].id=x
      · exact .inl ⟨i,⟨hlt,hx,fun k hk hki=>hd k hk hki⟩,by simp [hx]⟩
      · have e:(l[i].id == x)=false:=by simpa using hx
        rw [e,cond_false,succ_w (by omega)]
        exact F64_loop hl x n (i + 1) (by omega) (by omega) fun k hk hki=>by
          rcases Nat.lt_or_ge k i with h | h
          · exact hd k hk h
          · have:k=i:=by omega
            subst this; exact hx
    · have:i=l.length:=by omega
      subst this
      refine .inr ⟨fun ⟨y,hy,e⟩=>?_,by simp [F64_l1]⟩
      obtain ⟨j,hj,rfl⟩:=List.getElem_of_mem hy
      exact hd j hj hj e
theorem F64_eq {f:Nat} {l:List Lot} (hl:l.length≤40) (x:Int) (hf:40<f) :
    (∃p:Nat,(∃h:p<l.length,l[p].id=x)∧Has l x∧F64 f l x=some (p:Int))∨(¬ Has l x∧F64 f l x=some (-1)):=by
  rcases F64_loop hl x f 0 (by omega) (by omega) (fun k _ hk=>by omega) with ⟨p,⟨hp,e,_⟩,h⟩ | h
  · exact .inl ⟨p,⟨hp,e⟩,⟨l[p],List.getElem_mem _,e⟩,by simpa [F64] using h⟩
  · exact .inr ⟨h.1,by simpa [F64] using h.2⟩
structure GoodHeap (lots:List Lot) (h:List Part):Prop where
  ok:HeapOk h
  ne:h≠[]
  lots:∀p∈h,Has lots p.lot
structure GoodHold (lots:List Lot) (l:List (List Part)):Prop where
  len:l.length≤4
  heaps:∀h∈l,GoodHeap lots h
  sum:sumH l≤100000000
theorem F80_l3_eq {f:Nat} {k1:Int→Option Int} {lots:List Lot} (hl:LotsOk lots) {hold:List (List Part)} {i:Nat} (hi:i<hold.length) (hp:hold[i].length≤40) (hf:40<f) :
    ((∀q∈hold[i],Has lots q.lot)∧F80_l3 f k1 lots hold (i:Int) f 0=k1 (w64 ((i:Int) + 1)))∨((¬ ∀q∈hold[i],Has lots q.lot)∧F80_l3 f k1 lots hold (i:Int) f 0=some 62):=by
  have key:=loop_all0 (L:=F80_l3 f k1 lots hold (i:Int)) (len:=hold[i].length) (good:=fun j=>∀h:j<hold[i].length,Has lots hold[i][j].lot) (no:=some 62) (yes:=k1 (w64 ((i:Int) + 1))) (fun n j hj=>by
    simp only [F80_l3,getI_nat hi,Option.bind_some,lt_len,hj,decide_true,cond_true,getI_nat hj]
    rcases F64_eq (f:=f) hl.1 hold[i][j].lot hf with ⟨q,_,hh,e⟩ | ⟨hh,e⟩
    · refine .inl ⟨fun _=>hh,?_⟩
      have h0:¬ (q:Int)<0:=by omega
      simp only [e,Option.bind_some,h0,decide_false,cond_false]; rw [succ_w (by omega)]
    · exact .inr ⟨fun k=>hh (k trivial),by simp [e]⟩) (fun n=>by simp [F80_l3,getI_nat hi]) (n:=f) (by omega)
  have iff:(∀j,j<hold[i].length→∀h:j<hold[i].length,Has lots hold[i][j].lot)↔∀q∈hold[i],Has lots q.lot:=by
    constructor
    · intro k q hq; obtain ⟨j,hj,rfl⟩:=List.getElem_of_mem hq; exact k j hj hj
    · intro k j hj _; exact k _ (List.getElem_mem _)
  rw [iff] at key
  exact key
theorem allMem {α:Type} {l:List α} {r:α→Prop}:(∀j,j<l.length→∀h:j<l.length,r l[j])↔∀x∈l,r x:=by
  constructor
  · intro k q hq; obtain ⟨j,hj,rfl⟩:=List.getElem_of_mem hq; exact k j hj hj
  · intro k j hj _; exact k _ (List.getElem_mem _)
end Go.Proofs.YtlmgjjmighajdaaGreat
set_option linter.unusedSimpArgs false
set_option linter.unusedVariables false
namespace Go.Proofs.YtlmgjjmighajdaaGreat
open Go.Sl Go.Sx
section
variable {α : Type} (lt : α → α → Bool)
def insRev (x:α):List α→List α
  | []=>[x]
  | y::r=>bif lt x y then y::insRev x r else x::y::r
def sortRev (l:List α):List α:=l.foldl (fun r x=>insRev lt x r) []
theorem insRev_perm (x:α):∀r:List α,(insRev lt x r).Perm (x::r)
  | []=>List.Perm.refl _
  | y::r=>by
    unfold insRev
    cases lt x y with
    | true=>exact ((insRev_perm x r).cons y).trans (List.Perm.swap x y r)
    | false=>exact List.Perm.refl _
theorem sortRev_perm_aux:∀(l r:List α),(l.foldl (fun r x=>insRev lt x r) r).Perm (l ++ r)
  | [],r=>List.Perm.refl _
  | x::l,r=>by
    refine (sortRev_perm_aux l (insRev lt x r)).trans ?_
    refine ((insRev_perm lt x r).append_left l).trans ?_
    exact List.perm_middle
theorem sortRev_perm (l:List α):(sortRev lt l).Perm l:=by
  have:=sortRev_perm_aux lt l []
  rwa [List.append_nil] at this
end
theorem insRev_sorted {α:Type} {lt:α→α→Bool} {bf:α→α→Prop} (tr:∀a b c,bf a b→bf b c→bf a c) {x:α}:∀ {r:List α},r.Pairwise (fun a b=>bf b a)→(∀y∈r,lt x y=true→bf x y)→(∀y∈r,lt x y=false→bf y x) →
    (insRev lt x r).Pairwise (fun a b=>bf b a)
  | [],_,_,_=>List.pairwise_singleton _ _
  | y::r,hp,h1,h2=>by
    have hp':=List.pairwise_cons.1 hp
    unfold insRev
    cases e:lt x y with
    | true =>
      simp only [cond_true]
      refine List.pairwise_cons.2 ⟨fun z hz=>?_,insRev_sorted tr hp'.2 (fun z hz=>h1 z (List.mem_cons_of_mem _ hz)) (fun z hz=>h2 z (List.mem_cons_of_mem _ hz))⟩
      rcases List.mem_cons.1 ((insRev_perm lt x r).mem_iff.1 hz) with rfl | hz
      · exact h1 y (by simp) e
      · exact hp'.1 z hz
    | false =>
      simp only [cond_false]
      refine List.pairwise_cons.2 ⟨fun z hz=>?_,hp⟩
      have hy:=h2 y (by simp) e
      rcases List.mem_cons.1 hz with rfl | hz
      · exact hy
      · exact tr _ _ _ (hp'.1 z hz) hy
theorem take_iff {α:Type} [DecidableEq α] {bf:α→α→Prop} [DecidableRel bf] (irr:∀a,¬ bf a a) (asy:∀a b,bf a b→¬ bf b a):∀ {l:List α} {k:Nat} {x:α},l.Pairwise bf→x∈l→(x∈l.take k↔l.countP (fun y=>decide (bf y x))<k)
  | [],k,x,_,hx=>by cases hx
  | y::l,0,x,_,_=>by simp
  | y::l,k + 1,x,hp,hx=>by
    have hp':=List.pairwise_cons.1 hp
    by_cases e:x=y
    · subst e
      have hz:(x::l).countP (fun z=>decide (bf z x))=0:=by
        rw [List.countP_eq_zero]
        intro z hz
        simp only [decide_eq_true_eq]
        rcases List.mem_cons.1 hz with rfl | hz
        · exact irr _
        · exact asy _ _ (hp'.1 z hz)
      rw [hz]
      simp
    · have hxl:x∈l:=by rcases List.mem_cons.1 hx with h | h; exact absurd h e; exact h
      have hb:bf y x:=hp'.1 x hxl
      have ih:=take_iff irr asy (k:=k) hp'.2 hxl
      rw [List.take_succ_cons,List.mem_cons,List.countP_cons_of_pos (by simpa using hb)]
      constructor
      · rintro (h | h)
        · exact absurd h e
        · have:=ih.1 h; omega
      · intro h
        exact .inr (ih.2 (by omega))
def rem_ (m s:Int) (a:List Int) (i:Int):Int:=(m * a.getD i.toNat 0) % s
def ahead (m s:Int) (a:List Int) (i j:Int):Prop:=rem_ m s a i > rem_ m s a j∨(rem_ m s a i=rem_ m s a j∧i<j)
instance (m s:Int) (a:List Int):DecidableRel (ahead m s a):=fun i j=>inferInstanceAs (Decidable (_∨_))
theorem ahead_irr (m s:Int) (a:List Int) (i:Int):¬ ahead m s a i i:=by unfold ahead; omega
theorem ahead_asy (m s:Int) (a:List Int) (i j:Int) (h:ahead m s a i j):¬ ahead m s a j i:=by unfold ahead at *; omega
theorem ahead_tr (m s:Int) (a:List Int) (i j k:Int) (h:ahead m s a i j) (h':ahead m s a j k):ahead m s a i k:=by unfold ahead at *; omega
def less (m s:Int) (a:List Int) (i j:Int):Bool:=decide (rem_ m s a i > rem_ m s a j)
def places (n:Nat):List Int:=(List.range n).map fun i:Nat=>(i:Int)
def orderS (m s:Int) (a:List Int):List Int:=(sortRev (less m s a) (places a.length)).reverse
theorem sortRev_aux (m s:Int) (a:List Int):∀(l r:List Int),(∀y∈r,∀x∈l,y<x)→l.Pairwise (· < ·)→r.Pairwise (fun x y=>ahead m s a y x) →
    (l.foldl (fun r x=>insRev (less m s a) x r) r).Pairwise (fun x y=>ahead m s a y x)
  | [],r,_,_,h=>h
  | x::l,r,h1,h2,h3=>by
    have h2':=List.pairwise_cons.1 h2
    refine sortRev_aux m s a l _ (fun y hy z hz=>?_) h2'.2 (insRev_sorted (ahead_tr m s a) h3 (fun y hy e=>?_) (fun y hy e=>?_))
    · rcases List.mem_cons.1 ((insRev_perm _ x r).mem_iff.1 hy) with rfl | hy
      · exact h2'.1 z hz
      · exact h1 y hy z (List.mem_cons_of_mem _ hz)
    · have:=of_decide_eq_true e
      exact .inl this
    · have e':=of_decide_eq_false e
      have:=h1 y hy x (by simp)
      unfold ahead
      omega
theorem places_rising (n:Nat):(places n).Pairwise (· < ·):=by
  unfold places
  rw [List.pairwise_map]
  exact List.pairwise_lt_range.imp fun h=>by omega
theorem mem_places {n:Nat} {x:Int}:x∈places n↔0≤x∧x<n:=by
  unfold places
  simp only [List.mem_map,List.mem_range]
  constructor
  · rintro ⟨i,hi,rfl⟩; omega
  · rintro ⟨h1,h2⟩; exact ⟨x.toNat,by omega,by omega⟩
theorem orderS_sorted (m s:Int) (a:List Int):(orderS m s a).Pairwise (ahead m s a):=by
  unfold orderS
  rw [List.pairwise_reverse]
  exact sortRev_aux m s a _ [] (fun y hy=>by cases hy) (places_rising _) List.Pairwise.nil
theorem orderS_perm (m s:Int) (a:List Int):(orderS m s a).Perm (places a.length):=(List.reverse_perm _).trans (sortRev_perm _ _)
def rank (m s:Int) (a:List Int) (i:Int):Nat:=(places a.length).countP fun j=>decide (ahead m s a j i)
theorem first_iff (m s:Int) (a:List Int) {i:Int} (hi:i∈places a.length) (k:Nat):i∈(orderS m s a).take k↔rank m s a i<k:=by
  have hp:=orderS_perm m s a
  rw [take_iff (ahead_irr m s a) (ahead_asy m s a) (orderS_sorted m s a) (hp.mem_iff.2 hi),hp.countP_eq]
  rfl
end Go.Proofs.YtlmgjjmighajdaaGreat
set_option linter.unusedSimpArgs false
set_option linter.unusedVariables false
namespace Go.Proofs.YtlmgjjmighajdaaGreat
open Go.Sl Go.Sx
theorem sum_nonneg:∀ {a:List Int},(∀x∈a,0≤x)→0≤a.sum
  | [],_=>by simp
  | x::a,h=>by have:=sum_nonneg (a:=a) fun y hy=>h y (List.mem_cons_of_mem _ hy); have:=h x (by simp); simp only [List.sum_cons]; omega
theorem le_sum:∀ {a:List Int},(∀x∈a,0≤x)→∀x∈a,x≤a.sum
  | [],_,x,hx=>by cases hx
  | y::a,h,x,hx=>by
    have h0:=h y (by simp)
    have h1:=sum_nonneg (a:=a) fun z hz=>h z (List.mem_cons_of_mem _ hz)
    simp only [List.sum_cons]
    rcases List.mem_cons.1 hx with rfl | hx
    · omega
    · have:=le_sum (a:=a) (fun z hz=>h z (List.mem_cons_of_mem _ hz)) x hx; omega
structure DealOk (m:Int) (a:List Int):Prop where
  nn:∀x∈a,0≤x
  s0:0<a.sum
  s1:a.sum≤100000000
  m0:0≤m
  m1:m≤100000000
  len:a.length≤40
def baseS (m:Int) (a:List Int) (i:Nat):Int:=m * a.getD i 0 / a.sum
def baseL (m:Int) (a:List Int):List Int:=a.map fun x=>m * x / a.sum
def leftS (m:Int) (a:List Int):Int:=m - (baseL m a).sum
def dealS (m:Int) (a:List Int):List Int:=(List.range a.length).map fun i=>baseS m a i + (if rank m a.sum a (i:Int)<(leftS m a).toNat then 1 else 0)
theorem div_sum (m s:Int) (hs:s≠0):∀b:List Int,s * (b.map fun x=>m * x / s).sum + (b.map fun x=>m * x % s).sum=m * b.sum
  | []=>by simp
  | x::b=>by
    have ih:=div_sum m s hs b
    have e:=Int.mul_ediv_add_emod (m * x) s
    simp only [List.map_cons,List.sum_cons]
    grind
theorem rem_sum {m s:Int} (hs:0<s):∀b:List Int,0≤(b.map fun x=>m * x % s).sum∧(b.map fun x=>m * x % s).sum≤(s - 1) * b.length
  | []=>by simp
  | x::b=>by
    have ih:=rem_sum (m:=m) hs b
    have h1:=Int.emod_nonneg (m * x) (show s≠0 by omega)
    have h2:=Int.emod_lt_of_pos (m * x) hs
    simp only [List.map_cons,List.sum_cons,List.length_cons]
    have e:(s - 1) * ((b.length + 1:Nat):Int)=(s - 1) * b.length + (s - 1):=by push_cast; grind
    omega
theorem left_bounds {m:Int} {a:List Int} (h:DealOk m a):0≤leftS m a∧leftS m a≤a.length∧a.sum * leftS m a=(a.map fun x=>m * x % a.sum).sum:=by
  have h1:=div_sum m a.sum (by have:=h.s0; omega) a
  have h2:=rem_sum (m:=m) h.s0 a
  have e:a.sum * leftS m a=(a.map fun x=>m * x % a.sum).sum:=by unfold leftS baseL; grind
  have hs:=h.s0
  refine ⟨?_,?_,e⟩
  · rcases Int.lt_or_le (leftS m a) 0 with hl | hl
    · have:a.sum * leftS m a<0:=Int.mul_neg_of_pos_of_neg hs hl
      omega
    · exact hl
  · rcases Int.lt_or_le (a.length:Int) (leftS m a) with hl | hl
    · have h3:a.sum * a.length<a.sum * leftS m a:=Int.mul_lt_mul_of_pos_left hl hs
      have h4:(a.sum - 1) * a.length≤a.sum * a.length:=Int.mul_le_mul_of_nonneg_right (by omega) (by omega)
      omega
    · exact hl
theorem getD_mem {a:List Int} {i:Nat} (h:i<a.length):a.getD i 0=a[i]:=by simp [h]
theorem base_bounds {m:Int} {a:List Int} (h:DealOk m a) {i:Nat} (hi:i<a.length):0≤baseS m a i∧baseS m a i≤m:=by
  have h0:=h.nn _ (List.getElem_mem hi)
  have h1:=le_sum h.nn _ (List.getElem_mem hi)
  unfold baseS
  rw [getD_mem hi]
  have hm:=h.m0
  have hs:=h.s0
  refine ⟨Int.ediv_nonneg (Int.mul_nonneg hm h0) (by omega),?_⟩
  refine Int.ediv_le_of_le_mul hs ?_
  exact Int.mul_le_mul_of_nonneg_left h1 hm
theorem prod_bounds {m:Int} {a:List Int} (h:DealOk m a) {i:Nat} (hi:i<a.length):0≤m * a[i]∧m * a[i]≤10000000000000000:=by
  have h0:=h.nn _ (List.getElem_mem hi)
  have h1:=le_sum h.nn _ (List.getElem_mem hi)
  have:=h.s1; have:=h.m0; have:=h.m1
  refine ⟨Int.mul_nonneg h.m0 h0,?_⟩
  have:m * a[i]≤100000000 * 100000000:=Int.mul_le_mul (by omega) (by omega) h0 (by omega)
  omega
theorem F75_eq (f:Nat) (x y:Int):F75 f x y=some (if x<y then -1 else if x > y then 1 else 0):=by
  unfold F75 F92
  by_cases h1:x<y <;> by_cases h2:x > y <;> simp [h1,h2]
theorem nzS {n:Int} (h:n≠0):nz n=some ():=by unfold nz; rw [if_pos h]
theorem tmod_eq {m:Int} {a:List Int} (h:DealOk m a) {i:Nat} (hi:i<a.length):Int.tmod (w64 (m * a[i])) a.sum=rem_ m a.sum a (i:Int):=by
  have hp:=prod_bounds h hi
  rw [w64_id (by omega) (by omega),Int.tmod_eq_emod_of_nonneg hp.1]
  unfold rem_
  have e:((i:Int)).toNat=i:=by omega
  rw [e,getD_mem hi]
theorem setI_mid {pre post:List Int} {x y:Int} {j:Int} (hj:j=pre.length):setI (pre ++ x::post) j y=some (pre ++ y::post):=by
  subst hj
  unfold setI
  have h1:(0:Int)≤pre.length∧(pre.length:Int)<(pre ++ x::post).length:=by simp; omega
  rw [if_pos h1]
  simp
theorem getI_mid {pre post:List Int} {x:Int} {j:Int} (hj:j=pre.length):getI (pre ++ x::post) j=some x:=by
  subst hj
  unfold getI
  rw [if_pos (by omega)]
  simp
def Good (n:Nat) (l:List Int):Prop:=∀x∈l,0≤x∧x<n
end Go.Proofs.YtlmgjjmighajdaaGreat
set_option linter.unusedSimpArgs false
set_option linter.unusedVariables false
namespace Go.Proofs.YtlmgjjmighajdaaGreat
open Go.Sl Go.Sx
theorem cmp_less {f:Nat} {m:Int} {a:List Int} (h:DealOk m a) {u v:Int} (hu:0≤u∧u<a.length) (hv:0≤v∧v<a.length) {α:Type} (K:Int→Option α) :
    ((getI a v).bind fun p7=>(nz a.sum).bind fun _=>(getI a u).bind fun p8=>(nz a.sum).bind fun _=>(F75 f (Int.tmod (w64 (m * p7)) a.sum) (Int.tmod (w64 (m * p8)) a.sum)).bind K) =
      K (if rem_ m a.sum a v<rem_ m a.sum a u then -1 else if rem_ m a.sum a v > rem_ m a.sum a u then 1 else 0):=by
  have hul:u.toNat<a.length:=by omega
  have hvl:v.toNat<a.length:=by omega
  have eu:getI a u=some a[u.toNat]:=by have:=getI_nat hul; rwa [Int.toNat_of_nonneg hu.1] at this
  have ev:getI a v=some a[v.toNat]:=by have:=getI_nat hvl; rwa [Int.toNat_of_nonneg hv.1] at this
  have hs:a.sum≠0:=by have:=h.s0; omega
  have t1:=tmod_eq h hul
  have t2:=tmod_eq h hvl
  rw [Int.toNat_of_nonneg hu.1] at t1
  rw [Int.toNat_of_nonneg hv.1] at t2
  simp only [eu,ev,Option.bind_some,nzS hs,t1,t2,F75_eq]
theorem dec_less {m s:Int} {a:List Int} {u v:Int}:decide ((if rem_ m s a v<rem_ m s a u then (-1:Int) else if rem_ m s a v > rem_ m s a u then 1 else 0)<0)=less m s a u v:=by
  unfold less
  by_cases h:rem_ m s a v<rem_ m s a u
  · rw [if_pos h]; simp [h]
  · rw [if_neg h]
    have:¬ rem_ m s a u > rem_ m s a v:=h
    split <;> simp [this]
section
variable {f : Nat} {mm : Int} {arr : List Int} {L : Nat} {g : Nat → Int}
def ValsP (arr:List Int) (L:Nat) (g:Nat→Int):Prop:=∀k,k<L→0≤g k∧g k<arr.length
def SortP (mm:Int) (arr:List Int) (g:Nat→Int) (lo hi:Nat):Prop:=∀i j,lo≤i→i<j→j<hi→ahead mm arr.sum arr (g i) (g j)
def IdxP (g:Nat→Int) (a m b:Nat):Prop:=∀i j,a≤i→i<m→m≤j→j<b→g i<g j
theorem less_ahead {x y:Int} (h:y<x):less mm arr.sum arr x y=true↔ahead mm arr.sum arr x y:=by
  unfold less ahead; simp only [decide_eq_true_eq]; omega
theorem nless_ahead {x y:Int} (h:y<x) (e:less mm arr.sum arr x y=false):ahead mm arr.sum arr y x:=by
  unfold less at e; unfold ahead; simp only [decide_eq_false_iff_not] at e; omega
theorem F115_l1_eq (hd:DealOk mm arr) (hL:L≤1000) (hv:ValsP arr L g) {a m b:Nat} (ha:a<L) (hb:b≤L) (hmon:∀k k',m≤k→k<k'→k'<b→less mm arr.sum arr (g k') (g a)=true→less mm arr.sum arr (g k) (g a)=true) :
    ∀n i j,m≤i→i≤j→j≤b→j - i<n→(∀k,m≤k→k<i→less mm arr.sum arr (g k) (g a)=true)→(∀k,j≤k→k<b→less mm arr.sum arr (g k) (g a)=false) →
    ∃e,m≤e∧e≤b∧(∀k,m≤k→k<e→less mm arr.sum arr (g k) (g a)=true)∧(∀k,e≤k→k<b→less mm arr.sum arr (g k) (g a)=false) ∧
      F115_l1 f mm arr arr.sum (mk L g) (a:Int) n (i:Int) (j:Int)=F115_l2 (e:Int) f (mk L g) (a:Int)
  | 0,i,j,_,_,_,hn,_,_=>by omega
  | n + 1,i,j,hi,hij,hj,hn,h1,h2=>by
    rcases Nat.lt_or_ge i j with hlt | hge
    · have hc:(i + j) / 2<L:=by omega
      have hw:w64 ((((i + j) / 2:Nat):Int) + 1)=(((i + j) / 2 + 1:Nat):Int):=succ_w (by omega)
      simp only [F115_l1,decide_eq_true (show (i:Int)<(j:Int) by omega),cond_true,half_w (a:=i) (b:=j) (by omega),hw]
      rw [mk_get hc rfl]
      simp only [Option.bind_some]
      rw [mk_get ha rfl]
      simp only [Option.bind_some]
      rw [cmp_less hd (hv _ hc) (hv _ ha),dec_less]
      cases hl:less mm arr.sum arr (g ((i + j) / 2)) (g a)
      · rw [cond_false]
        refine F115_l1_eq hd hL hv ha hb hmon n i ((i + j) / 2) hi (by omega) (by omega) (by omega) h1 fun k hk hkb=>?_
        rcases Nat.lt_or_ge ((i + j) / 2) k with hk2 | hk2
        · cases hl2:less mm arr.sum arr (g k) (g a)
          · rfl
          · rw [hmon _ k (by omega) hk2 hkb hl2] at hl; cases hl
        · have:k=(i + j) / 2:=by omega
          subst this; exact hl
      · rw [cond_true]
        refine F115_l1_eq hd hL hv ha hb hmon n ((i + j) / 2 + 1) j (by omega) (by omega) hj (by omega) (fun k hk hke=>?_) h2
        rcases Nat.lt_or_ge k ((i + j) / 2) with hk2 | hk2
        · exact hmon k _ hk hk2 (by omega) hl
        · have:k=(i + j) / 2:=by omega
          subst this; exact hl
    · have:i=j:=by omega
      subst this
      refine ⟨i,hi,hj,h1,h2,?_⟩
      simp only [F115_l1,decide_eq_false (show ¬ (i:Int)<(i:Int) by omega),cond_false]
theorem F115_l3_eq (hd:DealOk mm arr) (hL:L≤1000) (hv:ValsP arr L g) {a m:Nat} (hm:m<L) (hmon:∀k k',a≤k→k<k'→k'<m→less mm arr.sum arr (g m) (g k)=true→less mm arr.sum arr (g m) (g k')=true) :
    ∀n i j,a≤i→i≤j→j≤m→j - i<n→(∀k,a≤k→k<i→less mm arr.sum arr (g m) (g k)=false)→(∀k,j≤k→k<m→less mm arr.sum arr (g m) (g k)=true) →
    ∃e,a≤e∧e≤m∧(∀k,a≤k→k<e→less mm arr.sum arr (g m) (g k)=false)∧(∀k,e≤k→k<m→less mm arr.sum arr (g m) (g k)=true) ∧
      F115_l3 f mm arr arr.sum (mk L g) (m:Int) n (i:Int) (j:Int)=F115_l4 (e:Int) f (mk L g) (m:Int)
  | 0,i,j,_,_,_,hn,_,_=>by omega
  | n + 1,i,j,hi,hij,hj,hn,h1,h2=>by
    rcases Nat.lt_or_ge i j with hlt | hge
    · have hc:(i + j) / 2<L:=by omega
      have hw:w64 ((((i + j) / 2:Nat):Int) + 1)=(((i + j) / 2 + 1:Nat):Int):=succ_w (by omega)
      simp only [F115_l3,decide_eq_true (show (i:Int)<(j:Int) by omega),cond_true,half_w (a:=i) (b:=j) (by omega),hw]
      rw [mk_get hm rfl]
      simp only [Option.bind_some]
      rw [mk_get hc rfl]
      simp only [Option.bind_some]
      rw [cmp_less hd (hv _ hm) (hv _ hc),dec_less]
      cases hl:less mm arr.sum arr (g m) (g ((i + j) / 2))
      · rw [Bool.not_false,cond_true]
        refine F115_l3_eq hd hL hv hm hmon n ((i + j) / 2 + 1) j (by omega) (by omega) hj (by omega) (fun k hk hke=>?_) h2
        rcases Nat.lt_or_ge k ((i + j) / 2) with hk2 | hk2
        · cases hl2:less mm arr.sum arr (g m) (g k)
          · rfl
          · rw [hmon k _ hk hk2 (by omega) hl2] at hl; cases hl
        · have:k=(i + j) / 2:=by omega
          subst this; exact hl
      · rw [Bool.not_true,cond_false]
        refine F115_l3_eq hd hL hv hm hmon n i ((i + j) / 2) hi (by omega) (by omega) (by omega) h1 fun k hk hkb=>?_
        rcases Nat.lt_or_ge ((i + j) / 2) k with hk2 | hk2
        · exact hmon _ k (by omega) hk2 hkb hl
        · have:k=(i + j) / 2:=by omega
          subst this; exact hl
    · have:i=j:=by omega
      subst this
      refine ⟨i,hi,hj,h1,h2,?_⟩
      simp only [F115_l3,decide_eq_false (show ¬ (i:Int)<(i:Int) by omega),cond_false]
end
def mvUp (g:Nat→Int) (a e:Nat):Nat→Int:=fun k=>if a≤k∧k<e then g (k + 1) else if k=e then g a else g k
theorem mvUp_step {g:Nat→Int} {a t:Nat} (h:a≤t) (k:Nat):upd (upd (mvUp g a t) t (mvUp g a t (t + 1))) (t + 1) (mvUp g a t t) k=mvUp g a (t + 1) k:=by
  have e1:mvUp g a t (t + 1)=g (t + 1):=by unfold mvUp; rw [if_neg (by omega),if_neg (by omega)]
  have e2:mvUp g a t t=g a:=by unfold mvUp; rw [if_neg (by omega),if_pos rfl]
  rw [e1,e2]
  unfold upd mvUp
  by_cases c1:k=t + 1
  · subst c1; rw [if_pos rfl,if_neg (by omega),if_pos rfl]
  · rw [if_neg c1]
    by_cases c2:k=t
    · subst c2; rw [if_pos rfl,if_pos (by omega)]
    · rw [if_neg c2]
      by_cases c3:a≤k∧k<t
      · rw [if_pos c3,if_pos (by omega)]
      · rw [if_neg c3,if_neg c2,if_neg (by omega),if_neg (by omega)]
theorem F115_l2_eq {L:Nat} (hL:L≤1000) {g:Nat→Int} {a e:Nat} (hae:a<e) (he:e≤L):∀n t,a≤t→t≤e - 1→e - 1 - t<n→F115_l2 (e:Int) n (mk L (mvUp g a t)) (t:Int)=some (mk L (mvUp g a (e - 1)))
  | 0,t,_,_,hn=>by omega
  | n + 1,t,hat,ht,hn=>by
    have w0:w64 ((e:Int) - 1)=((e - 1:Nat):Int):=pred_w (by omega) (by omega)
    rcases Nat.lt_or_ge t (e - 1) with hlt | hge
    · have w1:w64 ((t:Int) + 1)=((t + 1:Nat):Int):=succ_w (by omega)
      simp only [F115_l2,w0,decide_eq_true (show (t:Int)<((e - 1:Nat):Int) by omega),cond_true,w1]
      rw [mk_get (show t + 1<L by omega) rfl]
      simp only [Option.bind_some]
      rw [mk_get (show t<L by omega) rfl]
      simp only [Option.bind_some]
      rw [mk_set (show t<L by omega) _ rfl]
      simp only [Option.bind_some]
      rw [mk_get (show t + 1<L by omega) rfl]
      simp only [Option.bind_some]
      rw [mk_set (show t + 1<L by omega) _ rfl]
      simp only [Option.bind_some]
      rw [mk_congr fun k _=>mvUp_step (g:=g) hat k]
      exact F115_l2_eq hL hae he n (t + 1) (by omega) (by omega) (by omega)
    · have:t=e - 1:=by omega
      subst this
      simp only [F115_l2,w0,decide_eq_false (show ¬ ((e - 1:Nat):Int)<((e - 1:Nat):Int) by omega),cond_false]
def mvDn (g:Nat→Int) (e m:Nat):Nat→Int:=fun k=>if k=e then g m else if e<k∧k≤m then g (k - 1) else g k
theorem mvDn_step {g:Nat→Int} {t m:Nat} (h:t + 1≤m) (k:Nat):upd (upd (mvDn g (t + 1) m) (t + 1) (mvDn g (t + 1) m t)) t (mvDn g (t + 1) m (t + 1)) k=mvDn g t m k:=by
  have e1:mvDn g (t + 1) m t=g t:=by unfold mvDn; rw [if_neg (by omega),if_neg (by omega)]
  have e2:mvDn g (t + 1) m (t + 1)=g m:=by unfold mvDn; rw [if_pos rfl]
  rw [e1,e2]
  unfold upd mvDn
  by_cases c1:k=t
  · subst c1; rw [if_pos rfl,if_pos rfl]
  · rw [if_neg c1,if_neg c1]
    by_cases c2:k=t + 1
    · subst c2; rw [if_pos rfl,if_pos (by omega)]; rfl
    · rw [if_neg c2,if_neg c2]
      by_cases c3:t + 1<k∧k≤m
      · rw [if_pos c3,if_pos (by omega)]
      · rw [if_neg c3,if_neg (by omega)]
theorem F115_l4_eq {L:Nat} (hL:L≤1000) {g:Nat→Int} {e m:Nat} (hm:m<L):∀n t,e≤t→t≤m→t - e<n→F115_l4 (e:Int) n (mk L (mvDn g t m)) (t:Int)=some (mk L (mvDn g e m))
  | 0,t,_,_,hn=>by omega
  | n + 1,t,het,htm,hn=>by
    rcases Nat.lt_or_ge e t with hlt | hge
    · obtain ⟨u,rfl⟩:∃u,t=u + 1:=⟨t - 1,by omega⟩
      have w1:w64 (((u + 1:Nat):Int) - 1)=(u:Int):=by rw [pred_w (by omega) (by omega)]; rfl
      simp only [F115_l4,decide_eq_true (show ((u + 1:Nat):Int) > (e:Int) by omega),cond_true,w1]
      rw [mk_get (show u<L by omega) rfl]
      simp only [Option.bind_some]
      rw [mk_get (show u + 1<L by omega) rfl]
      simp only [Option.bind_some]
      rw [mk_set (show u + 1<L by omega) _ rfl]
      simp only [Option.bind_some]
      rw [mk_get (show u<L by omega) rfl]
      simp only [Option.bind_some]
      rw [mk_set (show u<L by omega) _ rfl]
      simp only [Option.bind_some]
      rw [mk_congr fun k _=>mvDn_step (g:=g) (by omega) k]
      exact F115_l4_eq hL hm n u (by omega) (by omega) (by omega)
    · have:t=e:=by omega
      subst this
      simp only [F115_l4,decide_eq_false (show ¬ (t:Int) > (t:Int) by omega),cond_false]
end Go.Proofs.YtlmgjjmighajdaaGreat
set_option linter.unusedSimpArgs false
set_option linter.unusedVariables false
namespace Go.Proofs.YtlmgjjmighajdaaGreat
open Go.Sl Go.Sx
theorem beqI {x y:Int} (h:x=y):(x == y)=true:=by simpa using h
theorem bneI {x y:Int} (h:x≠y):(x == y)=false:=by simpa using h
section
variable {f : Nat} {mm : Int} {arr : List Int} {L : Nat} {g : Nat → Int}
theorem F115_l5_eq (hd:DealOk mm arr) (hL:L≤1000) (hv:ValsP arr L g) (rec:List Int→Int→Int→Int→Option (List Int)) {a m b lo hi:Nat} (ham:a<m) (hmb:m<b) (hb:b≤L) (hlo:a≤lo) (hhi:hi≤m) (hp:∀c,lo≤c→c<hi→m≤(a + b) / 2 + m - 1 - c∧(a + b) / 2 + m - 1 - c<b)
    (hmon:∀c c',lo≤c→c<c'→c'<hi→less mm arr.sum arr (g ((a + b) / 2 + m - 1 - c)) (g c)=true→less mm arr.sum arr (g ((a + b) / 2 + m - 1 - c')) (g c')=true) :
    ∀n i j,lo≤i→i≤j→j≤hi→j - i<n→(∀c,lo≤c→c<i→less mm arr.sum arr (g ((a + b) / 2 + m - 1 - c)) (g c)=false)→(∀c,j≤c→c<hi→less mm arr.sum arr (g ((a + b) / 2 + m - 1 - c)) (g c)=true) →
    ∃e,lo≤e∧e≤hi∧(∀c,lo≤c→c<e→less mm arr.sum arr (g ((a + b) / 2 + m - 1 - c)) (g c)=false)∧(∀c,e≤c→c<hi→less mm arr.sum arr (g ((a + b) / 2 + m - 1 - c)) (g c)=true) ∧
      F115_l5 f rec mm arr arr.sum (mk L g) (a:Int) (m:Int) (b:Int) n (i:Int) (j:Int)=F115_l5 f rec mm arr arr.sum (mk L g) (a:Int) (m:Int) (b:Int) 1 (e:Int) (e:Int)
  | 0,i,j,_,_,_,hn,_,_=>by omega
  | n + 1,i,j,h1,h2,h3,hn,h4,h5=>by
    rcases Nat.lt_or_ge i j with hlt | hge
    · have hcl:(i + j) / 2<L:=by omega
      obtain ⟨q1,q2⟩:=hp ((i + j) / 2) (by omega) (by omega)
      have hql:(a + b) / 2 + m - 1 - (i + j) / 2<L:=by omega
      have hw:w64 ((((i + j) / 2:Nat):Int) + 1)=(((i + j) / 2 + 1:Nat):Int):=succ_w (by omega)
      have wq:w64 (w64 (w64 ((((a + b) / 2:Nat):Int) + (m:Int)) - 1) - (((i + j) / 2:Nat):Int))=(((a + b) / 2 + m - 1 - (i + j) / 2:Nat):Int):=by
        rw [wid (n:=(((a + b) / 2:Nat):Int) + (m:Int)) (by omega) (by omega),wid (n:=(((a + b) / 2:Nat):Int) + (m:Int) - 1) (by omega) (by omega),wid (by omega) (by omega)]
        omega
      rw [F115_l5]
      simp only [decide_eq_true (show (i:Int)<(j:Int) by omega),cond_true,half_w (a:=i) (b:=j) (by omega),half_w (a:=a) (b:=b) (by omega),hw,wq]
      rw [mk_get hql rfl]
      simp only [Option.bind_some]
      rw [mk_get hcl rfl]
      simp only [Option.bind_some]
      rw [cmp_less hd (hv _ hql) (hv _ hcl),dec_less]
      cases hl:less mm arr.sum arr (g ((a + b) / 2 + m - 1 - (i + j) / 2)) (g ((i + j) / 2))
      · rw [Bool.not_false,cond_true]
        refine F115_l5_eq hd hL hv rec ham hmb hb hlo hhi hp hmon n ((i + j) / 2 + 1) j (by omega) (by omega) h3 (by omega) (fun c hc hce=>?_) h5
        rcases Nat.lt_or_ge c ((i + j) / 2) with hk | hk
        · cases hl2:less mm arr.sum arr (g ((a + b) / 2 + m - 1 - c)) (g c)
          · rfl
          · rw [hmon c _ hc hk (by omega) hl2] at hl; cases hl
        · have:c=(i + j) / 2:=by omega
          subst this; exact hl
      · rw [Bool.not_true,cond_false]
        refine F115_l5_eq hd hL hv rec ham hmb hb hlo hhi hp hmon n i ((i + j) / 2) h1 (by omega) (by omega) (by omega) h4 fun c hc hce=>?_
        rcases Nat.lt_or_ge ((i + j) / 2) c with hk | hk
        · exact hmon _ c (by omega) hk hce hl
        · have:c=(i + j) / 2:=by omega
          subst this; exact hl
    · have:i=j:=by omega
      subst this
      refine ⟨i,h1,h3,h4,h5,?_⟩
      rw [F115_l5,F115_l5]
      simp only [decide_eq_false (show ¬ (i:Int)<(i:Int) by omega),cond_false]
def FrmP (g g':Nat→Int) (a b:Nat):Prop:=(∀k,k<a∨b≤k→g' k=g k)∧∀k,a≤k→k<b→∃k',a≤k'∧k'<b∧g' k=g k'
theorem FrmP.vals {g g':Nat→Int} {a b:Nat} (h:FrmP g g' a b) (hb:b≤L) (hv:ValsP arr L g):ValsP arr L g':=fun k hk=>by
  rcases Nat.lt_or_ge k a with h1 | h1
  · rw [h.1 k (.inl h1)]; exact hv k hk
  · rcases Nat.lt_or_ge k b with h2 | h2
    · obtain ⟨k',_,h3,e⟩:=h.2 k h1 h2
      rw [e]; exact hv k' (by omega)
    · rw [h.1 k (.inr h2)]; exact hv k hk
theorem ahead_le {lo hi:Nat} (hs:SortP mm arr g lo hi) {x:Int} {i j:Nat} (hi1:lo≤i) (hij:i≤j) (hj:j<hi) (h:ahead mm arr.sum arr (g j) x):ahead mm arr.sum arr (g i) x:=by
  rcases Nat.lt_or_ge i j with k | k
  · exact ahead_tr _ _ _ _ _ _ (hs i j hi1 k hj) h
  · have:i=j:=by omega
    subst this; exact h
theorem ahead_ge {lo hi:Nat} (hs:SortP mm arr g lo hi) {x:Int} {i j:Nat} (hi1:lo≤i) (hij:i≤j) (hj:j<hi) (h:ahead mm arr.sum arr x (g i)):ahead mm arr.sum arr x (g j):=by
  rcases Nat.lt_or_ge i j with k | k
  · exact ahead_tr _ _ _ _ _ _ h (hs i j hi1 k hj)
  · have:i=j:=by omega
    subst this; exact h
theorem sym_eq (hd:DealOk mm arr) (hL:L≤1000) (hf:1000<f):∀(n a m b:Nat) (g:Nat→Int),a<m→m<b→b≤L→b - a≤n→ValsP arr L g→SortP mm arr g a m→SortP mm arr g m b→IdxP g a m b →
    ∃g',F115r f mm arr arr.sum n (mk L g) (a:Int) (m:Int) (b:Int)=some (mk L g')∧FrmP g g' a b∧SortP mm arr g' a b
  | 0,a,m,b,g,h1,h2,_,hn,_,_,_,_=>by omega
  | n + 1,a,m,b,g,ham,hmb,hb,hn,hv,hsA,hsB,hix=>by
    have wma:w64 ((m:Int) - (a:Int))=((m - a:Nat):Int):=by rw [wid (by omega) (by omega)]; omega
    have wbm:w64 ((b:Int) - (m:Int))=((b - m:Nat):Int):=by rw [wid (by omega) (by omega)]; omega
    show ∃g',F115 f (F115r f mm arr arr.sum n) mm arr arr.sum (mk L g) (a:Int) (m:Int) (b:Int)=some (mk L g')∧_
    by_cases c1:m=a + 1
    · -- one on the left
      have hb1:(((m - a:Nat):Int) == 1)=true:=beqI (by omega)
      unfold F115
      rw [wma,hb1,cond_true]
      obtain ⟨e,e1,e2,e3,e4,e5⟩:=F115_l1_eq (f:=f) hd hL hv (a:=a) (m:=m) (b:=b) (by omega) hb (fun k k' hk hkk hkb hl=>by
        have i1:=hix a k (by omega) (by omega) hk (by omega)
        have i2:=hix a k' (by omega) (by omega) (by omega) hkb
        exact (less_ahead i1).2 (ahead_tr _ _ _ _ _ _ (hsB k k' hk hkk hkb) ((less_ahead i2).1 hl))) f m b (by omega) (by omega) (by omega) (by omega) (fun k h1 h2=>by omega) (fun k h1 h2=>by omega)
      have e6:=F115_l2_eq hL (g:=g) (a:=a) (e:=e) (by omega) (by omega) f a (by omega) (by omega) (by omega)
      have e0:mk L (mvUp g a a)=mk L g:=mk_congr fun k _=>by unfold mvUp; by_cases c:k=a; subst c; simp; rw [if_neg (by omega),if_neg c]
      rw [e0] at e6
      refine ⟨mvUp g a (e - 1),by rw [e5,e6],⟨fun k hk=>?_,fun k hk1 hk2=>?_⟩,fun i j hi hij hj=>?_⟩
      · unfold mvUp; rw [if_neg (by omega),if_neg (by omega)]
      · unfold mvUp
        by_cases c:a≤k∧k<e - 1
        · rw [if_pos c]; exact ⟨k + 1,by omega,by omega,rfl⟩
        · rw [if_neg c]
          by_cases c2:k=e - 1
          · rw [if_pos c2]; exact ⟨a,by omega,by omega,rfl⟩
          · rw [if_neg c2]; exact ⟨k,hk1,hk2,rfl⟩
      · have lt_x:∀k,m≤k→k<e→ahead mm arr.sum arr (g k) (g a):=fun k h1 h2=>(less_ahead (hix a k (by omega) (by omega) h1 (by omega))).1 (e3 k h1 h2)
        have x_lt:∀k,e≤k→k<b→ahead mm arr.sum arr (g a) (g k):=fun k h1 h2=>nless_ahead (hix a k (by omega) (by omega) (by omega) h2) (e4 k h1 h2)
        unfold mvUp
        by_cases p1:i<e - 1
        · rw [if_pos ⟨hi,p1⟩]
          by_cases p2:j<e - 1
          · rw [if_pos ⟨by omega,p2⟩]; exact hsB (i + 1) (j + 1) (by omega) (by omega) (by omega)
          · rw [if_neg (by omega)]
            by_cases p3:j=e - 1
            · rw [if_pos p3]; exact lt_x (i + 1) (by omega) (by omega)
            · rw [if_neg p3]; exact hsB (i + 1) j (by omega) (by omega) hj
        · rw [if_neg (by omega)]
          by_cases p2:i=e - 1
          · rw [if_pos p2,if_neg (by omega),if_neg (by omega)]; exact x_lt j (by omega) hj
          · rw [if_neg p2,if_neg (by omega),if_neg (by omega)]; exact hsB i j (by omega) hij hj
    · have hb1:(((m - a:Nat):Int) == 1)=false:=bneI (by omega)
      by_cases c2:b=m + 1
      · -- one on the right
        have hb2:(((b - m:Nat):Int) == 1)=true:=beqI (by omega)
        unfold F115
        rw [wma,hb1,cond_false,wbm,hb2,cond_true]
        obtain ⟨e,e1,e2,e3,e4,e5⟩:=F115_l3_eq (f:=f) hd hL hv (a:=a) (m:=m) (by omega) (fun k k' hk hkk hkb hl=>by
          have i1:=hix k m hk (by omega) (by omega) (by omega)
          have i2:=hix k' m (by omega) hkb (by omega) (by omega)
          exact (less_ahead i2).2 (ahead_tr _ _ _ _ _ _ ((less_ahead i1).1 hl) (hsA k k' hk hkk hkb))) f a m (by omega) (by omega) (by omega) (by omega) (fun k h1 h2=>by omega) (fun k h1 h2=>by omega)
        have e6:=F115_l4_eq hL (g:=g) (e:=e) (m:=m) (by omega) f m (by omega) (by omega) (by omega)
        have e0:mk L (mvDn g m m)=mk L g:=mk_congr fun k _=>by unfold mvDn; by_cases c:k=m; subst c; simp; rw [if_neg c,if_neg (by omega)]
        rw [e0] at e6
        refine ⟨mvDn g e m,by rw [e5,e6],⟨fun k hk=>?_,fun k hk1 hk2=>?_⟩,fun i j hi hij hj=>?_⟩
        · unfold mvDn; rw [if_neg (by omega),if_neg (by omega)]
        · unfold mvDn
          by_cases c:k=e
          · rw [if_pos c]; exact ⟨m,by omega,by omega,rfl⟩
          · rw [if_neg c]
            by_cases c2:e<k∧k≤m
            · rw [if_pos c2]; exact ⟨k - 1,by omega,by omega,rfl⟩
            · rw [if_neg c2]; exact ⟨k,hk1,hk2,rfl⟩
        · have x_gt:∀k,a≤k→k<e→ahead mm arr.sum arr (g k) (g m):=fun k h1 h2=>nless_ahead (hix k m h1 (by omega) (by omega) (by omega)) (e3 k h1 h2)
          have x_lt:∀k,e≤k→k<m→ahead mm arr.sum arr (g m) (g k):=fun k h1 h2=>(less_ahead (hix k m (by omega) h2 (by omega) (by omega))).1 (e4 k h1 h2)
          unfold mvDn
          by_cases p1:i=e
          · rw [if_pos p1,if_neg (by omega),if_pos (by omega)]; exact x_lt (j - 1) (by omega) (by omega)
          · rw [if_neg p1]
            by_cases p2:e<i∧i≤m
            · rw [if_pos p2,if_neg (by omega),if_pos (by omega)]; exact hsA (i - 1) (j - 1) (by omega) (by omega) (by omega)
            · rw [if_neg p2]
              by_cases p3:j=e
              · rw [if_pos p3]; exact x_gt i hi (by omega)
              · rw [if_neg p3]
                by_cases p4:e<j∧j≤m
                · rw [if_pos p4]; exact hsA i (j - 1) hi (by omega) (by omega)
                · rw [if_neg p4]; exact hsA i j hi hij (by omega)
      · have hb2:(((b - m:Nat):Int) == 1)=false:=bneI (by omega)
        -- in general
        obtain ⟨mid,hmid⟩:∃mid,mid=(a + b) / 2:=⟨_,rfl⟩
        have wmid:=half_w (a:=a) (b:=b) (by omega)
        rw [← hmid] at wmid
        have wn:w64 ((mid:Int) + (m:Int))=((mid + m:Nat):Int):=by rw [wid (by omega) (by omega)]; omega
        -- the bounds of the search
        obtain ⟨lo,hi,hlo,hhi,hlh,hp,hcase,hF⟩:∃lo hi:Nat,a≤lo∧hi≤m∧lo≤hi∧(∀c,lo≤c→c<hi→m≤(a + b) / 2 + m - 1 - c∧(a + b) / 2 + m - 1 - c<b)∧((hi=m∧m≤mid∧lo=a)∨(hi=mid∧mid<m∧lo + b=mid + m)) ∧
            F115 f (F115r f mm arr arr.sum n) mm arr arr.sum (mk L g) (a:Int) (m:Int) (b:Int)=F115_l5 f (F115r f mm arr arr.sum n) mm arr arr.sum (mk L g) (a:Int) (m:Int) (b:Int) f (lo:Int) (hi:Int):=by
          unfold F115 F115_j1
          rw [wma,hb1,cond_false,wbm,hb2,cond_false,wmid,wn]
          by_cases c3:m > mid
          · refine ⟨mid + m - b,mid,by omega,by omega,by omega,fun c h1 h2=>by omega, .inr ⟨rfl,by omega,by omega⟩,?_⟩
            rw [decide_eq_true (show (m:Int) > (mid:Int) by omega),cond_true,wid (n:=((mid + m:Nat):Int) - (b:Int)) (by omega) (by omega)]
            have:((mid + m:Nat):Int) - (b:Int)=((mid + m - b:Nat):Int):=by omega
            rw [this]
          · refine ⟨a,m,by omega,by omega,by omega,fun c h1 h2=>by omega, .inl ⟨rfl,by omega,rfl⟩,?_⟩
            rw [decide_eq_false (show ¬ (m:Int) > (mid:Int) by omega),cond_false]
        rw [hF]
        obtain ⟨st,s1,s2,s3,s4,s5⟩:=F115_l5_eq (f:=f) hd hL hv (F115r f mm arr arr.sum n) ham hmb hb hlo hhi hp (fun c c' h1 h2 h3 hl=>by
          obtain ⟨q1,q2⟩:=hp c h1 (by omega)
          obtain ⟨q3,q4⟩:=hp c' (by omega) h3
          have i1:=hix c _ (by omega) (by omega) q1 q2
          have i2:=hix c' _ (by omega) (by omega) q3 q4
          refine (less_ahead i2).2 ?_
          exact ahead_tr _ _ _ _ _ _ (ahead_tr _ _ _ _ _ _ (hsB _ _ q3 (by omega) q2) ((less_ahead i1).1 hl)) (hsA c c' (by omega) h2 (by omega))) f lo hi (Nat.le_refl _) hlh (Nat.le_refl _) (by omega) (fun c h1 h2=>by omega) (fun c h1 h2=>by omega)
        rw [s5]
        obtain ⟨en,hen⟩:∃en,en=mid + m - st:=⟨_,rfl⟩
        have wen:w64 (((mid + m:Nat):Int) - (st:Int))=(en:Int):=by rw [wid (by omega) (by omega)]; omega
        have hstm:st≤m:=by omega
        have hmen:m≤en:=by omega
        have henb:en≤b:=by omega
        have hsmid:st≤mid:=by omega
        have hmiden:mid≤en:=by omega
        -- behind the rotation
        obtain ⟨G,hG⟩:∃G,G=rot g st (m - st) (en - m):=⟨_,rfl⟩
        have G1:∀k,k<st→G k=g k:=fun k hk=>by rw [hG]; unfold rot; rw [if_neg (by omega),if_neg (by omega)]
        have G2:∀k,st≤k→k<mid→G k=g (k + (m - st)):=fun k h1 h2=>by rw [hG]; unfold rot; rw [if_pos (by omega)]
        have G3:∀k,mid≤k→k<en→G k=g (k - (en - m)):=fun k h1 h2=>by rw [hG]; unfold rot; rw [if_neg (by omega),if_pos (by omega)]
        have G4:∀k,en≤k→G k=g k:=fun k hk=>by rw [hG]; unfold rot; rw [if_neg (by omega),if_neg (by omega)]
        have hrot:F115_l5 f (F115r f mm arr arr.sum n) mm arr arr.sum (mk L g) (a:Int) (m:Int) (b:Int) 1 (st:Int) (st:Int)=F115_j2 (F115r f mm arr arr.sum n) (a:Int) (m:Int) (b:Int) (st:Int) (mk L G):=by
          rw [F115_l5]
          simp only [decide_eq_false (show ¬ (st:Int)<(st:Int) by omega),cond_false,wmid,wn,wen]
          have triv:st=m∨en=m→mk L g=mk L G:=fun h=>mk_congr fun k _=>by
            rcases Nat.lt_or_ge k st with h1 | h1
            · exact (G1 k h1).symm
            · rcases Nat.lt_or_ge k mid with h2 | h2
              · rw [G2 k h1 h2]; rcases h with h | h
                · congr 1; omega
                · omega
              · rcases Nat.lt_or_ge k en with h3 | h3
                · rw [G3 k h2 h3]; rcases h with h | h
                  · omega
                  · congr 1; omega
                · exact (G4 k h3).symm
          by_cases p1:st<m
          · rw [decide_eq_true (show (st:Int)<(m:Int) by omega),cond_true]
            by_cases p2:m<en
            · rw [decide_eq_true (show (m:Int)<(en:Int) by omega)]
              simp only [F115_j3,cond_true,wmid,wn,wen]
              have w1:w64 ((m:Int) - (st:Int))=((m - st:Nat):Int):=by rw [wid (by omega) (by omega)]; omega
              have w2:w64 ((en:Int) - (m:Int))=((en - m:Nat):Int):=by rw [wid (by omega) (by omega)]; omega
              rw [w1,w2,F115_l6_eq hL hf _ _ _ _ f (m - st) (en - m) g (by omega) (by omega) (by omega) (by omega) (by omega)]
              have:m - (m - st)=st:=by omega
              rw [this, ← hG]
            · rw [decide_eq_false (show ¬ (m:Int)<(en:Int) by omega)]
              simp only [F115_j3,cond_false]
              rw [triv (.inr (by omega))]
          · rw [decide_eq_false (show ¬ (st:Int)<(m:Int) by omega),cond_false]
            simp only [F115_j3,cond_false]
            rw [triv (.inl (by omega))]
        rw [hrot]
        -- the halves of G
        have hvG:ValsP arr L G:=fun k hk=>by
          rcases Nat.lt_or_ge k st with h1 | h1
          · rw [G1 k h1]; exact hv k hk
          · rcases Nat.lt_or_ge k mid with h2 | h2
            · rw [G2 k h1 h2]; exact hv _ (by omega)
            · rcases Nat.lt_or_ge k en with h3 | h3
              · rw [G3 k h2 h3]; exact hv _ (by omega)
              · rw [G4 k h3]; exact hv k hk
        have hfG:FrmP g G a b:=⟨fun k hk=>by
          rcases hk with hk | hk
          · exact G1 k (by omega)
          · exact G4 k (by omega),fun k h1 h2=>by
          rcases Nat.lt_or_ge k st with k1 | k1
          · exact ⟨k,h1,h2,G1 k k1⟩
          · rcases Nat.lt_or_ge k mid with k2 | k2
            · exact ⟨_,by omega,by omega,G2 k k1 k2⟩
            · rcases Nat.lt_or_ge k en with k3 | k3
              · exact ⟨_,by omega,by omega,G3 k k2 k3⟩
              · exact ⟨k,h1,h2,G4 k k3⟩⟩
        have sA1:SortP mm arr G a st:=fun i j h1 h2 h3=>by rw [G1 i (by omega),G1 j h3]; exact hsA i j h1 h2 (by omega)
        have sB1:SortP mm arr G st mid:=fun i j h1 h2 h3=>by rw [G2 i h1 (by omega),G2 j (by omega) h3]; exact hsB _ _ (by omega) (by omega) (by omega)
        have sA2:SortP mm arr G mid en:=fun i j h1 h2 h3=>by rw [G3 i h1 (by omega),G3 j (by omega) h3]; exact hsA _ _ (by omega) (by omega) (by omega)
        have sB2:SortP mm arr G en b:=fun i j h1 h2 h3=>by rw [G4 i h1,G4 j (by omega)]; exact hsB i j (by omega) h2 h3
        have i1:IdxP G a st mid:=fun i j h1 h2 h3 h4=>by rw [G1 i h2,G2 j h3 h4]; exact hix _ _ h1 (by omega) (by omega) (by omega)
        have i2:IdxP G mid en b:=fun i j h1 h2 h3 h4=>by rw [G3 i h1 h2,G4 j h3]; exact hix _ _ (by omega) (by omega) (by omega) h4
        have hcross:∀i j,a≤i→i<mid→mid≤j→j<b→ahead mm arr.sum arr (G i) (G j):=fun i j h1 h2 h3 h4=>by
          rcases Nat.lt_or_ge i st with k1 | k1
          · rw [G1 i k1]
            rcases Nat.lt_or_ge j en with k2 | k2
            · rw [G3 j h3 k2]; exact hsA _ _ h1 (by omega) (by omega)
            · rw [G4 j k2]
              have hst:lo≤st - 1:=by omega
              have hl:=s3 (st - 1) hst (by omega)
              have ee:(a + b) / 2 + m - 1 - (st - 1)=en:=by omega
              rw [ee] at hl
              have:=nless_ahead (hix (st - 1) en (by omega) (by omega) hmen (by omega)) hl
              exact ahead_le hsA h1 (show i≤st - 1 by omega) (by omega) (ahead_ge hsB hmen k2 h4 this)
          · rw [G2 i k1 h2]
            rcases Nat.lt_or_ge j en with k2 | k2
            · rw [G3 j h3 k2]
              have hst:st<hi:=by omega
              have hl:=s4 st (Nat.le_refl _) hst
              have ee:(a + b) / 2 + m - 1 - st=en - 1:=by omega
              rw [ee] at hl
              have:=(less_ahead (hix st (en - 1) (by omega) (by omega) (by omega) (by omega))).1 hl
              exact ahead_le hsB (by omega) (show i + (m - st)≤en - 1 by omega) (by omega) (ahead_ge hsA (by omega) (show st≤j - (en - m) by omega) (by omega) this)
            · rw [G4 j k2]; exact hsB _ _ (by omega) (by omega) h4
        -- the left half
        have hleft:∃G',F115_j2 (F115r f mm arr arr.sum n) (a:Int) (m:Int) (b:Int) (st:Int) (mk L G)=F115_j4 (F115r f mm arr arr.sum n) (a:Int) (m:Int) (b:Int) (st:Int) (mk L G')∧FrmP G G' a mid∧SortP mm arr G' a mid:=by
          unfold F115_j2
          rw [wmid]
          by_cases p1:a<st
          · rw [decide_eq_true (show (a:Int)<(st:Int) by omega),cond_true]
            by_cases p2:st<mid
            · rw [decide_eq_true (show (st:Int)<(mid:Int) by omega)]
              obtain ⟨g',r1,r2,r3⟩:=sym_eq hd hL hf n a st mid G p1 p2 (by omega) (by omega) hvG sA1 sB1 i1
              refine ⟨g',?_,r2,r3⟩
              simp only [F115_j5,cond_true,wmid,r1,Option.bind_some]
            · rw [decide_eq_false (show ¬ (st:Int)<(mid:Int) by omega)]
              have:st=mid:=by omega
              exact ⟨G,by simp only [F115_j5,cond_false],⟨fun _ _=>rfl,fun k h1 h2=>⟨k,h1,h2,rfl⟩⟩,by rw [← this]; exact sA1⟩
          · rw [decide_eq_false (show ¬ (a:Int)<(st:Int) by omega),cond_false]
            have:a=st:=by omega
            exact ⟨G,by simp only [F115_j5,cond_false],⟨fun _ _=>rfl,fun k h1 h2=>⟨k,h1,h2,rfl⟩⟩,by rw [this]; exact sB1⟩
        obtain ⟨G',l1,l2,l3⟩:=hleft
        rw [l1]
        have eG:∀k,mid≤k→G' k=G k:=fun k hk=>l2.1 k (.inr hk)
        have hright:∃g',F115_j4 (F115r f mm arr arr.sum n) (a:Int) (m:Int) (b:Int) (st:Int) (mk L G')=some (mk L g')∧FrmP G' g' mid b∧SortP mm arr g' mid b:=by
          unfold F115_j4
          rw [wmid,wn,wen]
          have sA2':SortP mm arr G' mid en:=fun i j h1 h2 h3=>by rw [eG i h1,eG j (by omega)]; exact sA2 i j h1 h2 h3
          have sB2':SortP mm arr G' en b:=fun i j h1 h2 h3=>by rw [eG i (by omega),eG j (by omega)]; exact sB2 i j h1 h2 h3
          by_cases p1:mid<en
          · rw [decide_eq_true (show (mid:Int)<(en:Int) by omega),cond_true]
            by_cases p2:en<b
            · rw [decide_eq_true (show (en:Int)<(b:Int) by omega)]
              obtain ⟨g',r1,r2,r3⟩:=sym_eq hd hL hf n mid en b G' p1 p2 hb (by omega) (l2.vals (by omega) hvG) sA2' sB2' (fun i j h1 h2 h3 h4=>by rw [eG i h1,eG j (by omega)]; exact i2 i j h1 h2 h3 h4)
              refine ⟨g',?_,r2,r3⟩
              simp only [F115_j6,cond_true,wmid,wn,wen,r1,Option.bind_some]
            · rw [decide_eq_false (show ¬ (en:Int)<(b:Int) by omega)]
              have:en=b:=by omega
              exact ⟨G',by simp only [F115_j6,cond_false],⟨fun _ _=>rfl,fun k h1 h2=>⟨k,h1,h2,rfl⟩⟩,by rw [← this]; exact sA2'⟩
          · rw [decide_eq_false (show ¬ (mid:Int)<(en:Int) by omega),cond_false]
            have:mid=en:=by omega
            exact ⟨G',by simp only [F115_j6,cond_false],⟨fun _ _=>rfl,fun k h1 h2=>⟨k,h1,h2,rfl⟩⟩,by rw [this]; exact sB2'⟩
        obtain ⟨g',r1,r2,r3⟩:=hright
        refine ⟨g',r1,⟨fun k hk=>?_,fun k h1 h2=>?_⟩,fun i j h1 h2 h3=>?_⟩
        · rw [r2.1 k (by omega),l2.1 k (by omega),hfG.1 k hk]
        · obtain ⟨k1,a1,a2,a3⟩:∃k1,a≤k1∧k1<b∧g' k=G' k1:=by
            rcases Nat.lt_or_ge k mid with q | q
            · exact ⟨k,h1,h2,r2.1 k (.inl q)⟩
            · obtain ⟨k',x1,x2,x3⟩:=r2.2 k q h2; exact ⟨k',by omega,x2,x3⟩
          obtain ⟨k2,b1,b2,b3⟩:∃k2,a≤k2∧k2<b∧G' k1=G k2:=by
            rcases Nat.lt_or_ge k1 mid with q | q
            · obtain ⟨k',x1,x2,x3⟩:=l2.2 k1 a1 q; exact ⟨k',x1,by omega,x3⟩
            · exact ⟨k1,a1,a2,eG k1 q⟩
          obtain ⟨k3,d1,d2,d3⟩:=hfG.2 k2 b1 b2
          exact ⟨k3,d1,d2,by rw [a3,b3,d3]⟩
        · rcases Nat.lt_or_ge j mid with q | q
          · rw [r2.1 i (.inl (by omega)),r2.1 j (.inl q)]; exact l3 i j h1 h2 q
          · rcases Nat.lt_or_ge i mid with p | p
            · rw [r2.1 i (.inl p)]
              obtain ⟨i',x1,x2,x3⟩:=l2.2 i h1 p
              obtain ⟨j',y1,y2,y3⟩:=r2.2 j q h3
              rw [x3,y3,eG j' y1]
              exact hcross i' j' x1 x2 y1 y2
            · exact r3 i j p h2 h3
end
end Go.Proofs.YtlmgjjmighajdaaGreat
set_option linter.unusedSimpArgs false
set_option linter.unusedVariables false
namespace Go.Proofs.YtlmgjjmighajdaaGreat
open Go.Sl Go.Sx
section
variable {f : Nat} {mm : Int} {arr : List Int} {L : Nat} {g : Nat → Int}
theorem ins_ok {lo i e:Nat} (hs:SortP mm arr g lo i) (hix:∀k,lo≤k→k<i→g k<g i) (h1:lo≤e) (h2:e≤i) (hl:∀k,e≤k→k<i→less mm arr.sum arr (g i) (g k)=true) (hend:e=lo∨less mm arr.sum arr (g i) (g (e - 1))=false) :
    SortP mm arr (mvDn g e i) lo (i + 1)∧FrmP g (mvDn g e i) lo (i + 1):=by
  have xlt:∀k,e≤k→k<i→ahead mm arr.sum arr (g i) (g k):=fun k h3 h4=>(less_ahead (hix k (by omega) h4)).1 (hl k h3 h4)
  have ltx:∀k,lo≤k→k<e→ahead mm arr.sum arr (g k) (g i):=fun k h3 h4=>by
    rcases hend with h | h
    · omega
    · exact ahead_le hs h3 (show k≤e - 1 by omega) (by omega) (nless_ahead (hix (e - 1) (by omega) (by omega)) h)
  refine ⟨fun a b ha hab hb=>?_,fun k hk=>?_,fun k hk1 hk2=>?_⟩
  · unfold mvDn
    by_cases p1:a=e
    · rw [if_pos p1,if_neg (by omega),if_pos (by omega)]; exact xlt (b - 1) (by omega) (by omega)
    · rw [if_neg p1]
      by_cases p2:e<a∧a≤i
      · rw [if_pos p2,if_neg (by omega),if_pos (by omega)]; exact hs (a - 1) (b - 1) (by omega) (by omega) (by omega)
      · rw [if_neg p2]
        by_cases p3:b=e
        · rw [if_pos p3]; exact ltx a ha (by omega)
        · rw [if_neg p3]
          by_cases p4:e<b∧b≤i
          · rw [if_pos p4]; exact hs a (b - 1) ha (by omega) (by omega)
          · rw [if_neg p4]; exact hs a b ha hab (by omega)
  · unfold mvDn; rw [if_neg (by omega),if_neg (by omega)]
  · unfold mvDn
    by_cases p1:k=e
    · rw [if_pos p1]; exact ⟨i,by omega,by omega,rfl⟩
    · rw [if_neg p1]
      by_cases p2:e<k∧k≤i
      · rw [if_pos p2]; exact ⟨k - 1,by omega,by omega,rfl⟩
      · rw [if_neg p2]; exact ⟨k,hk1,hk2,rfl⟩
theorem mvDn_at (e i:Nat):mvDn g e i e=g i:=by unfold mvDn; rw [if_pos rfl]
theorem mvDn_pre {e i:Nat} (h:0<e):mvDn g e i (e - 1)=g (e - 1):=by unfold mvDn; rw [if_neg (by omega),if_neg (by omega)]
theorem F70_l7_in (hd:DealOk mm arr) (hL:L≤1000) (hv:ValsP arr L g) (k4:List Int→Int→Option (List Int)) {lo i:Nat} (hi:i<L) :
    ∀n j,lo≤j→j≤i→j - lo<n→(∀k,j≤k→k<i→less mm arr.sum arr (g i) (g k)=true) →
    ∃e,lo≤e∧e≤i∧(∀k,e≤k→k<i→less mm arr.sum arr (g i) (g k)=true)∧(e=lo∨less mm arr.sum arr (g i) (g (e - 1))=false) ∧
      F70_l7 f k4 mm arr arr.sum (lo:Int) (i:Int) n (mk L (mvDn g j i)) (j:Int)=k4 (mk L (mvDn g e i)) ((i + 1:Nat):Int)
  | 0,j,_,_,hn,_=>by omega
  | n + 1,j,h1,h2,hn,hl=>by
    have wi:w64 ((i:Int) + 1)=((i + 1:Nat):Int):=succ_w (by omega)
    rcases Nat.lt_or_ge lo j with hlt | hge
    · obtain ⟨u,rfl⟩:∃u,j=u + 1:=⟨j - 1,by omega⟩
      have w1:w64 (((u + 1:Nat):Int) - 1)=(u:Int):=by rw [pred_w (by omega) (by omega)]; rfl
      have e1:mvDn g (u + 1) i (u + 1)=g i:=mvDn_at _ _
      have e2:mvDn g (u + 1) i u=g u:=mvDn_pre (e:=u + 1) (by omega)
      simp only [F70_l7,decide_eq_true (show ((u + 1:Nat):Int) > (lo:Int) by omega),cond_true,w1]
      rw [mk_get (show u + 1<L by omega) rfl]
      simp only [Option.bind_some]
      rw [mk_get (show u<L by omega) rfl,e1,e2]
      simp only [Option.bind_some]
      rw [cmp_less hd (hv i hi) (hv u (by omega)),dec_less]
      cases hc:less mm arr.sum arr (g i) (g u)
      · simp only [F70_j3,cond_false,wi]
        exact ⟨u + 1,h1,h2,hl, .inr hc,rfl⟩
      · simp only [F70_j3,cond_true,w1]
        rw [mk_get (show u<L by omega) rfl]
        simp only [Option.bind_some]
        rw [mk_get (show u + 1<L by omega) rfl]
        simp only [Option.bind_some]
        rw [mk_set (show u + 1<L by omega) _ rfl]
        simp only [Option.bind_some]
        rw [mk_get (show u<L by omega) rfl]
        simp only [Option.bind_some]
        rw [mk_set (show u<L by omega) _ rfl]
        simp only [Option.bind_some]
        rw [mk_congr fun k _=>mvDn_step (g:=g) (by omega) k]
        refine F70_l7_in hd hL hv k4 hi n u (by omega) (by omega) (by omega) fun k hk hki=>?_
        rcases Nat.lt_or_ge u k with q | q
        · exact hl k q hki
        · have:k=u:=by omega
          subst this; exact hc
    · have:j=lo:=by omega
      subst this
      refine ⟨j,h1,h2,hl, .inl rfl,?_⟩
      simp only [F70_l7,decide_eq_false (show ¬ (j:Int) > (j:Int) by omega),cond_false,F70_j3,wi]
theorem F70_l5_in (hd:DealOk mm arr) (hL:L≤1000) (hv:ValsP arr L g) (k4:List Int→Int→Option (List Int)) {lo i:Nat} (hi:i<L) :
    ∀n j,lo≤j→j≤i→j - lo<n→(∀k,j≤k→k<i→less mm arr.sum arr (g i) (g k)=true) →
    ∃e,lo≤e∧e≤i∧(∀k,e≤k→k<i→less mm arr.sum arr (g i) (g k)=true)∧(e=lo∨less mm arr.sum arr (g i) (g (e - 1))=false) ∧
      F70_l5 f k4 mm arr arr.sum (lo:Int) (i:Int) n (mk L (mvDn g j i)) (j:Int)=k4 (mk L (mvDn g e i)) ((i + 1:Nat):Int)
  | 0,j,_,_,hn,_=>by omega
  | n + 1,j,h1,h2,hn,hl=>by
    have wi:w64 ((i:Int) + 1)=((i + 1:Nat):Int):=succ_w (by omega)
    rcases Nat.lt_or_ge lo j with hlt | hge
    · obtain ⟨u,rfl⟩:∃u,j=u + 1:=⟨j - 1,by omega⟩
      have w1:w64 (((u + 1:Nat):Int) - 1)=(u:Int):=by rw [pred_w (by omega) (by omega)]; rfl
      have e1:mvDn g (u + 1) i (u + 1)=g i:=mvDn_at _ _
      have e2:mvDn g (u + 1) i u=g u:=mvDn_pre (e:=u + 1) (by omega)
      simp only [F70_l5,decide_eq_true (show ((u + 1:Nat):Int) > (lo:Int) by omega),cond_true,w1]
      rw [mk_get (show u + 1<L by omega) rfl]
      simp only [Option.bind_some]
      rw [mk_get (show u<L by omega) rfl,e1,e2]
      simp only [Option.bind_some]
      rw [cmp_less hd (hv i hi) (hv u (by omega)),dec_less]
      cases hc:less mm arr.sum arr (g i) (g u)
      · simp only [F70_j2,cond_false,wi]
        exact ⟨u + 1,h1,h2,hl, .inr hc,rfl⟩
      · simp only [F70_j2,cond_true,w1]
        rw [mk_get (show u<L by omega) rfl]
        simp only [Option.bind_some]
        rw [mk_get (show u + 1<L by omega) rfl]
        simp only [Option.bind_some]
        rw [mk_set (show u + 1<L by omega) _ rfl]
        simp only [Option.bind_some]
        rw [mk_get (show u<L by omega) rfl]
        simp only [Option.bind_some]
        rw [mk_set (show u<L by omega) _ rfl]
        simp only [Option.bind_some]
        rw [mk_congr fun k _=>mvDn_step (g:=g) (by omega) k]
        refine F70_l5_in hd hL hv k4 hi n u (by omega) (by omega) (by omega) fun k hk hki=>?_
        rcases Nat.lt_or_ge u k with q | q
        · exact hl k q hki
        · have:k=u:=by omega
          subst this; exact hc
    · have:j=lo:=by omega
      subst this
      refine ⟨j,h1,h2,hl, .inl rfl,?_⟩
      simp only [F70_l5,decide_eq_false (show ¬ (j:Int) > (j:Int) by omega),cond_false,F70_j2,wi]
structure SoFar (mm:Int) (arr:List Int) (L:Nat) (g:Nat→Int) (lo i:Nat):Prop where
  s:SortP mm arr g lo i
  id:∀k,i≤k→k<L→g k=(k:Int)
  v:∀k,lo≤k→k<i→(lo:Int)≤g k∧g k<(i:Int)
theorem SoFar.step {lo i e:Nat} (h:SoFar mm arr L g lo i) (hlo:lo≤i) (hi:i<L) (h1:lo≤e) (h2:e≤i) (hl:∀k,e≤k→k<i→less mm arr.sum arr (g i) (g k)=true) (hend:e=lo∨less mm arr.sum arr (g i) (g (e - 1))=false) :
    SoFar mm arr L (mvDn g e i) lo (i + 1)∧∀k,k<lo→mvDn g e i k=g k:=by
  have hgi:=h.id i (Nat.le_refl _) hi
  obtain ⟨a1,a2⟩:=ins_ok h.s (fun k hk hki=>by rw [hgi]; exact (h.v k hk hki).2) h1 h2 hl hend
  refine ⟨⟨a1,fun k hk hkL=>?_,fun k hk hki=>?_⟩,fun k hk=>a2.1 k (.inl hk)⟩
  · rw [a2.1 k (.inr hk)]; exact h.id k (by omega) hkL
  · obtain ⟨k',b1,b2,b3⟩:=a2.2 k hk hki
    rw [b3]
    rcases Nat.lt_or_ge k' i with q | q
    · have:=h.v k' b1 q; omega
    · have:k'=i:=by omega
      subst this; rw [hgi]; omega
theorem F70_l6_in (hd:DealOk mm arr) (hL:L≤1000) (hf:1000<f) (y21 y15:List Int) (y22:Int) (hy:y15.length=L) (hLa:L=arr.length) {lo:Nat}:∀n i g,lo≤i→L<i + n→ValsP arr L g→SoFar mm arr L g lo i→i≤L →
    ∃g',F70_l6 f mm arr arr.sum y21 y15 y22 (lo:Int) n (mk L g) (i:Int)=F70_l8 f mm arr arr.sum y21 y15 y22 f (mk L g') 20∧SoFar mm arr L g' lo L∧ValsP arr L g'∧∀k,k<lo→g' k=g k
  | 0,i,g,_,hn,_,_,hi=>by omega
  | n + 1,i,g,hlo,hn,hv,hs,hi=>by
    rcases Nat.lt_or_ge i L with hlt | hge
    · simp only [F70_l6,hy,decide_eq_true (show (i:Int)<(L:Int) by omega),cond_true]
      have e0:mk L g=mk L (mvDn g i i):=mk_congr fun k _=>by unfold mvDn; by_cases c:k=i; subst c; simp; rw [if_neg c,if_neg (by omega)]
      obtain ⟨e,a1,a2,a3,a4,a5⟩:=F70_l7_in (f:=f) hd hL hv (F70_l6 f mm arr arr.sum y21 y15 y22 (lo:Int) n) (lo:=lo) (i:=i) hlt f i hlo (Nat.le_refl _) (by omega) (fun k h1 h2=>by omega)
      rw [e0,a5]
      obtain ⟨b1,b2⟩:=hs.step hlo hlt a1 a2 a3 a4
      have hv':ValsP arr L (mvDn g e i):=fun k hk=>by
        unfold mvDn
        by_cases c:k=e
        · rw [if_pos c]; exact hv i hlt
        · rw [if_neg c]
          by_cases c2:e<k∧k≤i
          · rw [if_pos c2]; exact hv _ (by omega)
          · rw [if_neg c2]; exact hv k hk
      obtain ⟨g',c1,c2,c3,c4⟩:=F70_l6_in hd hL hf y21 y15 y22 hy hLa n (i + 1) (mvDn g e i) (by omega) (by omega) hv' b1 hlt
      exact ⟨g',c1,c2,c3,fun k hk=>by rw [c4 k hk,b2 k hk]⟩
    · have:i=L:=by omega
      subst this
      refine ⟨g,?_,hs,hv,fun _ _=>rfl⟩
      simp only [F70_l6,hy,decide_eq_false (show ¬ (i:Int)<(i:Int) by omega),cond_false]
theorem F70_l4_in (hd:DealOk mm arr) (hL:L≤1000) (hf:1000<f) (k3:List Int→Int→Int→Option (List Int)) {lo hi:Nat} (hhi:hi≤L):∀n i g,lo≤i→hi<i + n→ValsP arr L g→SoFar mm arr L g lo i→i≤hi →
    ∃g',F70_l4 f k3 mm arr arr.sum (lo:Int) (hi:Int) n (mk L g) (i:Int)=k3 (mk L g') (hi:Int) ((hi + 20:Nat):Int)∧SoFar mm arr L g' lo hi∧ValsP arr L g'∧∀k,k<lo→g' k=g k
  | 0,i,g,_,hn,_,_,hi=>by omega
  | n + 1,i,g,hlo,hn,hv,hs,hi2=>by
    rcases Nat.lt_or_ge i hi with hlt | hge
    · simp only [F70_l4,decide_eq_true (show (i:Int)<(hi:Int) by omega),cond_true]
      have e0:mk L g=mk L (mvDn g i i):=mk_congr fun k _=>by unfold mvDn; by_cases c:k=i; subst c; simp; rw [if_neg c,if_neg (by omega)]
      obtain ⟨e,a1,a2,a3,a4,a5⟩:=F70_l5_in (f:=f) hd hL hv (F70_l4 f k3 mm arr arr.sum (lo:Int) (hi:Int) n) (lo:=lo) (i:=i) (by omega) f i hlo (Nat.le_refl _) (by omega) (fun k h1 h2=>by omega)
      rw [e0,a5]
      obtain ⟨b1,b2⟩:=hs.step hlo (by omega) a1 a2 a3 a4
      have hv':ValsP arr L (mvDn g e i):=fun k hk=>by
        unfold mvDn
        by_cases c:k=e
        · rw [if_pos c]; exact hv i (by omega)
        · rw [if_neg c]
          by_cases c2:e<k∧k≤i
          · rw [if_pos c2]; exact hv _ (by omega)
          · rw [if_neg c2]; exact hv k hk
      obtain ⟨g',c1,c2,c3,c4⟩:=F70_l4_in hd hL hf k3 hhi n (i + 1) (mvDn g e i) (by omega) (by omega) hv' b1 hlt
      exact ⟨g',c1,c2,c3,fun k hk=>by rw [c4 k hk,b2 k hk]⟩
    · have:i=hi:=by omega
      subst this
      have w:w64 ((i:Int) + 20)=((i + 20:Nat):Int):=by rw [wid (by omega) (by omega)]; omega
      refine ⟨g,?_,hs,hv,fun _ _=>rfl⟩
      simp only [F70_l4,decide_eq_false (show ¬ (i:Int)<(i:Int) by omega),cond_false,w]
theorem soFar_one {lo:Nat} (hid:∀k,lo≤k→k<L→g k=(k:Int)) (h:lo<L):SoFar mm arr L g lo (lo + 1):=by
  refine ⟨fun i j h1 h2 h3=>by omega,fun k h1 h2=>hid k (by omega) h2,fun k h1 h2=>?_⟩
  have:k=lo:=by omega
  subst this
  rw [hid k (Nat.le_refl _) h]
  omega
def tailS (f:Nat) (y21:List Int) (y22:Int) (D:List Int):Option (List Int):=(subI D 0 y22).bind fun d5=>F70_l10 d5 f y21 0
theorem sort_any (hd:DealOk mm arr) (hf:1000<f) (y21:List Int) (y22:Int):∃g',F70_l3 f mm arr arr.sum y21 (places arr.length) y22 f (places arr.length) 0 20=tailS f y21 y22 (mk arr.length g')∧SortP mm arr g' 0 arr.length∧ValsP arr arr.length g':=by
  have hlen:=hd.len
  obtain ⟨L,hL⟩:∃L,L=arr.length:=⟨_,rfl⟩
  have hL0:0<L:=by
    rcases Nat.eq_zero_or_pos L with h | h
    · have:arr=[]:=List.eq_nil_of_length_eq_zero (by omega)
      have:=hd.s0
      simp_all
    · exact h
  have hpl:(places L).length=L:=by simp [places]
  have hmk:places L=mk L fun k=>(k:Int):=rfl
  have hv0:ValsP arr L (fun k:Nat=>(k:Int)):=fun k hk=>by show 0≤(k:Int)∧(k:Int)<_; omega
  rw [← hL]
  obtain ⟨q,rfl⟩:∃q,f=q + 3:=⟨f - 3,by omega⟩
  have one:w64 ((0:Int) + 1)=((0 + 1:Nat):Int):=rfl
  have done:∀n (X:List Int) (z:Int),decide (z<((places L).length:Int))=false→F70_l8 (q + 3) mm arr arr.sum y21 (places L) y22 (n + 1) X z=tailS (q + 3) y21 y22 X:=fun n X z h=>by
    simp only [F70_l8,h,cond_false]; rfl
  by_cases h20:L<20
  · obtain ⟨g',a1,a2,a3,a4⟩:=F70_l6_in (f:=q + 3) hd (by omega) hf y21 (places L) y22 hpl hL (lo:=0) (q + 3) 1 _ (by omega) (by omega) hv0 (soFar_one (fun k _ _=>rfl) hL0) (by omega)
    refine ⟨g',?_,a2.s,a3⟩
    rw [F70_l3]
    simp only [hpl,decide_eq_false (show ¬ ((20:Int)≤(L:Int)) by omega),cond_false,one]
    rw [hmk] at a1 ⊢
    refine a1.trans (done _ _ _ ?_)
    rw [hpl]; exact decide_eq_false (by omega)
  · -- the first twenty
    have hmerge:∀g2,SortP mm arr g2 0 20→SortP mm arr g2 20 L→(∀k,k<20→0≤g2 k∧g2 k<20)→(∀k,20≤k→k<L→(20:Int)≤g2 k)→ValsP arr L g2→∃g',F70_l8 (q + 3) mm arr arr.sum y21 (places L) y22 (q + 3) (mk L g2) 20=tailS (q + 3) y21 y22 (mk L g')∧SortP mm arr g' 0 L∧ValsP arr L g':=fun g2 s1 s2 v1 v2 hv2=>by
      by_cases h21:L=20
      · refine ⟨g2,done _ _ _ (by rw [hpl]; exact decide_eq_false (by omega)),by rw [h21]; exact s1,hv2⟩
      · obtain ⟨g3,m1,m2,m3⟩:=sym_eq (f:=q + 3) hd (L:=L) (by omega) hf (q + 3) 0 20 L g2 (by omega) (by omega) (Nat.le_refl _) (by omega) hv2 s1 s2 (fun i j h1 h2 h3 h4=>by have:=v1 i h2; have:=v2 j h3 h4; omega)
        refine ⟨g3,?_,m3,m2.vals (Nat.le_refl _) hv2⟩
        have w40:w64 ((2:Int) * 20)=40:=by decide
        have w20:w64 ((0:Int) + 20)=20:=by decide
        have m1':F115r (q + 3) mm arr arr.sum (q + 3) (mk L g2) 0 20 (L:Int)=some (mk L g3):=m1
        have cL:decide ((20:Int)<(L:Int))=true:=decide_eq_true (by omega)
        rw [F70_l8,hpl,cL,cond_true,w40,F70_l9,hpl,w20]
        by_cases h40:L=40
        · have cL2:decide ((40:Int)≤(L:Int))=true:=decide_eq_true (by omega)
          have e40:(L:Int)=40:=by omega
          rw [e40] at m1'
          have w80:w64 ((40:Int) + w64 ((2:Int) * 20))=80:=by decide
          have w60:w64 ((40:Int) + 20)=60:=by decide
          have c1:decide ((80:Int)≤(L:Int))=false:=decide_eq_false (by omega)
          have c2:decide ((60:Int)<(L:Int))=false:=decide_eq_false (by omega)
          have w2:w64 ((20:Int) * 2)=40:=by decide
          rw [cL2,cond_true,m1',Option.bind_some,w80,F70_l9,hpl,c1,cond_false,w60,c2,cond_false]
          unfold F70_j4
          rw [w2]
          exact done _ _ _ (by rw [hpl]; exact decide_eq_false (by omega))
        · have cL2:decide ((40:Int)≤(L:Int))=false:=decide_eq_false (by omega)
          have w2:w64 ((20:Int) * 2)=40:=by decide
          rw [cL2,cond_false,cL,cond_true,m1',Option.bind_some]
          unfold F70_j4
          rw [w2]
          exact done _ _ _ (by rw [hpl]; exact decide_eq_false (by omega))
    have hst:∀k3,∃g',F70_l4 (q + 3) k3 mm arr arr.sum 0 20 (q + 3) (mk L fun k=>(k:Int)) ((0 + 1:Nat):Int)=k3 (mk L g') 20 40∧SoFar mm arr L g' 0 20∧ValsP arr L g':=fun k3=>by
      obtain ⟨g',a1,a2,a3,a4⟩:=F70_l4_in (f:=q + 3) hd (by omega) hf k3 (lo:=0) (hi:=20) (by omega) (q + 3) 1 _ (by omega) (by omega) hv0 (soFar_one (fun k _ _=>rfl) hL0) (by omega)
      exact ⟨g',a1,a2,a3⟩
    rw [F70_l3]
    simp only [hpl,decide_eq_true (show (20:Int)≤(L:Int) by omega),cond_true,one]
    rw [hmk]
    obtain ⟨g1,a1,a2,a3⟩:=hst (F70_l3 (q + 3) mm arr arr.sum y21 (places L) y22 (q + 2))
    rw [hmk] at a1
    rw [a1, ← hmk,F70_l3,hpl]
    have tw:w64 ((20:Int) + 1)=((20 + 1:Nat):Int):=by decide
    by_cases h40:L=40
    · have cL2:decide ((40:Int)≤(L:Int))=true:=decide_eq_true (by omega)
      have e40:(40:Int)=(L:Int):=by omega
      rw [cL2,cond_true,tw,e40]
      obtain ⟨g2,b1,b2,b3,b4⟩:=F70_l4_in (f:=q + 3) hd (by omega) hf (F70_l3 (q + 3) mm arr arr.sum y21 (places L) y22 (q + 1)) (lo:=20) (hi:=L) (Nat.le_refl _) (q + 3) 21 g1 (by omega) (by omega) a3 (soFar_one (fun k h1 h2=>a2.id k h1 h2) (by omega)) (by omega)
      refine Exists.imp (fun g' h=>?_) (hmerge g2 (fun i j h1 h2 h3=>by rw [b4 i (by omega),b4 j h3]; exact a2.s i j h1 h2 h3) b2.s (fun k hk=>by rw [b4 k hk]; exact a2.v k (by omega) hk) (fun k h1 h2=>(b2.v k h1 h2).1) b3)
      refine ⟨?_,h.2⟩
      have b1':F70_l4 (q + 3) (F70_l3 (q + 3) mm arr arr.sum y21 (places L) y22 (q + 1)) mm arr arr.sum 20 (L:Int) (q + 3) (mk L g1) ((20 + 1:Nat):Int)=_:=b1
      have c1:decide (((L + 20:Nat):Int)≤(L:Int))=false:=decide_eq_false (by omega)
      have f1:w64 ((L:Int) + 1)=(L:Int) + 1:=wid (by omega) (by omega)
      have c2:decide ((L:Int) + 1<(L:Int))=false:=decide_eq_false (by omega)
      rw [b1',F70_l3,hpl,c1,cond_false,f1,F70_l6,hpl,c2,cond_false]
      exact h.1
    · simp only [decide_eq_false (show ¬ ((40:Int)≤(L:Int)) by omega),cond_false,tw]
      by_cases h21:L=20
      · refine Exists.imp (fun g' h=>?_) (hmerge g1 a2.s (fun i j h1 h2 h3=>by omega) (fun k hk=>a2.v k (by omega) hk) (fun k h1 h2=>by omega) a3)
        refine ⟨?_,h.2⟩
        rw [F70_l6]
        simp only [hpl,decide_eq_false (show ¬ ((20 + 1:Nat):Int)<(L:Int) by omega),cond_false]
        exact h.1
      · obtain ⟨g2,b1,b2,b3,b4⟩:=F70_l6_in (f:=q + 3) hd (by omega) hf y21 (places L) y22 hpl hL (lo:=20) (q + 3) 21 g1 (by omega) (by omega) a3 (soFar_one (fun k h1 h2=>a2.id k h1 h2) (by omega)) (by omega)
        refine Exists.imp (fun g' h=>?_) (hmerge g2 (fun i j h1 h2 h3=>by rw [b4 i (by omega),b4 j h3]; exact a2.s i j h1 h2 h3) b2.s (fun k hk=>by rw [b4 k hk]; exact a2.v k (by omega) hk) (fun k h1 h2=>(b2.v k h1 h2).1) b3)
        exact ⟨Eq.trans b1 h.1,h.2⟩
end
end Go.Proofs.YtlmgjjmighajdaaGreat
set_option linter.unusedSimpArgs false
set_option linter.unusedVariables false
namespace Go.Proofs.YtlmgjjmighajdaaGreat
open Go.Sl Go.Sx
theorem baseL_len (m:Int) (a:List Int):(baseL m a).length=a.length:=by simp [baseL]
theorem places_len (n:Nat):(places n).length=n:=by simp [places]
theorem baseL_at {m:Int} {a:List Int} {i:Nat} (h:i<a.length):(baseL m a)[i]'(by rw [baseL_len]; exact h)=baseS m a i:=by
  unfold baseL baseS
  rw [List.getElem_map,getD_mem h]
theorem places_at {n i:Nat} (h:i<n):(places n)[i]'(by rw [places_len]; exact h)=(i:Int):=by simp [places]
theorem sum_take_bound {m:Int} (hm:0≤m):∀ {l:List Int},(∀x∈l,0≤x∧x≤m)→0≤l.sum∧l.sum≤m * l.length
  | [],_=>by simp
  | x::l,h=>by
    have ih:=sum_take_bound hm (l:=l) fun y hy=>h y (List.mem_cons_of_mem _ hy)
    have hx:=h x (by simp)
    simp only [List.sum_cons,List.length_cons]
    have e:m * ((l.length + 1:Nat):Int)=m * l.length + m:=by push_cast; grind
    omega
theorem base_mem {m:Int} {a:List Int} (h:DealOk m a):∀x∈baseL m a,0≤x∧x≤m:=fun x hx=>by
  obtain ⟨i,hi,rfl⟩:=List.getElem_of_mem hx
  rw [baseL_len] at hi
  rw [baseL_at hi]
  exact base_bounds h hi
theorem F70_l2_eq {f:Nat} {m:Int} {a:List Int} (h:DealOk m a):∀k i n,i + k=a.length→k<n →
    F70_l2 f m a a.sum n ((baseL m a).take i ++ List.replicate k 0) ((places a.length).take i ++ List.replicate k 0) (m - ((baseL m a).take i).sum) (i:Int)=F70_l3 f m a a.sum (baseL m a) (places a.length) (leftS m a) f (places a.length) 0 20
  | _,_,0,_,hn=>by omega
  | 0,i,n + 1,hi,_=>by
    have hlt:decide ((i:Int)<(a.length:Int))=false:=by simpa using (show (a.length:Int)≤i by omega)
    simp only [F70_l2,hlt,cond_false,List.replicate_zero,List.append_nil]
    rw [List.take_of_length_le (by rw [baseL_len]; omega),List.take_of_length_le (by rw [places_len]; omega)]
    rfl
  | k + 1,i,n + 1,hi,hn=>by
    have hia:i<a.length:=by omega
    have hb:=base_bounds h hia
    have hp:=prod_bounds h hia
    have hlen:=h.len
    have hs:a.sum≠0:=by have:=h.s0; omega
    have hm1:=h.m1
    have hm0:=h.m0
    have l1:((baseL m a).take i).length=i:=by rw [List.length_take,baseL_len]; omega
    have l2:((places a.length).take i).length=i:=by rw [List.length_take,places_len]; omega
    have eb:w64 (Int.tdiv (w64 (m * a[i])) a.sum)=baseS m a i:=by
      have e3:w64 (m * a[i])=m * a[i]:=w64_id (by omega) (by omega)
      rw [e3,Int.tdiv_eq_ediv_of_nonneg hp.1]
      have e2:m * a[i] / a.sum=baseS m a i:=by unfold baseS; rw [getD_mem hia]
      rw [e2,w64_id (by omega) (by omega)]
    have hsum:=sum_take_bound h.m0 (l:=(baseL m a).take i) fun x hx=>base_mem h x (List.mem_of_mem_take hx)
    rw [l1] at hsum
    have hmi:m * (i:Int)≤100000000 * 41:=Int.mul_le_mul hm1 (by omega) (by omega) (by omega)
    have s1:setI ((baseL m a).take i ++ 0::List.replicate k 0) (i:Int) (baseS m a i)=some ((baseL m a).take i ++ baseS m a i::List.replicate k 0):=setI_mid (by rw [l1])
    have s2:setI ((places a.length).take i ++ 0::List.replicate k 0) (i:Int) (i:Int)=some ((places a.length).take i ++ (i:Int)::List.replicate k 0):=setI_mid (by rw [l2])
    have g1:getI ((baseL m a).take i ++ 0::List.replicate k 0) (i:Int)=some 0:=getI_mid (by rw [l1])
    have g2:getI ((places a.length).take i ++ 0::List.replicate k 0) (i:Int)=some 0:=getI_mid (by rw [l2])
    have g3:getI ((baseL m a).take i ++ baseS m a i::List.replicate k 0) (i:Int)=some (baseS m a i):=getI_mid (by rw [l1])
    have t1:(baseL m a).take (i + 1)=(baseL m a).take i ++ [baseS m a i]:=by
      rw [List.take_succ_eq_append_getElem (by rw [baseL_len]; exact hia),baseL_at hia]
    have t2:(places a.length).take (i + 1)=(places a.length).take i ++ [(i:Int)]:=by
      rw [List.take_succ_eq_append_getElem (by rw [places_len]; exact hia),places_at hia]
    simp only [F70_l2,lt_len,hia,decide_true,cond_true,getI_nat hia,Option.bind_some,nzS hs,List.replicate_succ,g1,eb,s1,g2,s2,g3]
    have ih:=F70_l2_eq (f:=f) h k (i + 1) n (by omega) (by omega)
    rw [t1,t2,sum_app] at ih
    simp only [List.append_assoc,List.singleton_append,List.sum_cons,List.sum_nil,Int.add_zero] at ih
    rw [succ_w (by omega),w64_id (by omega) (by omega)]
    have e:m - ((baseL m a).take i).sum - baseS m a i=m - (((baseL m a).take i).sum + baseS m a i):=by omega
    rw [e]
    exact ih
def outS (m:Int) (a D:List Int):List Int:=(List.range a.length).map fun i:Nat=>baseS m a i + (if (i:Int)∈D then 1 else 0)
theorem outS_len (m:Int) (a D:List Int):(outS m a D).length=a.length:=by simp [outS]
theorem outS_at {m:Int} {a D:List Int} {i:Nat} (h:i<a.length):(outS m a D)[i]'(by rw [outS_len]; exact h)=baseS m a i + (if (i:Int)∈D then 1 else 0):=by simp [outS]
theorem outS_nil (m:Int) (a:List Int):outS m a []=baseL m a:=by
  refine List.ext_getElem (by rw [outS_len,baseL_len]) fun i h1 h2=>?_
  rw [outS_len] at h1
  rw [outS_at h1,baseL_at h1]
  simp
theorem outS_set {m:Int} {a D:List Int} {p:Int} (hp:p∈places a.length) (hD:p∉D):getI (outS m a D) p=some (baseS m a p.toNat)∧setI (outS m a D) p (baseS m a p.toNat + 1)=some (outS m a (D ++ [p])):=by
  have hb:=mem_places.1 hp
  have hi:p.toNat<a.length:=by omega
  have hpn:((p.toNat:Nat):Int)=p:=Int.toNat_of_nonneg hb.1
  constructor
  · have:=getI_nat (xs:=outS m a D) (i:=p.toNat) (by rw [outS_len]; exact hi)
    rw [hpn] at this
    rw [this,outS_at hi,hpn,if_neg hD,Int.add_zero]
  · unfold setI
    rw [if_pos ⟨hb.1,by rw [outS_len]; exact hb.2⟩]
    congr 1
    refine List.ext_getElem (by simp [outS]) fun i h1 h2=>?_
    rw [outS_len] at h2
    rw [outS_at h2]
    by_cases e:p.toNat=i
    · subst e
      rw [List.getElem_set_self,hpn]
      simp
    · rw [List.getElem_set_ne e,outS_at h2]
      have:(i:Int)≠p:=fun k=>e (by omega)
      simp [this]
theorem F70_l10_eq {m:Int} {a d5:List Int} (h:DealOk m a) (hd:∀x∈d5,x∈places a.length) (hn:d5.Nodup) (hl:d5.length≤40):∀n j,j≤d5.length→d5.length - j<n→F70_l10 d5 n (outS m a (d5.take j)) (j:Int)=some (outS m a d5)
  | 0,j,_,hn=>by omega
  | n + 1,j,hj,hn'=>by
    rcases Nat.lt_or_ge j d5.length with hlt | hge
    · have hp:=hd _ (List.getElem_mem hlt)
      have hnot:d5[j]∉d5.take j:=fun hm=>by
        obtain ⟨i,hi,e⟩:=List.getElem_of_mem hm
        rw [List.getElem_take] at e
        rw [List.length_take] at hi
        have:=(List.getElem_inj hn).1 e
        omega
      obtain ⟨g,st⟩:=outS_set (m:=m) (D:=d5.take j) hp hnot
      have hb:=mem_places.1 hp
      have hbb:=base_bounds h (i:=d5[j].toNat) (by omega)
      have hm1:=h.m1
      simp only [F70_l10,lt_len,hlt,decide_true,cond_true,getI_nat hlt,Option.bind_some,g]
      rw [w64_id (n:=baseS m a d5[j].toNat + 1) (by omega) (by omega),st]
      simp only [Option.bind_some]
      rw [succ_w (by omega), ← List.take_succ_eq_append_getElem hlt]
      exact F70_l10_eq h hd hn hl n (j + 1) (by omega) (by omega)
    · have:j=d5.length:=by omega
      subst this
      simp [F70_l10]
theorem orderS_len (m s:Int) (a:List Int):(orderS m s a).length=a.length:=by rw [(orderS_perm m s a).length_eq,places_len]
theorem outS_deal {m:Int} {a D:List Int} (hs:D.Pairwise (ahead m a.sum a)) (hp:D.Perm (places a.length)):outS m a (D.take (leftS m a).toNat)=dealS m a:=by
  refine List.ext_getElem (by simp [outS,dealS]) fun i h1 h2=>?_
  rw [outS_len] at h1
  have e2:(dealS m a)[i]=baseS m a i + (if rank m a.sum a (i:Int)<(leftS m a).toNat then 1 else 0):=by simp [dealS]
  rw [outS_at h1,e2]
  congr 1
  have hpl:(i:Int)∈places a.length:=mem_places.2 ⟨by omega,by omega⟩
  have:(i:Int)∈D.take (leftS m a).toNat↔rank m a.sum a (i:Int)<(leftS m a).toNat:=by
    rw [take_iff (ahead_irr m a.sum a) (ahead_asy m a.sum a) hs (hp.mem_iff.2 hpl),hp.countP_eq]
    rfl
  by_cases hr:rank m a.sum a (i:Int)<(leftS m a).toNat
  · rw [if_pos (this.2 hr),if_pos hr]
  · rw [if_neg fun k=>hr (this.1 k),if_neg hr]
theorem perm_of:∀ {l m:List Int},l.Nodup→(∀x∈l,x∈m)→m.length≤l.length→l.Perm m
  | [],m,_,_,h=>by have:m=[]:=List.eq_nil_of_length_eq_zero (by simpa using h); rw [this]
  | x::l,m,hn,hs,hl=>by
    have hn':=List.nodup_cons.1 hn
    have hx:x∈m:=hs x (by simp)
    have h1:=List.perm_cons_erase hx
    have h2:=List.length_erase_of_mem hx
    have hpos:=List.length_pos_of_mem hx
    simp only [List.length_cons] at hl
    refine ((perm_of (l:=l) (m:=m.erase x) hn'.2 (fun y hy=>?_) (by omega)).cons x).trans h1.symm
    have:y≠x:=fun e=>hn'.1 (e ▸ hy)
    exact (List.mem_erase_of_ne this).2 (hs y (by simp [hy]))
theorem F70_l1_eq {f:Nat} {m:Int} {a:List Int} (hnn:∀x∈a,0≤x) (hs:a.sum≤100000000) (hl:a.length≤40):∀n i,i≤a.length→a.length - i<n→F70_l1 f m a n (a.take i).sum (i:Int)=F70_j1 f m a a.sum (List.replicate a.length 0)
  | 0,i,_,hn=>by omega
  | n + 1,i,hi,hn=>by
    rcases Nat.lt_or_ge i a.length with hlt | hge
    · have e:(a.take (i + 1)).sum=(a.take i).sum + a[i]:=by rw [List.take_succ_eq_append_getElem hlt,sum_app]; simp
      have b1:=sum_nonneg (a:=a.take (i + 1)) fun x hx=>hnn x (List.mem_of_mem_take hx)
      have b2:a.sum=(a.take (i + 1)).sum + (a.drop (i + 1)).sum:=by rw [← sum_app,List.take_append_drop]
      have b3:=sum_nonneg (a:=a.drop (i + 1)) fun x hx=>hnn x (List.mem_of_mem_drop hx)
      simp only [F70_l1,lt_len,hlt,decide_true,cond_true,getI_nat hlt,Option.bind_some]
      rw [succ_w (by omega), ← e,w64_id (by omega) (by omega)]
      exact F70_l1_eq hnn hs hl n (i + 1) (by omega) (by omega)
    · have:i=a.length:=by omega
      subst this
      have hmk:mkC (a.length:Int) (0:Int)=some (List.replicate a.length 0):=by unfold mkC; rw [if_pos (by omega)]; simp
      simp [F70_l1,hmk]
theorem F70_eq {f:Nat} {m:Int} {a:List Int} (h:DealOk m a) (hf:1000<f):F70 f m a=some (dealS m a):=by
  have hlen:=h.len
  unfold F70
  have e1:=F70_l1_eq (f:=f) (m:=m) h.nn h.s1 h.len f 0 (by omega) (by omega)
  simp only [List.take_zero,List.sum_nil] at e1
  have e0:((0:Nat):Int)=0:=rfl
  rw [e0] at e1
  rw [e1]
  unfold F70_j1
  have hs:(a.sum == 0)=false:=by simpa using (show ¬ a.sum=0 by have:=h.s0; omega)
  rw [hs,cond_false]
  have e2:=F70_l2_eq (f:=f) h a.length 0 f (by omega) (by omega)
  simp only [List.take_zero,List.sum_nil,List.nil_append,Int.sub_zero] at e2
  rw [e0] at e2
  obtain ⟨g,es,s1,s2⟩:=sort_any (f:=f) h hf (baseL m a) (leftS m a)
  rw [e2,es]
  obtain ⟨D,hD⟩:∃D,D=mk a.length g:=⟨_,rfl⟩
  rw [← hD]
  have hDl:D.length=a.length:=by rw [hD,mk_len]
  have hDs:D.Pairwise (ahead m a.sum a):=by
    rw [List.pairwise_iff_getElem]
    intro i j hi hj hij
    have gi:D[i]=g i:=by simp [hD,mk]
    have gj:D[j]=g j:=by simp [hD,mk]
    rw [gi,gj]
    exact s1 i j (by omega) hij (by omega)
  have hnod:D.Nodup:=by
    unfold List.Nodup
    refine hDs.imp ?_
    intro x y k e
    subst e
    exact ahead_irr _ _ _ _ k
  have hperm:D.Perm (places a.length):=perm_of hnod (fun x hx=>by
    obtain ⟨i,hi,rfl⟩:=List.getElem_of_mem hx
    have gi:D[i]=g i:=by simp [hD,mk]
    rw [gi]
    exact mem_places.2 (s2 i (by omega))) (by rw [places_len,hDl]; exact Nat.le_refl _)
  obtain ⟨hb0,hb1,_⟩:=left_bounds h
  unfold tailS
  have hsub:subI D 0 (leftS m a)=some (D.take (leftS m a).toNat):=by
    unfold subI
    rw [if_pos ⟨by omega,hb0,by rw [hDl]; exact hb1⟩]
    simp
  rw [hsub]
  simp only [Option.bind_some]
  have e3:=F70_l10_eq h (d5:=D.take (leftS m a).toNat) (fun x hx=>hperm.mem_iff.1 (List.mem_of_mem_take hx)) (hnod.sublist (List.take_sublist _ _)) (by rw [List.length_take,hDl]; omega) f 0 (by omega) (by rw [List.length_take,hDl]; omega)
  rw [List.take_zero,outS_nil] at e3
  rw [e0] at e3
  rw [e3,outS_deal hDs hperm]
end Go.Proofs.YtlmgjjmighajdaaGreat
set_option linter.unusedSimpArgs false
set_option linter.unusedVariables false
namespace Go.Proofs.YtlmgjjmighajdaaGreat
open Go.Sl Go.Sx
theorem rank_at (m s:Int) (a:List Int) {p:Nat} (hp:p<(orderS m s a).length):rank m s a (orderS m s a)[p]=p:=by
  have hm:(orderS m s a)[p]∈places a.length:=(orderS_perm m s a).mem_iff.1 (List.getElem_mem hp)
  have key:∀k,rank m s a (orderS m s a)[p]<k↔p<k:=fun k=>by
    rw [← first_iff m s a hm k]
    constructor
    · intro h
      obtain ⟨q,hq,e⟩:=List.getElem_of_mem h
      rw [List.length_take] at hq
      rw [List.getElem_take] at e
      rcases Nat.lt_trichotomy q p with h1 | h1 | h1
      · have:=pairs_at (orderS_sorted m s a) (by omega) hp h1
        rw [e] at this; exact absurd this (ahead_irr _ _ _ _)
      · omega
      · have:=pairs_at (orderS_sorted m s a) hp (by omega) h1
        rw [e] at this; exact absurd this (ahead_irr _ _ _ _)
    · intro h
      rw [List.mem_take_iff_getElem]
      exact ⟨p,by omega,rfl⟩
  have h1:=(key p).1
  have h2:=(key (p + 1)).2 (by omega)
  rcases Nat.lt_or_ge (rank m s a (orderS m s a)[p]) p with h | h
  · exact absurd (h1 h) (by omega)
  · omega
theorem rank_pos (m s:Int) (a:List Int) {i:Nat} (hi:i<a.length):∃h:rank m s a (i:Int)<(orderS m s a).length,(orderS m s a)[rank m s a (i:Int)]=(i:Int):=by
  have hm:(i:Int)∈orderS m s a:=(orderS_perm m s a).mem_iff.2 (mem_places.2 (by omega))
  obtain ⟨p,hp,e⟩:=List.getElem_of_mem hm
  have:=rank_at m s a hp
  rw [e] at this
  subst this
  exact ⟨hp,e⟩
theorem rank_lt {m s:Int} {a:List Int} {i j:Nat} (hi:i<a.length) (hj:j<a.length) (h:ahead m s a (i:Int) (j:Int)):rank m s a (i:Int)<rank m s a (j:Int):=by
  obtain ⟨h1,e1⟩:=rank_pos m s a hi
  obtain ⟨h2,e2⟩:=rank_pos m s a hj
  rcases Nat.lt_trichotomy (rank m s a (i:Int)) (rank m s a (j:Int)) with k | k | k
  · exact k
  · have:(i:Int)=j:=by
      rw [← e1, ← e2]
      simp only [k]
    rw [this] at h
    exact absurd h (ahead_irr _ _ _ _)
  · have:=pairs_at (orderS_sorted m s a) h2 h1 k
    rw [e1,e2] at this
    exact absurd h (ahead_asy _ _ _ _ _ this)
theorem ahead_tot {m s:Int} {a:List Int} {i j:Int} (h:i≠j):ahead m s a i j∨ahead m s a j i:=by unfold ahead; omega
theorem rank_inj {m s:Int} {a:List Int} {i j:Nat} (hi:i<a.length) (hj:j<a.length) (h:rank m s a (i:Int)=rank m s a (j:Int)):i=j:=by
  by_cases e:(i:Int)=j
  · omega
  · rcases ahead_tot (m:=m) (s:=s) (a:=a) e with k | k
    · have:=rank_lt hi hj k; omega
    · have:=rank_lt hj hi k; omega
def givenS (m s:Int) (a:List Int) (t:Nat):List Bool:=(List.range a.length).map fun i:Nat=>decide (rank m s a (i:Int)<t)
def outT (m:Int) (a:List Int) (t:Nat):List Int:=(List.range a.length).map fun i=>baseS m a i + (if rank m a.sum a (i:Int)<t then 1 else 0)
theorem given_at {m s:Int} {a:List Int} {t i:Nat} (hi:i<a.length):getI (givenS m s a t) (i:Int)=some (decide (rank m s a (i:Int)<t)):=by
  rw [getI_nat (by simp [givenS,hi])]; simp [givenS]
theorem out_at {m:Int} {a:List Int} {t i:Nat} (hi:i<a.length):getI (outT m a t) (i:Int)=some (baseS m a i + (if rank m a.sum a (i:Int)<t then 1 else 0)):=by
  rw [getI_nat (by simp [outT,hi])]; simp [outT]
theorem given_next {m s:Int} {a:List Int} {t b:Nat} (hb:b<a.length) (hr:rank m s a (b:Int)=t):setI (givenS m s a t) (b:Int) true=some (givenS m s a (t + 1)):=by
  unfold setI
  rw [if_pos (by simp [givenS]; omega)]
  congr 1
  refine List.ext_getElem (by simp [givenS]) fun i h1 h2=>?_
  have hi:i<a.length:=by simpa [givenS] using h2
  rw [List.getElem_set]
  simp only [givenS,List.getElem_map,List.getElem_range,Int.toNat_natCast]
  by_cases e:b=i
  · subst e; simp [hr]
  · rw [if_neg e]
    have:rank m s a (i:Int)≠t:=fun k=>e (rank_inj hb hi (hr.trans k.symm))
    by_cases k:rank m s a (i:Int)<t
    · have:rank m s a (i:Int)<t + 1:=by omega
      simp [k,this]
    · have:¬ rank m s a (i:Int)<t + 1:=by omega
      simp [k,this]
theorem out_next {m:Int} {a:List Int} {t b:Nat} (hb:b<a.length) (hr:rank m a.sum a (b:Int)=t):setI (outT m a t) (b:Int) (baseS m a b + 1)=some (outT m a (t + 1)):=by
  unfold setI
  rw [if_pos (by simp [outT]; omega)]
  congr 1
  refine List.ext_getElem (by simp [outT]) fun i h1 h2=>?_
  have hi:i<a.length:=by simpa [outT] using h2
  rw [List.getElem_set]
  simp only [outT,List.getElem_map,List.getElem_range,Int.toNat_natCast]
  by_cases e:b=i
  · subst e; simp [hr]
  · rw [if_neg e]
    have:rank m a.sum a (i:Int)≠t:=fun k=>e (rank_inj hb hi (hr.trans k.symm))
    by_cases k:rank m a.sum a (i:Int)<t
    · have:rank m a.sum a (i:Int)<t + 1:=by omega
      simp [k,this]
    · have:¬ rank m a.sum a (i:Int)<t + 1:=by omega
      simp [k,this]
def best (m:Int) (a:List Int) (t j:Nat) (y:Int):Prop:=(y= -1∧∀i,i<j→rank m a.sum a (i:Int)<t) ∨
  (∃b:Nat,y=(b:Int)∧b<j∧t≤rank m a.sum a (b:Int)∧∀i:Nat,i<j→t≤rank m a.sum a (i:Int)→i≠b→ahead m a.sum a (b:Int) (i:Int))
theorem F84_l4_eq {m:Int} {a:List Int} (h:DealOk m a) {t:Nat} (ht:t<a.length) (k2:List Bool→List Int→Int→Option (List Int)) (y8:Int):∀n j y,j≤a.length→a.length - j<n→best m a t j y →
    F84_l4 k2 m a a.sum (givenS m a.sum a t) (outT m a t) y8 n y (j:Int)=k2 (givenS m a.sum a (t + 1)) (outT m a (t + 1)) (w64 (y8 - 1))
  | 0,j,y,_,hn,_=>by omega
  | n + 1,j,y,hj,hn,hb=>by
    have hlen:=h.len
    have hs0:=h.s0
    rcases Nat.lt_or_ge j a.length with hlt | hge
    · simp only [F84_l4,lt_len,hlt,decide_true,cond_true,given_at hlt,Option.bind_some]
      by_cases hg:rank m a.sum a (j:Int)<t
      · simp only [hg,decide_true,Bool.not_true,cond_false,F84_j2,F84_j1]
        rw [succ_w (by omega)]
        refine F84_l4_eq h ht k2 y8 n (j + 1) y hlt (by omega) ?_
        rcases hb with ⟨e,k⟩ | ⟨b,e,hbj,hbt,k⟩
        · exact .inl ⟨e,fun i hi=>by
            rcases Nat.lt_or_ge i j with h1 | h1
            · exact k i h1
            · have:i=j:=by omega
              subst this; exact hg⟩
        · exact .inr ⟨b,e,by omega,hbt,fun i hi hit hib=>by
            rcases Nat.lt_or_ge i j with h1 | h1
            · exact k i h1 hit hib
            · have:i=j:=by omega
              subst this; omega⟩
      · simp only [hg,decide_false,Bool.not_false,cond_true]
        rcases hb with ⟨e,k⟩ | ⟨b,e,hbj,hbt,k⟩
        · subst e
          simp only [show decide ((-1:Int)<0)=true from rfl,cond_true,F84_j2,F84_j1]
          rw [succ_w (by omega)]
          refine F84_l4_eq h ht k2 y8 n (j + 1) _ hlt (by omega) (.inr ⟨j,rfl,by omega,by omega,fun i hi hit hij=>?_⟩)
          have:=k i (by omega)
          omega
        · subst e
          have h0:decide ((b:Int)<0)=false:=by simp
          have hbl:b<a.length:=by omega
          simp only [h0,cond_false,getI_nat hlt,getI_nat hbl,Option.bind_some,nzS (show a.sum≠0 by omega),tmod_eq h hlt,tmod_eq h hbl]
          by_cases hc:rem_ m a.sum a (j:Int) > rem_ m a.sum a (b:Int)
          · simp only [hc,decide_true,F84_j2,cond_true,F84_j1]
            rw [succ_w (by omega)]
            refine F84_l4_eq h ht k2 y8 n (j + 1) _ hlt (by omega) (.inr ⟨j,rfl,by omega,by omega,fun i hi hit hij=>?_⟩)
            have hjb:ahead m a.sum a (j:Int) (b:Int):= .inl hc
            by_cases e:i=b
            · subst e; exact hjb
            · exact ahead_tr _ _ _ _ _ _ hjb (k i (by omega) hit e)
          · simp only [hc,decide_false,F84_j2,cond_false,F84_j1]
            rw [succ_w (by omega)]
            refine F84_l4_eq h ht k2 y8 n (j + 1) _ hlt (by omega) (.inr ⟨b,rfl,by omega,hbt,fun i hi hit hib=>?_⟩)
            rcases Nat.lt_or_ge i j with h1 | h1
            · exact k i h1 hit hib
            · have:i=j:=by omega
              subst this
              unfold ahead
              omega
    · have hj':j=a.length:=by omega
      subst hj'
      have hto:t<(orderS m a.sum a).length:=by rw [orderS_len]; exact ht
      have hom:=(orderS_perm m a.sum a).mem_iff.1 (List.getElem_mem hto)
      obtain ⟨o0,o1⟩:=mem_places.1 hom
      have hro:=rank_at m a.sum a hto
      generalize hoe:(orderS m a.sum a)[t]=o at *
      obtain ⟨o',rfl⟩:∃k:Nat,o=(k:Int):=⟨o.toNat,by omega⟩
      have ho:o'<a.length:=by omega
      rcases hb with ⟨e,k⟩ | ⟨b,e,hbj,hbt,k⟩
      · have:=k o' ho; omega
      · subst e
        have hbr:rank m a.sum a (b:Int)=t:=by
          by_cases e:o'=b
          · subst e; exact hro
          · have:=rank_lt hbj ho (k o' ho (by omega) e)
            omega
        have hbase:=base_bounds h hbj
        have hm1:=h.m1
        simp only [F84_l4,lt_len,Nat.lt_irrefl,decide_false,cond_false,given_at hbj,Option.bind_some,given_next hbj hbr,out_at hbj,hbr,if_false,Int.add_zero]
        rw [w64_id (n:=baseS m a b + 1) (by omega) (by omega),out_next hbj hbr]
        rfl
theorem F84_l3_eq {f:Nat} {m:Int} {a:List Int} (h:DealOk m a) (hf:200≤f):∀n t,t≤(leftS m a).toNat→(leftS m a).toNat - t<n→(leftS m a).toNat<a.length∨leftS m a=0 →
    F84_l3 f m a a.sum n (givenS m a.sum a t) (outT m a t) (leftS m a - t)=some (dealS m a)
  | 0,t,_,hn,_=>by omega
  | n + 1,t,ht,hn,hl=>by
    have hlb:=left_bounds h
    have hlen:=h.len
    by_cases hz:t=(leftS m a).toNat
    · have:decide (leftS m a - (t:Int) > 0)=false:=decide_eq_false (by omega)
      rw [F84_l3,this,cond_false,hz]
      rfl
    · have:decide (leftS m a - (t:Int) > 0)=true:=decide_eq_true (by omega)
      rw [F84_l3,this]
      simp only [cond_true]
      have hta:t<a.length:=by omega
      have e4:=F84_l4_eq h hta (F84_l3 f m a a.sum n) (leftS m a - (t:Int)) f 0 (-1) (by omega) (by omega) (.inl ⟨rfl,fun i hi=>by omega⟩)
      have e0:((0:Nat):Int)=0:=rfl
      rw [e0] at e4
      rw [e4]
      rw [w64_id (by omega) (by omega)]
      have e:leftS m a - (t:Int) - 1=leftS m a - ((t + 1:Nat):Int):=by omega
      rw [e]
      exact F84_l3_eq h hf n (t + 1) (by omega) (by omega) hl
theorem left_lt {m:Int} {a:List Int} (h:DealOk m a):leftS m a<a.length:=by
  have h1:=left_bounds h
  have h2:=rem_sum (m:=m) h.s0 a
  have hs:=h.s0
  have hn:0<a.length:=by
    rcases Nat.eq_zero_or_pos a.length with e | e
    · have:=List.eq_nil_of_length_eq_zero e
      subst this; simp at hs
    · exact e
  by_cases k:leftS m a<a.length
  · exact k
  · have k:(a.length:Int)≤leftS m a:=by omega
    have h3:a.sum * (a.length:Int)≤a.sum * leftS m a:=Int.mul_le_mul_of_nonneg_left k (by omega)
    have h4:(a.sum - 1) * (a.length:Int)=a.sum * a.length - a.length:=by rw [Int.sub_mul]; omega
    omega
theorem take_sum_le {a:List Int} (h:∀x∈a,0≤x) (i:Nat):0≤(a.take i).sum∧(a.take i).sum≤a.sum:=by
  have e:a=a.take i ++ a.drop i:=(List.take_append_drop i a).symm
  have h1:=sum_nonneg (a:=a.take i) fun x hx=>h x (List.mem_of_mem_take hx)
  have h2:=sum_nonneg (a:=a.drop i) fun x hx=>h x (List.mem_of_mem_drop hx)
  have h3:a.sum=(a.take i).sum + (a.drop i).sum:=by
    have:=congrArg List.sum e
    rw [sum_app] at this
    exact this
  omega
theorem take_sum {a:List Int} {i:Nat} (hi:i<a.length):(a.take (i + 1)).sum=(a.take i).sum + a[i]:=by
  rw [List.take_succ_eq_append_getElem hi,sum_app]; simp
theorem from_st {ρ:Type} {T:Nat→Nat→Option ρ} {len n:Nat} {out:Option ρ} (hn:len<n) (h:∀n i,i<len→T (n + 1) i=T n (i + 1)) (he:∀n,T (n + 1) len=out):T n 0=out:=by
  have key:∀n i,i≤len→len - i<n→T n i=out:=by
    intro n
    induction n with
    | zero=>intro i _ hn; omega
    | succ n ih =>
      intro i hi hn
      rcases Nat.lt_or_ge i len with hlt | hge
      · rw [h n i hlt]; exact ih (i + 1) hlt (by omega)
      · have:i=len:=by omega
        subst this; exact he n
  exact key n 0 (by omega) (by omega)
theorem F84_eq {f:Nat} {m:Int} {a:List Int} (h:DealOk m a) (hf:200≤f):F84 f m a=some (dealS m a):=by
  have hlen:=h.len
  have hs0:=h.s0
  have hs1:=h.s1
  have hm0:=h.m0
  have hm1:=h.m1
  have hll:=left_lt h
  have hlb:=left_bounds h
  have hb:∀i,0≤((baseL m a).take i).sum∧((baseL m a).take i).sum≤(baseL m a).sum:=fun i=>take_sum_le (a:=baseL m a) (fun x hx=>by
    obtain ⟨k,hk,rfl⟩:=List.getElem_of_mem hx
    rw [baseL_len] at hk
    rw [baseL_at hk]
    exact (base_bounds h hk).1) i
  have hbs:(baseL m a).sum=m - leftS m a:=by unfold leftS; omega
  unfold F84
  have key1:=from_st (T:=fun n i=>F84_l1 f m a n (a.take i).sum (i:Int)) (len:=a.length) (n:=f) (out:=F84_l2 f m a a.sum f [] m 0) (by omega)
    (fun n i hi=>by
      have hx:=h.nn _ (List.getElem_mem hi)
      have h1:=take_sum_le h.nn (i + 1)
      rw [take_sum hi] at h1
      have h2:=take_sum_le h.nn i
      simp only [F84_l1,lt_len,hi,decide_true,cond_true,getI_nat hi,Option.bind_some]
      rw [succ_w (by omega),w64_id (by omega) (by omega),take_sum hi])
    (fun n=>by simp [F84_l1])
  have e1:F84_l1 f m a f 0 0=F84_l2 f m a a.sum f [] m 0:=by simpa using key1
  rw [e1]
  have key2:=from_st (T:=fun n i=>F84_l2 f m a a.sum n ((baseL m a).take i) (m - ((baseL m a).take i).sum) (i:Int)) (len:=a.length) (n:=f) (out:=F84_l3 f m a a.sum f (List.replicate a.length false) (baseL m a) (leftS m a)) (by omega)
    (fun n i hi=>by
      have hp:=prod_bounds h hi
      have hbb:=base_bounds h hi
      have hi':i<(baseL m a).length:=by rw [baseL_len]; exact hi
      have e2:Int.tdiv (w64 (m * a[i])) a.sum=baseS m a i:=by
        rw [w64_id (by omega) (by omega),Int.tdiv_eq_ediv_of_nonneg hp.1]
        unfold baseS
        rw [getD_mem hi]
      have h1:=hb (i + 1)
      have h0:=hb i
      rw [take_sum hi',baseL_at hi] at h1
      simp only [F84_l2,lt_len,hi,decide_true,cond_true,getI_nat hi,Option.bind_some,nzS (show a.sum≠0 by omega),e2]
      rw [w64_id (n:=baseS m a i) (by omega) (by omega)]
      have e3:appC ((baseL m a).take i) [baseS m a i]=some ((baseL m a).take (i + 1)):=by
        unfold appC
        rw [if_pos (by simp; omega),List.take_succ_eq_append_getElem hi',baseL_at hi]
      rw [e3]
      simp only [Option.bind_some]
      rw [succ_w (by omega),w64_id (by omega) (by omega),take_sum hi',baseL_at hi]
      congr 1
      omega)
    (fun n=>by
      have e4:mkC ((a.length:Nat):Int) false=some (List.replicate a.length false):=by
        unfold mkC
        rw [if_pos (by omega)]; simp
      have e5:(baseL m a).take a.length=baseL m a:=List.take_of_length_le (by rw [baseL_len]; omega)
      simp only [F84_l2,lt_len,Nat.lt_irrefl,decide_false,cond_false,e4,Option.bind_some,e5]
      rw [hbs]
      congr 1
      omega)
  have e2:F84_l2 f m a a.sum f [] m 0=F84_l3 f m a a.sum f (List.replicate a.length false) (baseL m a) (leftS m a):=by simpa using key2
  rw [e2]
  have e3:=F84_l3_eq h hf f 0 (by omega) (by omega) (.inl (by omega))
  have e4:givenS m a.sum a 0=List.replicate a.length false:=by
    refine List.ext_getElem (by simp [givenS]) fun i h1 h2=>?_
    simp [givenS]
  have e5:outT m a 0=baseL m a:=by
    refine List.ext_getElem (by simp [outT,baseL]) fun i h1 h2=>?_
    have hi:i<a.length:=by simpa [outT] using h1
    rw [baseL_at hi]
    simp [outT]
  rw [e4,e5] at e3
  simpa using e3
end Go.Proofs.YtlmgjjmighajdaaGreat
set_option linter.unusedSimpArgs false
set_option linter.unusedVariables false
namespace Go.Proofs.YtlmgjjmighajdaaGreat
open Go.Sl Go.Sx
def mergeP:List Part→List Part→List Part
  | [],b=>b
  | p::a,[]=>p::a
  | p::a,q::b=>if p.lot<q.lot then p::mergeP a (q::b) else if q.lot<p.lot then q::mergeP (p::a) b else ⟨p.lot,p.mass + q.mass⟩::mergeP a b
termination_by a b=>a.length + b.length
theorem merge_nil (a:List Part):mergeP a []=a:=by cases a <;> simp [mergeP]
theorem nil_merge (a:List Part):mergeP [] a=a:=by simp [mergeP]
theorem merge_lt {p q:Part} {a b:List Part} (h:p.lot<q.lot):mergeP (p::a) (q::b)=p::mergeP a (q::b):=by simp [mergeP,h]
theorem merge_gt {p q:Part} {a b:List Part} (h:q.lot<p.lot):mergeP (p::a) (q::b)=q::mergeP (p::a) b:=by
  have h1:¬ p.lot<q.lot:=by omega
  simp [mergeP,h,h1]
theorem merge_eq {p q:Part} {a b:List Part} (h:p.lot=q.lot):mergeP (p::a) (q::b)=⟨p.lot,p.mass + q.mass⟩::mergeP a b:=by
  have h1:¬ p.lot<q.lot:=by omega
  have h2:¬ q.lot<p.lot:=by omega
  simp [mergeP,h1,h2]
theorem drop_cons {α:Type} {l:List α} {i:Nat} (h:i<l.length):l.drop i=l[i]::l.drop (i + 1):=List.drop_eq_getElem_cons h
theorem F117_loop {a b:List Part} (ha:HeapOk a) (hb:HeapOk b):∀n (out:List Part) i k,i≤a.length→k≤b.length→(a.length - i) + (b.length - k)<n→out.length + (a.length - i) + (b.length - k)≤100 →
    F117_l1 a b n out (i:Int) (k:Int)=some (out ++ mergeP (a.drop i) (b.drop k))
  | 0,out,i,k,_,_,hn,_=>by omega
  | n + 1,out,i,k,hi,hk,hn,ho=>by
    have la:=ha.1
    have lb:=hb.1
    have app:∀x:Part,appC out [x]=some (out ++ [x]):=fun x=>by unfold appC; rw [if_pos (by simp only [List.length_cons,List.length_nil]; omega)]
    have eqk:∀ {x y:Nat},((x:Int) == (y:Int))=decide (x=y):=fun {x y}=>by
      by_cases h:x=y
      · simp [h]
      · have:¬ (x:Int)=y:=by omega
        simp [h,this]
    simp only [F117_l1,F117_j1,F117_j2,F117_j3,lt_len,eqk]
    rcases Nat.lt_or_ge i a.length with hia | hia
    · have h1:a.drop i=a[i]::a.drop (i + 1):=drop_cons hia
      have pa:=ha.2.1 _ (List.getElem_mem hia)
      rcases Nat.lt_or_ge k b.length with hkb | hkb
      · have h2:b.drop k=b[k]::b.drop (k + 1):=drop_cons hkb
        have pb:=hb.2.1 _ (List.getElem_mem hkb)
        have n1:¬ k=b.length:=by omega
        have n2:¬ i=a.length:=by omega
        simp only [hia,hkb,n1,n2,decide_true,decide_false,cond_true,cond_false,getI_nat hia,getI_nat hkb,Option.bind_some,app,succ_w (i:=i) (by omega),succ_w (i:=k) (by omega)]
        rcases Int.lt_trichotomy a[i].lot b[k].lot with e | e | e
        · have e':¬ b[k].lot<a[i].lot:=by omega
          simp only [e,e',decide_true,decide_false,cond_true,cond_false]
          rw [F117_loop ha hb n (out ++ [a[i]]) (i + 1) k (by omega) hk (by omega) (by simp only [List.length_append,List.length_cons,List.length_nil]; omega),h1,h2,merge_lt e, ← h2,List.append_assoc]
          rfl
        · have e1:¬ a[i].lot<b[k].lot:=by omega
          have e2:¬ b[k].lot<a[i].lot:=by omega
          have:=pa.m0; have:=pa.m1; have:=pb.m0; have:=pb.m1
          simp only [e1,e2,decide_true,decide_false,cond_true,cond_false,w64_id (n:=a[i].mass + b[k].mass) (by omega) (by omega)]
          rw [F117_loop ha hb n (out ++ [(⟨a[i].lot,a[i].mass + b[k].mass⟩:Part)]) (i + 1) (k + 1) (by omega) (by omega) (by omega) (by simp only [List.length_append,List.length_cons,List.length_nil]; omega),h1,h2,merge_eq e,List.append_assoc]
          rfl
        · have e1:¬ a[i].lot<b[k].lot:=by omega
          simp only [e,e1,decide_true,decide_false,cond_true,cond_false]
          rw [F117_loop ha hb n (out ++ [b[k]]) i (k + 1) hi (by omega) (by omega) (by simp only [List.length_append,List.length_cons,List.length_nil]; omega),h1,h2,merge_gt e, ← h1,List.append_assoc]
          rfl
      · have n1:k=b.length:=by omega
        simp only [hia,n1,decide_true,cond_true,getI_nat hia,Option.bind_some,app,succ_w (i:=i) (by omega)]
        have:=F117_loop ha hb n (out ++ [a[i]]) (i + 1) k (by omega) hk (by omega) (by simp only [List.length_append,List.length_cons,List.length_nil]; omega)
        rw [n1] at this
        rw [this,h1,List.drop_length,merge_nil,merge_nil,List.append_assoc]
        rfl
    · have n2:i=a.length:=by omega
      have n2':¬ i<a.length:=by omega
      rcases Nat.lt_or_ge k b.length with hkb | hkb
      · have h2:b.drop k=b[k]::b.drop (k + 1):=drop_cons hkb
        have n1:¬ k=b.length:=by omega
        simp only [n2',hkb,n1,decide_true,decide_false,cond_true,cond_false,n2,getI_nat hkb,Option.bind_some,app,succ_w (i:=k) (by omega),Nat.lt_irrefl]
        have:=F117_loop ha hb n (out ++ [b[k]]) i (k + 1) hi (by omega) (by omega) (by simp only [List.length_append,List.length_cons,List.length_nil]; omega)
        rw [n2] at this
        rw [this,h2,List.drop_length,nil_merge,nil_merge,List.append_assoc]
        rfl
      · have n1:k=b.length:=by omega
        simp [n1,n2,nil_merge]
theorem F117_eq {f:Nat} {a b:List Part} (ha:HeapOk a) (hb:HeapOk b) (hf:90<f):F117 f a b=some (mergeP a b):=by
  have:=F117_loop ha hb f [] 0 0 (by omega) (by omega) (by have:=ha.1; have:=hb.1; omega) (by have:=ha.1; have:=hb.1; simp; omega)
  simpa [F117] using this
end Go.Proofs.YtlmgjjmighajdaaGreat
set_option linter.unusedSimpArgs false
set_option linter.unusedVariables false
namespace Go.Proofs.YtlmgjjmighajdaaGreat
open Go.Sl Go.Sx
def takenL:List Part→List Int→List Part
  | p::h,n::d=>(if n > 0 then [⟨p.lot,n⟩] else []) ++ takenL h d
  | _,_=>[]
def leftL:List Part→List Int→List Part
  | p::h,n::d=>(if n<p.mass then [⟨p.lot,p.mass - n⟩] else []) ++ leftL h d
  | _,_=>[]
def massesL (h:List Part):List Int:=h.map (·.mass)
def dealH (m:Int) (h:List Part):List Int:=if h=[] then [] else dealS m (massesL h)
theorem dealS_len (m:Int) (a:List Int):(dealS m a).length=a.length:=by simp [dealS]
theorem dealH_len (m:Int) (h:List Part):(dealH m h).length=h.length:=by
  unfold dealH
  split
  · rename_i e; rw [e]; rfl
  · rw [dealS_len]; simp [massesL]
theorem sum_masses (h:List Part):(massesL h).sum=sumM h:=rfl
theorem heap_pos {h:List Part} (hk:HeapOk h) (hne:h≠[]):0<sumM h:=by
  cases h with
  | nil=>exact absurd rfl hne
  | cons p h =>
    have hp:=(hk.2.1 p (by simp)).m0
    have:=(sumM_bound (l:=h) fun q hq=>hk.2.1 q (List.mem_cons_of_mem _ hq)).1
    simp only [sumM,List.map_cons,List.sum_cons] at this ⊢
    omega
theorem dealOk_heap {h:List Part} {m:Int} (hk:HeapOk h) (hne:h≠[]) (hm0:0≤m) (hm:m≤sumM h) (hl:h.length≤40):DealOk m (massesL h) where
  nn x hx:=by obtain ⟨p,hp,rfl⟩:=List.mem_map.1 hx; have:=(hk.2.1 p hp).m0; omega
  s0:=by rw [sum_masses]; exact heap_pos hk hne
  s1:=by rw [sum_masses]; exact hk.2.2.2
  m0:=hm0
  m1:=by have:=hk.2.2.2; omega
  len:=by simpa [massesL] using hl
theorem F70_nil (f:Nat) (hf:0<f) (m:Int):F70 f m []=some []:=by
  obtain ⟨n,rfl⟩:∃n,f=n + 1:=⟨f - 1,by omega⟩
  simp [F70,F70_l1,F70_j1,mkC]
theorem F70_heap {f:Nat} {h:List Part} {m:Int} (hk:HeapOk h) (hm0:0≤m) (hm:m≤sumM h) (hl:h.length≤40) (hf:1000<f):F70 f m (massesL h)=some (dealH m h):=by
  unfold dealH
  split
  · rename_i e; subst e; exact F70_nil f (by omega) m
  · rename_i e; exact F70_eq (dealOk_heap hk e hm0 hm hl) hf
theorem deal_bounds {a:List Int} {m:Int} (h:DealOk m a) {i:Nat} (hi:i<a.length):0≤(dealS m a)[i]'(by rw [dealS_len]; exact hi)∧(dealS m a)[i]'(by rw [dealS_len]; exact hi)≤100000001:=by
  have hb:=base_bounds h hi
  have hm:=h.m1
  have e:(dealS m a)[i]'(by rw [dealS_len]; exact hi)=baseS m a i + (if rank m a.sum a (i:Int)<(leftS m a).toNat then 1 else 0):=by simp [dealS]
  rw [e]
  split <;> omega
theorem dealH_bounds {h:List Part} {m:Int} (hk:HeapOk h) (hm0:0≤m) (hm:m≤sumM h) (hl:h.length≤40):∀x∈dealH m h,0≤x∧x≤100000001:=fun x hx=>by
  unfold dealH at hx
  split at hx
  · cases hx
  · rename_i e
    obtain ⟨i,hi,rfl⟩:=List.getElem_of_mem hx
    rw [dealS_len] at hi
    exact deal_bounds (dealOk_heap hk e hm0 hm hl) hi
theorem F39_l2_eq {h:List Part} {d:List Int} (hd:d.length=h.length) (hl:h.length≤40) (hk:∀p∈h,PartOk p) (hb:∀x∈d,0≤x∧x≤100000001):∀n i (tk lf:List Part),i≤h.length→h.length - i<n→tk.length + (h.length - i)≤40→lf.length + (h.length - i)≤40 →
    F39_l2 h d n tk lf (i:Int)=some (tk ++ takenL (h.drop i) (d.drop i),lf ++ leftL (h.drop i) (d.drop i))
  | 0,i,_,_,_,hn,_,_=>by omega
  | n + 1,i,tk,lf,hi,hn,h1,h2=>by
    rcases Nat.lt_or_ge i h.length with hlt | hge
    · have hid:i<d.length:=by omega
      have app:∀(l:List Part) (x:Part),l.length≤60→appC l [x]=some (l ++ [x]):=fun l x hl=>by unfold appC; rw [if_pos (by simp only [List.length_cons,List.length_nil]; omega)]
      have hp:=hk _ (List.getElem_mem hlt)
      have hx:=hb _ (List.getElem_mem hid)
      have e1:h.drop i=h[i]::h.drop (i + 1):=drop_cons hlt
      have e2:d.drop i=d[i]::d.drop (i + 1):=drop_cons hid
      have:=hp.m0; have:=hp.m1
      have hw:w64 (h[i].mass - d[i])=h[i].mass - d[i]:=w64_id (by omega) (by omega)
      have lt2:decide ((i:Int)<(d.length:Int))=true:=by simpa using (show (i:Int)<d.length by omega)
      simp only [F39_l2,F39_j1,F39_j2,lt2,cond_true,getI_nat hlt,getI_nat hid,Option.bind_some,hw,succ_w (i:=i) (by omega)]
      rw [e1,e2]
      simp only [takenL,leftL]
      by_cases c1:d[i] > 0 <;> by_cases c2:d[i]<h[i].mass
      · simp only [c1,c2,decide_true,cond_true,app tk _ (by omega),app lf _ (by omega),Option.bind_some,if_true]
        rw [F39_l2_eq hd hl hk hb n (i + 1) _ _ (by omega) (by omega) (by simp only [List.length_append,List.length_cons,List.length_nil]; omega) (by simp only [List.length_append,List.length_cons,List.length_nil]; omega)]
        simp only [List.append_assoc]
      · simp only [c1,c2,decide_true,decide_false,cond_true,cond_false,app tk _ (by omega),Option.bind_some,if_true,if_false]
        rw [F39_l2_eq hd hl hk hb n (i + 1) _ _ (by omega) (by omega) (by simp only [List.length_append,List.length_cons,List.length_nil]; omega) (by omega)]
        simp only [List.append_assoc,List.nil_append]
      · simp only [c1,c2,decide_true,decide_false,cond_true,cond_false,app lf _ (by omega),Option.bind_some,if_true,if_false]
        rw [F39_l2_eq hd hl hk hb n (i + 1) _ _ (by omega) (by omega) (by omega) (by simp only [List.length_append,List.length_cons,List.length_nil]; omega)]
        simp only [List.append_assoc,List.nil_append]
      · simp only [c1,c2,decide_false,cond_false,if_false]
        rw [F39_l2_eq hd hl hk hb n (i + 1) _ _ (by omega) (by omega) (by omega) (by omega)]
        simp only [List.nil_append]
    · have:i=h.length:=by omega
      subst this
      have lt2:decide ((h.length:Int)<(d.length:Int))=false:=by simp [hd]
      simp only [F39_l2,lt2,cond_false,List.drop_length]
      simp [takenL,leftL]
theorem F39_l1_eq {f:Nat} {h:List Part} (m:Int) (hl:h.length≤40):∀n i,i≤h.length→h.length - i<n→F39_l1 f h m n (massesL (h.take i)) (i:Int)=((F70 f m (massesL h)).bind fun r=>F39_l2 h r f [] [] 0)
  | 0,i,_,hn=>by omega
  | n + 1,i,hi,hn=>by
    rcases Nat.lt_or_ge i h.length with hlt | hge
    · have app:appC (massesL (h.take i)) [h[i].mass]=some (massesL (h.take (i + 1))):=by
        unfold appC
        rw [if_pos (by simp [massesL]; omega),List.take_succ_eq_append_getElem hlt]
        unfold massesL
        rw [List.map_append]; rfl
      simp only [F39_l1,lt_len,hlt,decide_true,cond_true,getI_nat hlt,Option.bind_some,app,succ_w (i:=i) (by omega)]
      exact F39_l1_eq m hl n (i + 1) (by omega) (by omega)
    · have:i=h.length:=by omega
      subst this
      simp [F39_l1]
theorem F39_eq {f:Nat} {h:List Part} {m:Int} (hk:HeapOk h) (hm0:0≤m) (hm:m≤sumM h) (hl:h.length≤40) (hf:1000<f):F39 f h m=some (takenL h (dealH m h),leftL h (dealH m h)):=by
  unfold F39
  have e1:=F39_l1_eq (f:=f) (h:=h) m (by omega) f 0 (by omega) (by omega)
  have e0:((0:Nat):Int)=0:=rfl
  rw [e0] at e1
  have e2:massesL (h.take 0)=[]:=rfl
  rw [e2] at e1
  rw [e1,F70_heap hk hm0 hm hl hf]
  simp only [Option.bind_some]
  have e3:=F39_l2_eq (dealH_len m h) hl hk.2.1 (dealH_bounds hk hm0 hm hl) f 0 [] [] (by omega) (by omega) (by simp; omega) (by simp; omega)
  rw [e0] at e3
  rw [e3]
  simp
end Go.Proofs.YtlmgjjmighajdaaGreat
set_option linter.unusedSimpArgs false
set_option linter.unusedVariables false
namespace Go.Proofs.YtlmgjjmighajdaaGreat
open Go.Sl Go.Sx
theorem F59_80 (f:Nat) (a b:List Part):F59 f a b=F117 f a b:=by
  unfold F59 F117
  have:∀n y i k,F59_l1 a b n y i k=F117_l1 a b n y i k:=by
    intro n
    induction n with
    | zero=>intro y i k; rfl
    | succ n ih =>
      intro y i k
      have e:F59_l1 a b n=F117_l1 a b n:=by funext y i k; exact ih y i k
      simp only [F59_l1,F117_l1,e]
      rfl
  exact this ..
theorem F59_eq {f:Nat} {a b:List Part} (ha:HeapOk a) (hb:HeapOk b) (hf:90<f):F59 f a b=some (mergeP a b):=by rw [F59_80,F117_eq ha hb hf]
theorem F102_eq {f:Nat} {h:List Part} (hl:h.length≤40) (hf:40<f):F102 f h=some (massesL h):=by
  unfold F102
  have key:=from_st (T:=fun n i=>F102_l1 h n (massesL (h.take i)) (i:Int)) (len:=h.length) (n:=f) (out:=some (massesL h)) (by omega)
    (fun n i hi=>by
      have app:appC (massesL (h.take i)) [h[i].mass]=some (massesL (h.take (i + 1))):=by
        unfold appC
        rw [if_pos (by simp [massesL]; omega),List.take_succ_eq_append_getElem hi]
        unfold massesL
        rw [List.map_append]; rfl
      simp only [F102_l1,lt_len,hi,decide_true,cond_true,getI_nat hi,Option.bind_some,app]
      rw [succ_w (by omega)])
    (fun n=>by simp [F102_l1])
  simpa [massesL] using key
theorem F83_l1_eq {h:List Part} {d:List Int} (hd:d.length=h.length) (hl:h.length≤40) (hk:∀p∈h,PartOk p) (hb:∀x∈d,0≤x∧x≤100000001):∀n i (tk lf:List Part),i≤h.length→h.length - i<n→tk.length + (h.length - i)≤40→lf.length + (h.length - i)≤40 →
    F83_l1 h d n tk lf (i:Int)=some (tk ++ takenL (h.drop i) (d.drop i),lf ++ leftL (h.drop i) (d.drop i))
  | 0,i,_,_,_,hn,_,_=>by omega
  | n + 1,i,tk,lf,hi,hn,h1,h2=>by
    rcases Nat.lt_or_ge i h.length with hlt | hge
    · have hid:i<d.length:=by omega
      have app:∀(l:List Part) (x:Part),l.length≤60→appC l [x]=some (l ++ [x]):=fun l x hl=>by unfold appC; rw [if_pos (by simp only [List.length_cons,List.length_nil]; omega)]
      have hp:=hk _ (List.getElem_mem hlt)
      have hx:=hb _ (List.getElem_mem hid)
      have e1:h.drop i=h[i]::h.drop (i + 1):=drop_cons hlt
      have e2:d.drop i=d[i]::d.drop (i + 1):=drop_cons hid
      have:=hp.m0; have:=hp.m1
      have hw:w64 (h[i].mass - d[i])=h[i].mass - d[i]:=w64_id (by omega) (by omega)
      simp only [F83_l1,F83_j1,F83_j2,lt_len,hlt,decide_true,cond_true,getI_nat hlt,getI_nat hid,Option.bind_some,hw,succ_w (i:=i) (by omega)]
      rw [e1,e2]
      simp only [takenL,leftL]
      have gt:(h[i].mass > d[i])=(d[i]<h[i].mass):=rfl
      simp only [gt]
      by_cases c1:d[i] > 0 <;> by_cases c2:d[i]<h[i].mass
      · simp only [c1,c2,decide_true,cond_true,app tk _ (by omega),app lf _ (by omega),Option.bind_some,if_true]
        rw [F83_l1_eq hd hl hk hb n (i + 1) _ _ (by omega) (by omega) (by simp only [List.length_append,List.length_cons,List.length_nil]; omega) (by simp only [List.length_append,List.length_cons,List.length_nil]; omega)]
        simp only [List.append_assoc]
      · simp only [c1,c2,decide_true,decide_false,cond_true,cond_false,app tk _ (by omega),Option.bind_some,if_true,if_false]
        rw [F83_l1_eq hd hl hk hb n (i + 1) _ _ (by omega) (by omega) (by simp only [List.length_append,List.length_cons,List.length_nil]; omega) (by omega)]
        simp only [List.append_assoc,List.nil_append]
      · simp only [c1,c2,decide_true,decide_false,cond_true,cond_false,app lf _ (by omega),Option.bind_some,if_true,if_false]
        rw [F83_l1_eq hd hl hk hb n (i + 1) _ _ (by omega) (by omega) (by omega) (by simp only [List.length_append,List.length_cons,List.length_nil]; omega)]
        simp only [List.append_assoc,List.nil_append]
      · simp only [c1,c2,decide_false,cond_false,if_false]
        rw [F83_l1_eq hd hl hk hb n (i + 1) _ _ (by omega) (by omega) (by omega) (by omega)]
        simp only [List.nil_append]
    · have:i=h.length:=by omega
      subst this
      simp only [F83_l1,lt_len,Nat.lt_irrefl,decide_false,cond_false,List.drop_length]
      simp [takenL,leftL]
theorem deal_zero {a:List Int} (h:∀x∈a,0≤x):dealS 0 a=List.replicate a.length 0:=by
  have hb:baseL 0 a=List.replicate a.length 0:=by
    refine List.ext_getElem (by simp [baseL]) fun i h1 h2=>?_
    simp [baseL]
  have hl:leftS 0 a=0:=by
    unfold leftS
    rw [hb]
    have:∀n:Nat,(List.replicate n (0:Int)).sum=0:=fun n=>by
      induction n with
      | zero=>rfl
      | succ n ih=>rw [List.replicate_succ,List.sum_cons,ih]; rfl
    rw [this]; rfl
  refine List.ext_getElem (by simp [dealS]) fun i h1 h2=>?_
  simp [dealS,hl,baseS]
theorem dealH_zero {h:List Part} (hk:HeapOk h):dealH 0 h=List.replicate h.length 0:=by
  unfold dealH
  split
  · rename_i e; subst e; rfl
  · rw [deal_zero fun x hx=>by obtain ⟨p,hp,rfl⟩:=List.mem_map.1 hx; have:=(hk.2.1 p hp).m0; omega]
    simp [massesL]
theorem taken_zero:∀h:List Part,takenL h (List.replicate h.length 0)=[]
  | []=>rfl
  | p::h=>by
    show takenL (p::h) (0::List.replicate h.length 0)=[]
    simp only [takenL]
    rw [taken_zero h]; rfl
theorem left_zero:∀ {h:List Part},(∀p∈h,PartOk p)→leftL h (List.replicate h.length 0)=h
  | [],_=>rfl
  | p::h,hk=>by
    show leftL (p::h) (0::List.replicate h.length 0)=p::h
    simp only [leftL]
    rw [left_zero fun q hq=>hk q (List.mem_cons_of_mem _ hq)]
    have:=(hk p (by simp)).m0
    rw [if_pos (by omega)]
    simp
theorem F83_eq {f:Nat} {h:List Part} {m:Int} (hk:HeapOk h) (hm0:0≤m) (hm:m≤sumM h) (hl:h.length≤40) (hf:1001≤f):F83 f h m=some (takenL h (dealH m h),leftL h (dealH m h)):=by
  unfold F83
  by_cases h0:m=0
  · subst h0
    have:appC [] h=some h:=by unfold appC; rw [if_pos (by simp; omega)]; rfl
    rw [dealH_zero hk,taken_zero,left_zero hk.2.1]
    simp [this]
  · have h0':(m == 0)=false:=by simpa using h0
    have hne:h≠[]:=fun e=>by subst e; simp [sumM] at hm; omega
    rw [h0',cond_false,F102_eq (by omega) (by omega)]
    simp only [Option.bind_some]
    rw [F84_eq (dealOk_heap hk hne hm0 hm hl) (show 200≤f by omega)]
    simp only [Option.bind_some]
    have hd:dealS m (massesL h)=dealH m h:=by unfold dealH; rw [if_neg hne]
    rw [hd]
    have:=F83_l1_eq (dealH_len m h) hl hk.2.1 (dealH_bounds hk hm0 hm hl) f 0 [] [] (by omega) (by omega) (by simp; omega) (by simp; omega)
    simpa using this
end Go.Proofs.YtlmgjjmighajdaaGreat
set_option linter.unusedSimpArgs false
set_option linter.unusedVariables false
namespace Go.Proofs.YtlmgjjmighajdaaGreat
open Go.Sl Go.Sx
structure Small (holds:List (List (List Part))):Prop where
  n9:holds.length=9
  len:∀l∈holds,l.length≤100
  heaps:∀l∈holds,∀p∈l,p.length≤100
theorem app_small {α:Type} {l m:List α} (h1:l.length≤1000) (h2:m.length≤1000):appC l m=some (l ++ m):=by unfold appC; rw [if_pos (by omega)]
def rows (holds:List (List (List Part))) (i:Nat) (v:List (List Part)):List (List (List Part)):=holds.take i ++ v::List.replicate (8 - i) []
def rowsTo (holds:List (List (List Part))) (i:Nat):List (List (List Part)):=holds.take i ++ List.replicate (9 - i) []
theorem mid_get {α:Type} (a:List α) (v:α) (b:List α) {i:Nat} (hi:a.length=i):getI (a ++ v::b) (i:Int)=some v:=by
  subst hi; unfold getI; simp
theorem mid_set {α:Type} (a:List α) (v u:α) (b:List α) {i:Nat} (hi:a.length=i):(a ++ v::b).set (Int.toNat (i:Int)) u=a ++ u::b:=by
  subst hi; simp
theorem rowsTo_at (holds:List (List (List Part))) {i:Nat} (hi:i<9):rowsTo holds i=rows holds i []:=by
  unfold rowsTo rows
  have:9 - i=(8 - i) + 1:=by omega
  rw [this,List.replicate_succ]
theorem rows_to {holds:List (List (List Part))} {i:Nat} (h9:holds.length=9) (hi:i<holds.length):rows holds i holds[i]=rowsTo holds (i + 1):=by
  unfold rowsTo rows
  rw [List.take_succ_eq_append_getElem hi]
  have:8 - i=9 - (i + 1):=by omega
  rw [this]
  simp only [List.append_assoc,List.singleton_append]
theorem F55_l2_eq {f:Nat} {holds:List (List (List Part))} (hs:Small holds) {i:Nat} (hi:i<holds.length) (k1:List (List (List Part))→Int→Option (List Lot×List (List (List Part)))) (hf:1001≤f) :
    F55_l2 k1 holds (i:Int) f (rowsTo holds i) 0=k1 (rowsTo holds (i + 1)) (w64 ((i:Int) + 1)):=by
  have h9:=hs.n9
  have hli:=hs.len _ (List.getElem_mem hi)
  have hlen:(holds.take i).length=i:=by rw [List.length_take]; omega
  have key:=from_st (T:=fun n j=>F55_l2 k1 holds (i:Int) n (rows holds i (holds[i].take j)) (j:Int)) (len:=holds[i].length) (n:=f) (out:=k1 (rowsTo holds (i + 1)) (w64 ((i:Int) + 1))) (by omega)
    (fun n j hj=>by
      have hp:=hs.heaps _ (List.getElem_mem hi) _ (List.getElem_mem hj)
      simp only [F55_l2,getI_nat hi,Option.bind_some,lt_len,hj,decide_true,cond_true,getI_nat hj]
      unfold rows
      rw [mid_get _ _ _ hlen]
      simp only [Option.bind_some]
      rw [app_small (by simp) (by omega)]
      simp only [Option.bind_some,List.nil_append]
      rw [app_small (by simp; omega) (by simp)]
      simp only [Option.bind_some]
      rw [mid_set _ _ _ _ hlen,succ_w (by omega), ← List.take_succ_eq_append_getElem hj])
    (fun n=>by simp only [F55_l2,getI_nat hi,Option.bind_some,lt_len,Nat.lt_irrefl,decide_false,cond_false,List.take_length,rows_to h9 hi])
  rw [rowsTo_at _ (by omega)]
  simpa using key
theorem F55_eq {f:Nat} {lots:List Lot} {holds:List (List (List Part))} (hs:Small holds) (hl:lots.length≤100) (hf:1001≤f):F55 f lots holds=some (lots,holds):=by
  have h9:=hs.n9
  unfold F55
  rw [app_small (by simp) (by omega)]
  simp only [Option.bind_some,List.nil_append]
  have key:=from_st (T:=fun n i=>F55_l1 f holds lots n (rowsTo holds i) (i:Int)) (len:=9) (n:=f) (out:=some (lots,holds)) (by omega)
    (fun n i hi=>by
      have h1:decide ((i:Int)<9)=true:=decide_eq_true (by omega)
      simp only [F55_l1,h1,cond_true]
      rw [F55_l2_eq hs (by omega) _ hf,succ_w (by omega)])
    (fun n=>by
      have h1:rowsTo holds 9=holds:=by unfold rowsTo; rw [List.take_of_length_le (by omega)]; simp
      simp [F55_l1,h1])
  exact key
def rowo (holds:List (List (List Part))) (i:Nat) (v:Option (List (List Part))):List (Option (List (List Part))):=(holds.take i).map some ++ v::List.replicate (8 - i) none
def rowoTo (holds:List (List (List Part))) (i:Nat):List (Option (List (List Part))):=(holds.take i).map some ++ List.replicate (9 - i) none
theorem rowoTo_at (holds:List (List (List Part))) {i:Nat} (hi:i<9):rowoTo holds i=rowo holds i none:=by
  unfold rowoTo rowo
  have:9 - i=(8 - i) + 1:=by omega
  rw [this,List.replicate_succ]
theorem rowo_to {holds:List (List (List Part))} {i:Nat} (h9:holds.length=9) (hi:i<holds.length):rowo holds i (some holds[i])=rowoTo holds (i + 1):=by
  unfold rowoTo rowo
  rw [List.take_succ_eq_append_getElem hi]
  have:8 - i=9 - (i + 1):=by omega
  rw [this,List.map_append]
  simp only [List.map_cons,List.map_nil,List.append_assoc,List.singleton_append]
theorem F52_eq {f:Nat} {p:List Part} (h:p.length≤100):F52 f p=some p:=by
  unfold F52
  rw [app_small (by simp) (by omega)]
  rfl
theorem F20_l2_eq {f:Nat} {holds:List (List (List Part))} (hs:Small holds) {i:Nat} (hi:i<holds.length) (k1:List (Option (List (List Part)))→Int→Option (List Lot×List (List (List Part)))) (hf:1001≤f) :
    F20_l2 f k1 (i:Int) holds[i] f (rowo holds i (some [])) 0=k1 (rowoTo holds (i + 1)) (w64 ((i:Int) + 1)):=by
  have h9:=hs.n9
  have hli:=hs.len _ (List.getElem_mem hi)
  have hlen:((holds.take i).map some).length=i:=by rw [List.length_map,List.length_take]; omega
  have key:=from_st (T:=fun n j=>F20_l2 f k1 (i:Int) holds[i] n (rowo holds i (some (holds[i].take j))) (j:Int)) (len:=holds[i].length) (n:=f) (out:=k1 (rowoTo holds (i + 1)) (w64 ((i:Int) + 1))) (by omega)
    (fun n j hj=>by
      have hp:=hs.heaps _ (List.getElem_mem hi) _ (List.getElem_mem hj)
      simp only [F20_l2,lt_len,hj,decide_true,cond_true,getI_nat hj,Option.bind_some,F52_eq hp]
      unfold rowo getO
      rw [mid_get _ _ _ hlen]
      simp only [Option.bind_some]
      rw [app_small (by simp; omega) (by simp)]
      simp only [Option.bind_some]
      rw [mid_set _ _ _ _ hlen,succ_w (by omega), ← List.take_succ_eq_append_getElem hj])
    (fun n=>by simp only [F20_l2,lt_len,Nat.lt_irrefl,decide_false,cond_false,List.take_length,rowo_to h9 hi])
  simpa using key
theorem allS_some {γ:Type}:∀l:List γ,allS (l.map some)=some l
  | []=>rfl
  | x::l=>by simp [allS,allS_some l]
theorem F20_eq {f:Nat} {lots:List Lot} {holds:List (List (List Part))} (hs:Small holds) (hl:lots.length≤100) (hf:1001≤f):F20 f lots holds=some (lots,holds):=by
  have h9:=hs.n9
  unfold F20
  have e1:mkC ((lots.length:Nat):Int) (⟨0,0,0,0⟩:Lot)=some (List.replicate lots.length ⟨0,0,0,0⟩):=by
    unfold mkC
    rw [if_pos (by omega)]; simp
  have e2:cpC (List.replicate lots.length (⟨0,0,0,0⟩:Lot)) lots=some ():=by unfold cpC; rw [if_pos (by simp)]
  rw [e1]
  simp only [Option.bind_some,e2]
  have key:=from_st (T:=fun n i=>F20_l1 f lots holds n (rowoTo holds i) (i:Int)) (len:=9) (n:=f) (out:=some (lots,holds)) (by omega)
    (fun n i hi=>by
      have h1:decide ((i:Int)<9)=true:=decide_eq_true (by omega)
      have hi':i<holds.length:=by omega
      have hlen:((holds.take i).map some).length=i:=by rw [List.length_map,List.length_take]; omega
      simp only [F20_l1,h1,cond_true,getI_nat hi',Option.bind_some]
      rw [rowoTo_at _ hi]
      unfold rowo
      rw [mid_get _ _ _ hlen,mid_set _ _ _ _ hlen]
      have:=F20_l2_eq hs hi' (F20_l1 f lots holds n) hf
      unfold rowo at this
      simp only [Option.bind_some]
      rw [this,succ_w (by omega)])
    (fun n=>by
      have h1:rowoTo holds 9=holds.map some:=by unfold rowoTo; rw [List.take_of_length_le (by omega)]; simp
      simp [F20_l1,h1,allS_some])
  exact key
end Go.Proofs.YtlmgjjmighajdaaGreat
set_option linter.unusedSimpArgs false
set_option linter.unusedVariables false
namespace Go.Proofs.YtlmgjjmighajdaaGreat
open Go.Sl Go.Sx
def setOf (p:List Part):List (Int×Bool):=p.foldl (fun D q=>putK D q.lot true) []
def mayOf (holds:List (List (List Part))):List (List (List (Int×Bool))):=holds.map fun l=>l.map setOf
def mayAt (holds:List (List (List Part))) (i:Nat) (v:List (List (Int×Bool))):List (List (List (Int×Bool))):=(holds.take i).map (fun l=>l.map setOf) ++ v::List.replicate (8 - i) []
def mayTo (holds:List (List (List Part))) (i:Nat):List (List (List (Int×Bool))):=(holds.take i).map (fun l=>l.map setOf) ++ List.replicate (9 - i) []
theorem mayTo_at (holds:List (List (List Part))) {i:Nat} (hi:i<9):mayTo holds i=mayAt holds i []:=by
  unfold mayTo mayAt
  have:9 - i=(8 - i) + 1:=by omega
  rw [this,List.replicate_succ]
theorem mayAt_to {holds:List (List (List Part))} {i:Nat} (h9:holds.length=9) (hi:i<holds.length):mayAt holds i (holds[i].map setOf)=mayTo holds (i + 1):=by
  unfold mayTo mayAt
  rw [List.take_succ_eq_append_getElem hi]
  have:8 - i=9 - (i + 1):=by omega
  rw [this,List.map_append]
  simp only [List.map_cons,List.map_nil,List.append_assoc,List.singleton_append]
theorem take_fold {σ α:Type} (g:σ→α→σ) (s:σ) {l:List α} {i:Nat} (hi:i<l.length):(l.take (i + 1)).foldl g s=g ((l.take i).foldl g s) l[i]:=by
  rw [List.take_succ_eq_append_getElem hi,List.foldl_append]; rfl
theorem F50_l3_eq {f:Nat} (k1:Pl→Int→Option Pl) {holds:List (List (List Part))} {i:Nat} (h9:holds.length=9) (hi:i<holds.length) (lots:List Lot) (H:List (List (List Part))) (y3:Int) {p:List Part} (hp:p.length≤100) (v:List (List (Int×Bool))) (hv:v.length≤100) (hf:1001≤f) :
    F50_l3 k1 (i:Int) ⟨lots,H,mayAt holds i v⟩ y3 p f [] 0=k1 ⟨lots,H,mayAt holds i (v ++ [setOf p])⟩ (w64 (y3 + 1)):=by
  have hlen:((holds.take i).map fun l=>l.map setOf).length=i:=by rw [List.length_map,List.length_take]; omega
  have key:=from_st (T:=fun n j=>F50_l3 k1 (i:Int) ⟨lots,H,mayAt holds i v⟩ y3 p n ((p.take j).foldl (fun D q=>putK D q.lot true) []) (j:Int)) (len:=p.length) (n:=f) (out:=k1 ⟨lots,H,mayAt holds i (v ++ [setOf p])⟩ (w64 (y3 + 1))) (by omega)
    (fun n j hj=>by
      simp only [F50_l3,lt_len,hj,decide_true,cond_true,getI_nat hj,Option.bind_some]
      rw [succ_w (by omega),take_fold _ _ hj])
    (fun n=>by
      simp only [F50_l3,lt_len,Nat.lt_irrefl,decide_false,cond_false,List.take_length]
      unfold mayAt
      rw [mid_get _ _ _ hlen]
      simp only [Option.bind_some]
      rw [app_small (by omega) (by simp)]
      simp only [Option.bind_some]
      rw [mid_set _ _ _ _ hlen]
      rfl)
  exact key
theorem F50_l2_eq {f:Nat} (k3:Pl→Int→Option Pl) {holds:List (List (List Part))} (hs:Small holds) {i:Nat} (hi:i<holds.length) (lots:List Lot) (hf:1001≤f) :
    F50_l2 f k3 (i:Int) holds[i] f ⟨lots,holds,mayTo holds i⟩ 0=k3 ⟨lots,holds,mayTo holds (i + 1)⟩ (w64 ((i:Int) + 1)):=by
  have h9:=hs.n9
  have hli:=hs.len _ (List.getElem_mem hi)
  have key:=from_st (T:=fun n j=>F50_l2 f k3 (i:Int) holds[i] n ⟨lots,holds,mayAt holds i ((holds[i].take j).map setOf)⟩ (j:Int)) (len:=holds[i].length) (n:=f) (out:=k3 ⟨lots,holds,mayTo holds (i + 1)⟩ (w64 ((i:Int) + 1))) (by omega)
    (fun n j hj=>by
      have hp:=hs.heaps _ (List.getElem_mem hi) _ (List.getElem_mem hj)
      simp only [F50_l2,lt_len,hj,decide_true,cond_true,getI_nat hj,Option.bind_some]
      rw [F50_l3_eq _ h9 hi lots holds _ hp _ (by simp; omega) hf,succ_w (by omega),List.take_succ_eq_append_getElem hj,List.map_append]
      rfl)
    (fun n=>by simp only [F50_l2,lt_len,Nat.lt_irrefl,decide_false,cond_false,List.take_length,mayAt_to h9 hi])
  rw [mayTo_at _ (by omega)]
  simpa using key
theorem F50_eq {f:Nat} {lots:List Lot} {holds:List (List (List Part))} (hs:Small holds) (hl:lots.length≤100) (hf:1001≤f):F50 f lots holds=some ⟨lots,holds,mayOf holds⟩:=by
  have h9:=hs.n9
  unfold F50
  rw [F20_eq hs hl hf]
  simp only [Option.bind_some]
  have key:=from_st (T:=fun n i=>F50_l1 f holds n ⟨lots,holds,mayTo holds i⟩ (i:Int)) (len:=9) (n:=f) (out:=some ⟨lots,holds,mayOf holds⟩) (by omega)
    (fun n i hi=>by
      have h1:decide ((i:Int)<9)=true:=decide_eq_true (by omega)
      have hi':i<holds.length:=by omega
      simp only [F50_l1,h1,cond_true,getI_nat hi',Option.bind_some]
      rw [F50_l2_eq _ hs hi' lots hf,succ_w (by omega)])
    (fun n=>by
      have h1:mayTo holds 9=mayOf holds:=by unfold mayTo mayOf; rw [List.take_of_length_le (by omega)]; simp
      simp [F50_l1,h1])
  exact key
end Go.Proofs.YtlmgjjmighajdaaGreat
set_option linter.unusedSimpArgs false
set_option linter.unusedVariables false
namespace Go.Proofs.YtlmgjjmighajdaaGreat
open Go.Sl Go.Sx
theorem getI_opt {α:Type} (l:List α) (t:Nat):getI l (t:Int)=l[t]? :=by unfold getI; simp
structure At9 (x:Pl) (t:Nat) (H:List (List Part)) (M:List (List (Int×Bool))):Prop where
  h:x.holds[t]? =some H
  m:x.may[t]? =some M
  len:M.length=H.length
  small:H.length≤100
def _root_.Go.Sx.Pl.put (x:Pl) (t:Nat) (H:List (List Part)) (M:List (List (Int×Bool))):Pl:=⟨x.lots,x.holds.set t H,x.may.set t M⟩
theorem _root_.Go.Sx.Pl.put_put (x:Pl) (t:Nat) (H H':List (List Part)) (M M':List (List (Int×Bool))):(x.put t H M).put t H' M'=x.put t H' M':=by simp [Pl.put]
theorem _root_.Go.Sx.Pl.put_self {x:Pl} {t:Nat} {H:List (List Part)} {M:List (List (Int×Bool))} (h:At9 x t H M):x.put t H M=x:=by
  unfold Pl.put
  rw [set_same h.h,set_same h.m]
theorem At9.put {x:Pl} {t:Nat} {H:List (List Part)} {M:List (List (Int×Bool))} (h:At9 x t H M) {H':List (List Part)} {M':List (List (Int×Bool))} (hl:M'.length=H'.length) (hs:H'.length≤100):At9 (x.put t H' M') t H' M':=by
  have h1:=(List.getElem?_eq_some_iff.1 h.h).1
  have h2:=(List.getElem?_eq_some_iff.1 h.m).1
  exact ⟨by simp [Pl.put,h1],by simp [Pl.put,h2],hl,hs⟩
theorem At9.other {x:Pl} {t u:Nat} {H H':List (List Part)} {M M':List (List (Int×Bool))} (h:At9 x t H M) (hne:u≠t):At9 (x.put u H' M') t H M:=by
  refine ⟨?_,?_,h.len,h.small⟩
  · simp only [Pl.put]; rw [List.getElem?_set_ne hne]; exact h.h
  · simp only [Pl.put]; rw [List.getElem?_set_ne hne]; exact h.m
theorem F112_nil {f:Nat} {x:Pl} {t:Nat} (h:At9 x t [] []):F112 f x (t:Int)=some ([],[],x):=by
  unfold F112
  rw [getI_opt,h.h]
  rfl
theorem len_pred {n:Nat} (h:n≤100):w64 (((n + 1:Nat):Int) - 1)=(n:Int):=by rw [w64_id (by omega) (by omega)]; omega
theorem F112_last {f:Nat} {x:Pl} {t:Nat} {H:List (List Part)} {p:List Part} {M:List (List (Int×Bool))} {s:List (Int×Bool)} (h:At9 x t (H ++ [p]) (M ++ [s])):F112 f x (t:Int)=some (p,s,x):=by
  unfold F112
  have hl:M.length=H.length:=by have:=h.len; simpa using this
  have hs:=h.small
  rw [List.length_append] at hs
  have e:((H ++ [p]).length:Int)=((H.length + 1:Nat):Int):=by simp
  simp only [getI_opt,h.h,h.m,Option.bind_some,e,len_pred (n:=H.length) (by simp at hs; omega)]
  have h0:decide ((H.length:Int)<0)=false:=decide_eq_false (by omega)
  rw [h0,cond_false]
  have e1:(H ++ [p])[H.length]? =some p:=by simp
  have e2:(M ++ [s])[H.length]? =some s:=by rw [← hl]; simp
  simp [getI_opt,e1,e2]
theorem F113_nil {f:Nat} {x:Pl} {t:Nat} (h:At9 x t [] []):F113 f x (t:Int)=some x:=by
  unfold F113
  rw [getI_opt,h.h]
  rfl
theorem sub_last {α:Type} (l:List α) (a:α):subI (l ++ [a]) 0 (l.length:Int)=some l:=by
  unfold subI
  rw [if_pos (by simp; omega)]
  simp
theorem F113_last {f:Nat} {x:Pl} {t:Nat} {H:List (List Part)} {p:List Part} {M:List (List (Int×Bool))} {s:List (Int×Bool)} (h:At9 x t (H ++ [p]) (M ++ [s])):F113 f x (t:Int)=some (x.put t H M):=by
  unfold F113
  have hl:M.length=H.length:=by have:=h.len; simpa using this
  have hs:=h.small
  rw [List.length_append] at hs
  have e:((H ++ [p]).length:Int)=((H.length + 1:Nat):Int):=by simp
  simp only [getI_opt,h.h,h.m,Option.bind_some,e,len_pred (n:=H.length) (by simp at hs; omega)]
  have h0:decide ((H.length:Int)≥0)=true:=decide_eq_true (by omega)
  have e2:subI (M ++ [s]) 0 (H.length:Int)=some M:=by rw [← hl]; exact sub_last M s
  rw [h0,cond_true,sub_last,e2]
  simp [Pl.put]
theorem F109_nil {f:Nat} (x:Pl) (t:Int) (s:List (Int×Bool)):F109 f x t [] s=some x:=by unfold F109; rfl
theorem F109_put {f:Nat} {x:Pl} {t:Nat} {H:List (List Part)} {M:List (List (Int×Bool))} (h:At9 x t H M) {p:List Part} (hp:p≠[]) (s:List (Int×Bool)):F109 f x (t:Int) p s=some (x.put t (H ++ [p]) (M ++ [s])):=by
  unfold F109
  have h0:decide ((p.length:Int) > 0)=true:=decide_eq_true (by have:=List.length_pos_iff.2 hp; omega)
  have hs:=h.small
  have hl:=h.len
  rw [h0,cond_true,getI_opt,h.h,getI_opt,h.m]
  simp only [Option.bind_some]
  rw [app_small (by omega) (by simp),app_small (by omega) (by simp)]
  simp [Pl.put]
theorem F111_eq {f:Nat} {a b:List Part} (ha:HeapOk a) (hb:HeapOk b) (s u:List (Int×Bool)) (hf:1001≤f):F111 f a s b u=some (mergeP a b,uniK (uniK [] s) u):=by
  unfold F111
  rw [F117_eq ha hb (by omega)]
  obtain ⟨n,rfl⟩:∃n,f=n + 3:=⟨f - 3,by omega⟩
  rfl
theorem merge_ne {a b:List Part} (h:a≠[]∨b≠[]):mergeP a b≠[]:=by
  cases a with
  | nil=>simpa [nil_merge] using h
  | cons p a =>
    cases b with
    | nil=>simp [merge_nil]
    | cons q b =>
      unfold mergeP
      split
      · simp
      · split <;> simp
theorem F107_nil {f:Nat} {x:Pl} {t:Nat} (h:At9 x t [] []) {b:List Part} (hb:HeapOk b) (hne:b≠[]) (u:List (Int×Bool)) (hf:1001≤f):F107 f x (t:Int) b u=some (x.put t [b] [uniK [] u]):=by
  unfold F107 F107_j1
  have h0:HeapOk []:=⟨by simp,by simp,List.Pairwise.nil,by simp [sumM]⟩
  rw [F112_nil h]
  simp only [Option.bind_some]
  rw [F111_eq h0 hb _ _ hf]
  simp only [Option.bind_some,nil_merge]
  rw [F113_nil h]
  simp only [Option.bind_some]
  rw [F109_put h hne]
  rfl
theorem F107_last {f:Nat} {x:Pl} {t:Nat} {H:List (List Part)} {p:List Part} {M:List (List (Int×Bool))} {s:List (Int×Bool)} (h:At9 x t (H ++ [p]) (M ++ [s])) {b:List Part} (hp:HeapOk p) (hb:HeapOk b) (hne:p≠[]∨b≠[]) (u:List (Int×Bool)) (hf:1001≤f) :
    F107 f x (t:Int) b u=some (x.put t (H ++ [mergeP p b]) (M ++ [uniK (uniK [] s) u])):=by
  unfold F107 F107_j1
  have hl:M.length=H.length:=by have:=h.len; simpa using this
  have hs:=h.small
  rw [List.length_append] at hs
  rw [F112_last h]
  simp only [Option.bind_some]
  rw [F111_eq hp hb _ _ hf]
  simp only [Option.bind_some]
  rw [F113_last h]
  simp only [Option.bind_some]
  rw [F109_put (h.put hl (by omega)) (merge_ne hne),Pl.put_put]
  rfl
end Go.Proofs.YtlmgjjmighajdaaGreat
set_option linter.unusedSimpArgs false
set_option linter.unusedVariables false
namespace Go.Proofs.YtlmgjjmighajdaaGreat
open Go.Sl Go.Sx
theorem set_sum:∀ {l:List Int} {i:Nat} (h:i<l.length),(l.set i (l[i] + 1)).sum=l.sum + 1
  | x::l,0,_=>by simp only [List.set_cons_zero,List.sum_cons,List.getElem_cons_zero]; omega
  | x::l,i + 1,h=>by
    have:=set_sum (l:=l) (i:=i) (by simpa using h)
    simp only [List.set_cons_succ,List.sum_cons,List.getElem_cons_succ]; omega
theorem outS_sum (m:Int) (a:List Int):∀(D2 D1:List Int),(∀x∈D1 ++ D2,x∈places a.length)→(D1 ++ D2).Nodup→(outS m a (D1 ++ D2)).sum=(outS m a D1).sum + D2.length
  | [],D1,_,_=>by simp
  | p::D2,D1,h1,h2=>by
    have e:D1 ++ p::D2=(D1 ++ [p]) ++ D2:=by simp
    rw [e] at h1 h2 ⊢
    have hp:p∈places a.length:=h1 p (by simp)
    have hnot:p∉D1:=fun hm=>by
      have:=(List.nodup_append.1 ((List.nodup_append.1 h2).1)).2.2 p hm p (by simp)
      exact this rfl
    obtain ⟨g,st⟩:=outS_set (m:=m) (D:=D1) hp hnot
    have hb:=mem_places.1 hp
    have hi:p.toNat<(outS m a D1).length:=by rw [outS_len]; omega
    have e1:outS m a (D1 ++ [p])=(outS m a D1).set p.toNat ((outS m a D1)[p.toNat] + 1):=by
      have hg:(outS m a D1)[p.toNat]=baseS m a p.toNat:=by
        have h3:=(getI_spec g).2
        rw [List.getElem?_eq_getElem hi] at h3
        exact Option.some.inj h3
      rw [hg]
      exact (setI_spec st).2
    rw [outS_sum m a D2 (D1 ++ [p]) h1 h2,e1,set_sum hi]
    simp only [List.length_cons]; omega
theorem deal_sum {m:Int} {a:List Int} (h:DealOk m a):(dealS m a).sum=m:=by
  rw [← outS_deal (orderS_sorted m a.sum a) (orderS_perm m a.sum a)]
  have hperm:=orderS_perm m a.sum a
  have hnod:(orderS m a.sum a).Nodup:=hperm.nodup_iff.2 ((places_rising _).imp fun h=>by omega)
  obtain ⟨hb0,hb1,_⟩:=left_bounds h
  have:=outS_sum m a ((orderS m a.sum a).take (leftS m a).toNat) [] (fun x hx=>hperm.mem_iff.1 (List.mem_of_mem_take (by simpa using hx))) (hnod.sublist (List.take_sublist _ _))
  rw [List.nil_append,outS_nil,List.length_take,orderS_len] at this
  rw [this]
  unfold leftS at *
  omega
theorem deal_at {m:Int} {a:List Int} {i:Nat} (hi:i<a.length):(dealS m a)[i]'(by rw [dealS_len]; exact hi)=baseS m a i + (if rank m a.sum a (i:Int)<(leftS m a).toNat then 1 else 0):=by simp [dealS]
theorem rem_at {m:Int} {a:List Int} {i:Nat} (hi:i<a.length):rem_ m a.sum a (i:Int)=m * a[i] % a.sum:=by
  unfold rem_
  have e:((i:Int)).toNat=i:=by omega
  rw [e,getD_mem hi]
theorem extra_rem {m:Int} {a:List Int} (h:DealOk m a) {i:Nat} (hi:i<a.length) (hr:rank m a.sum a (i:Int)<(leftS m a).toNat):0<rem_ m a.sum a (i:Int):=by
  have hs:=h.s0
  have hnn:∀j,0≤rem_ m a.sum a j:=fun j=>Int.emod_nonneg _ (by omega)
  have hlt:∀j,rem_ m a.sum a j<a.sum:=fun j=>Int.emod_lt_of_pos _ hs
  rcases Int.lt_or_le 0 (rem_ m a.sum a (i:Int)) with h0 | h0
  · exact h0
  · exfalso
    have hz:rem_ m a.sum a (i:Int)=0:=by have:=hnn i; omega
    -- whoever has a remainder comes ahead
    have hc:(places a.length).countP (fun j=>decide (0<rem_ m a.sum a j))≤rank m a.sum a (i:Int):=by
      unfold rank
      refine List.countP_mono_left fun j hj hp=>?_
      simp only [decide_eq_true_eq] at hp ⊢
      unfold ahead
      omega
    have hsum:∀l:List Int,(l.map fun j=>rem_ m a.sum a j).sum≤(a.sum - 1) * (l.countP (fun j=>decide (0<rem_ m a.sum a j)):Nat):=by
      intro l
      induction l with
      | nil=>simp
      | cons j l ih =>
        simp only [List.map_cons,List.sum_cons]
        by_cases hp:0<rem_ m a.sum a j
        · rw [List.countP_cons_of_pos (by simpa using hp)]
          have:=hlt j
          have e:(a.sum - 1) * ((l.countP (fun j=>decide (0<rem_ m a.sum a j)) + 1:Nat):Int)=(a.sum - 1) * (l.countP (fun j=>decide (0<rem_ m a.sum a j)):Nat) + (a.sum - 1):=by push_cast; grind
          omega
        · rw [List.countP_cons_of_neg (by simpa using hp)]
          have:=hnn j
          omega
    have h1:=hsum (places a.length)
    have e1:(places a.length).map (fun j=>rem_ m a.sum a j)=a.map fun x=>m * x % a.sum:=by
      refine List.ext_getElem (by simp [places]) fun k h1 h2=>?_
      rw [List.getElem_map,List.getElem_map]
      have hk:k<a.length:=by simpa [places] using h1
      rw [places_at hk]
      exact rem_at hk
    rw [e1] at h1
    obtain ⟨hb0,hb1,e2⟩:=left_bounds h
    rw [← e2] at h1
    have h3:(a.sum - 1) * ((places a.length).countP (fun j=>decide (0<rem_ m a.sum a j)):Nat)≤(a.sum - 1) * (leftS m a - 1):=Int.mul_le_mul_of_nonneg_left (by omega) (by omega)
    have h4:(a.sum - 1) * (leftS m a - 1)=a.sum * leftS m a - leftS m a - a.sum + 1:=by grind
    omega
theorem deal_le {m:Int} {a:List Int} (h:DealOk m a) (hm:m≤a.sum) {i:Nat} (hi:i<a.length):(dealS m a)[i]'(by rw [dealS_len]; exact hi)≤a[i]:=by
  rw [deal_at hi]
  have hs:=h.s0
  have h0:=h.nn _ (List.getElem_mem hi)
  have e:=Int.mul_ediv_add_emod (m * a[i]) a.sum
  have hb:baseS m a i=m * a[i] / a.sum:=by unfold baseS; rw [getD_mem hi]
  have hle:m * a[i]≤a.sum * a[i]:=Int.mul_le_mul_of_nonneg_right hm h0
  split
  · rename_i hr
    have hrem:=extra_rem h hi hr
    rw [rem_at hi] at hrem
    rw [hb]
    rcases Int.lt_or_le (m * a[i] / a.sum) a[i] with hl | hl
    · omega
    · have:a.sum * a[i]≤a.sum * (m * a[i] / a.sum):=Int.mul_le_mul_of_nonneg_left hl (by omega)
      omega
  · rw [hb]
    rcases Int.lt_or_le a[i] (m * a[i] / a.sum) with hl | hl
    · have h1:a.sum * (a[i] + 1)≤a.sum * (m * a[i] / a.sum):=Int.mul_le_mul_of_nonneg_left (by omega) (by omega)
      have h2:=Int.emod_nonneg (m * a[i]) (show a.sum≠0 by omega)
      have h3:a.sum * (a[i] + 1)=a.sum * a[i] + a.sum:=by grind
      omega
    · omega
inductive Fits:List Part→List Int→Prop
  | nil:Fits [] []
  | cons {p:Part} {h:List Part} {n:Int} {d:List Int} (h0:0≤n) (h1:n≤p.mass) (hp:1≤p.mass) (k:Fits h d):Fits (p::h) (n::d)
theorem Fits.of:∀ {h:List Part} {d:List Int},d.length=h.length→(∀i (hi:i<h.length) (hd:i<d.length),0≤d[i]∧d[i]≤h[i].mass∧1≤h[i].mass)→Fits h d
  | [],[],_,_=> .nil
  | [],_::_,e,_=>by cases e
  | _::_,[],e,_=>by cases e
  | p::h,n::d,e,k=>by
    have k0:=k 0 (by simp) (by simp)
    exact .cons k0.1 k0.2.1 k0.2.2 (Fits.of (by simpa using e) fun i hi hd=>k (i + 1) (by simpa using hi) (by simpa using hd))
theorem taken_lots:∀ {h:List Part} {d:List Int} {q:Part},q∈takenL h d→∃p∈h,p.lot=q.lot
  | [],_,q,hq=>by simp [takenL] at hq
  | _::_,[],q,hq=>by simp [takenL] at hq
  | p::h,n::d,q,hq=>by
    simp only [takenL] at hq
    rcases List.mem_append.1 hq with hq | hq
    · split at hq
      · simp only [List.mem_singleton] at hq; subst hq; exact ⟨p,by simp,rfl⟩
      · cases hq
    · obtain ⟨p',hp,e⟩:=taken_lots hq
      exact ⟨p',List.mem_cons_of_mem _ hp,e⟩
theorem left_lots:∀ {h:List Part} {d:List Int} {q:Part},q∈leftL h d→∃p∈h,p.lot=q.lot
  | [],_,q,hq=>by simp [leftL] at hq
  | _::_,[],q,hq=>by simp [leftL] at hq
  | p::h,n::d,q,hq=>by
    simp only [leftL] at hq
    rcases List.mem_append.1 hq with hq | hq
    · split at hq
      · simp only [List.mem_singleton] at hq; subst hq; exact ⟨p,by simp,rfl⟩
      · cases hq
    · obtain ⟨p',hp,e⟩:=left_lots hq
      exact ⟨p',List.mem_cons_of_mem _ hp,e⟩
theorem taken_sum:∀ {h:List Part} {d:List Int},Fits h d→sumM (takenL h d)=d.sum
  | _,_, .nil=>by simp [takenL,sumM]
  | p::h,n::d, .cons h0 h1 hp k=>by
    have ih:=taken_sum k
    simp only [takenL,List.sum_cons,sumM_app,ih]
    split
    · simp [sumM]
    · simp [sumM]; omega
theorem taken_part:∀ {h:List Part} {d:List Int},Fits h d→(∀p∈h,PartOk p)→∀q∈takenL h d,PartOk q
  | _,_, .nil,_,q,hq=>by simp [takenL] at hq
  | p::h,n::d, .cons h0 h1 hp k,hk,q,hq=>by
    simp only [takenL] at hq
    rcases List.mem_append.1 hq with hq | hq
    · split at hq
      · have hp':=hk p (by simp)
        simp only [List.mem_singleton] at hq; subst hq
        exact ⟨hp'.l0,hp'.l1,by simp only; omega,by have:=hp'.m1; simp only; omega⟩
      · cases hq
    · exact taken_part k (fun p hp=>hk p (List.mem_cons_of_mem _ hp)) q hq
theorem left_part:∀ {h:List Part} {d:List Int},Fits h d→(∀p∈h,PartOk p)→∀q∈leftL h d,PartOk q
  | _,_, .nil,_,q,hq=>by simp [leftL] at hq
  | p::h,n::d, .cons h0 h1 hp k,hk,q,hq=>by
    simp only [leftL] at hq
    rcases List.mem_append.1 hq with hq | hq
    · split at hq
      · have hp':=hk p (by simp)
        simp only [List.mem_singleton] at hq; subst hq
        exact ⟨hp'.l0,hp'.l1,by simp only; omega,by have:=hp'.m1; simp only; omega⟩
      · cases hq
    · exact left_part k (fun p hp=>hk p (List.mem_cons_of_mem _ hp)) q hq
theorem left_sum:∀ {h:List Part} {d:List Int},Fits h d→sumM (leftL h d)=sumM h - d.sum
  | _,_, .nil=>by simp [leftL,sumM]
  | p::h,n::d, .cons h0 h1 hp k=>by
    have ih:=left_sum k
    have e:sumM (p::h)=p.mass + sumM h:=by simp [sumM]
    simp only [leftL,List.sum_cons,sumM_app,ih,e]
    split
    · simp [sumM]; omega
    · simp [sumM]; omega
theorem taken_rise:∀ {h:List Part} {d:List Int},(h.Pairwise fun a b=>a.lot<b.lot)→(takenL h d).Pairwise fun a b=>a.lot<b.lot
  | [],_,_=>by simp [takenL]
  | _::_,[],_=>by simp [takenL]
  | p::h,n::d,hr=>by
    have hr':=List.pairwise_cons.1 hr
    have ih:=taken_rise (d:=d) hr'.2
    simp only [takenL]
    split
    · exact List.pairwise_cons.2 ⟨fun x hx=>by obtain ⟨q,hq,e⟩:=taken_lots hx; rw [← e]; exact hr'.1 q hq,ih⟩
    · exact ih
theorem left_rise:∀ {h:List Part} {d:List Int},(h.Pairwise fun a b=>a.lot<b.lot)→(leftL h d).Pairwise fun a b=>a.lot<b.lot
  | [],_,_=>by simp [leftL]
  | _::_,[],_=>by simp [leftL]
  | p::h,n::d,hr=>by
    have hr':=List.pairwise_cons.1 hr
    have ih:=left_rise (d:=d) hr'.2
    simp only [leftL]
    split
    · exact List.pairwise_cons.2 ⟨fun x hx=>by obtain ⟨q,hq,e⟩:=left_lots hx; rw [← e]; exact hr'.1 q hq,ih⟩
    · exact ih
theorem fits_heap {h:List Part} {m:Int} (hk:HeapOk h) (hm0:0≤m) (hm:m≤sumM h) (hl:h.length≤40):Fits h (dealH m h)∧(dealH m h).sum=(if h=[] then 0 else m):=by
  unfold dealH
  split
  · rename_i e; subst e; exact ⟨.nil,rfl⟩
  · rename_i e
    have hd:=dealOk_heap hk e hm0 hm hl
    refine ⟨Fits.of (by rw [dealS_len]; simp [massesL]) fun i hi hdi=>?_,deal_sum hd⟩
    have hi2:i<(massesL h).length:=by simpa [massesL] using hi
    have e2:(massesL h)[i]=h[i].mass:=by simp [massesL]
    exact ⟨(deal_bounds hd hi2).1,e2 ▸ deal_le hd (by rw [sum_masses]; exact hm) hi2,(hk.2.1 _ (List.getElem_mem hi)).m0⟩
end Go.Proofs.YtlmgjjmighajdaaGreat
set_option linter.unusedSimpArgs false
set_option linter.unusedVariables false
namespace Go.Proofs.YtlmgjjmighajdaaGreat
open Go.Sl Go.Sx
structure In (ids:List Int) (h:List Part):Prop where
  ok:∀p∈h,PartOk p
  rise:h.Pairwise fun a b=>a.lot<b.lot
  ids:∀p∈h,p.lot∈ids
theorem In.nil (ids:List Int):In ids []:=⟨by simp,List.Pairwise.nil,by simp⟩
theorem nodup_len {α:Type} [DecidableEq α]:∀ {l m:List α},l.Nodup→(∀x∈l,x∈m)→l.length≤m.length
  | [],m,_,_=>by simp
  | x::l,m,hn,h=>by
    have hx:x∈m:=h x (by simp)
    have hn':=List.nodup_cons.1 hn
    have ih:=nodup_len (l:=l) (m:=m.erase x) hn'.2 fun y hy=>by
      have:y≠x:=fun e=>hn'.1 (e ▸ hy)
      exact (List.mem_erase_of_ne this).2 (h y (by simp [hy]))
    have:=List.length_erase_of_mem hx
    have hpos:0<m.length:=List.length_pos_of_mem hx
    simp only [List.length_cons]
    omega
theorem In.len {ids:List Int} {h:List Part} (k:In ids h):h.length≤ids.length:=by
  have h1:(h.map (·.lot)).Nodup:=by
    rw [List.Nodup,List.pairwise_map]
    exact k.rise.imp fun e=>by omega
  have:=nodup_len h1 (m:=ids) fun x hx=>by
    obtain ⟨p,hp,rfl⟩:=List.mem_map.1 hx
    exact k.ids p hp
  simpa using this
theorem In.heap {ids:List Int} {h:List Part} (k:In ids h) (hl:ids.length≤40) (hs:sumM h≤100000000):HeapOk h:=⟨by have:=k.len; omega,k.ok,k.rise,hs⟩
theorem merge_sum:∀(n:Nat) (a b:List Part),a.length + b.length≤n→sumM (mergeP a b)=sumM a + sumM b
  | _,[],b,_=>by rw [nil_merge]; simp [sumM]
  | _,p::a,[],_=>by rw [merge_nil]; simp [sumM]
  | 0,p::a,q::b,h=>by simp at h
  | n + 1,p::a,q::b,h=>by
    simp only [List.length_cons] at h
    rcases Int.lt_trichotomy p.lot q.lot with e | e | e
    · rw [merge_lt e]
      have:=merge_sum n a (q::b) (by simp only [List.length_cons]; omega)
      simp only [sumM,List.map_cons,List.sum_cons] at this ⊢
      omega
    · rw [merge_eq e]
      have:=merge_sum n a b (by omega)
      simp only [sumM,List.map_cons,List.sum_cons] at this ⊢
      omega
    · rw [merge_gt e]
      have:=merge_sum n (p::a) b (by simp only [List.length_cons]; omega)
      simp only [sumM,List.map_cons,List.sum_cons] at this ⊢
      omega
theorem merge_lots:∀(n:Nat) (a b:List Part),a.length + b.length≤n→∀x∈mergeP a b,(∃p∈a,p.lot=x.lot)∨(∃q∈b,q.lot=x.lot)
  | _,[],b,_,x,hx=>by rw [nil_merge] at hx; exact .inr ⟨x,hx,rfl⟩
  | _,p::a,[],_,x,hx=>by rw [merge_nil] at hx; exact .inl ⟨x,hx,rfl⟩
  | 0,p::a,q::b,h,_,_=>by simp at h
  | n + 1,p::a,q::b,h,x,hx=>by
    simp only [List.length_cons] at h
    rcases Int.lt_trichotomy p.lot q.lot with e | e | e
    · rw [merge_lt e] at hx
      rcases List.mem_cons.1 hx with rfl | hx
      · exact .inl ⟨x,by simp,rfl⟩
      · rcases merge_lots n a (q::b) (by simp only [List.length_cons]; omega) x hx with ⟨r,hr,k⟩ | k
        · exact .inl ⟨r,by simp [hr],k⟩
        · exact .inr k
    · rw [merge_eq e] at hx
      rcases List.mem_cons.1 hx with rfl | hx
      · exact .inl ⟨p,by simp,rfl⟩
      · rcases merge_lots n a b (by omega) x hx with ⟨r,hr,k⟩ | ⟨r,hr,k⟩
        · exact .inl ⟨r,by simp [hr],k⟩
        · exact .inr ⟨r,by simp [hr],k⟩
    · rw [merge_gt e] at hx
      rcases List.mem_cons.1 hx with rfl | hx
      · exact .inr ⟨x,by simp,rfl⟩
      · rcases merge_lots n (p::a) b (by simp only [List.length_cons]; omega) x hx with k | ⟨r,hr,k⟩
        · exact .inl k
        · exact .inr ⟨r,by simp [hr],k⟩
theorem merge_rise:∀(n:Nat) (a b:List Part),a.length + b.length≤n→(a.Pairwise fun x y=>x.lot<y.lot)→(b.Pairwise fun x y=>x.lot<y.lot)→(mergeP a b).Pairwise fun x y=>x.lot<y.lot
  | _,[],b,_,_,hb=>by rw [nil_merge]; exact hb
  | _,p::a,[],_,ha,_=>by rw [merge_nil]; exact ha
  | 0,p::a,q::b,h,_,_=>by simp at h
  | n + 1,p::a,q::b,h,ha,hb=>by
    simp only [List.length_cons] at h
    have ha':=List.pairwise_cons.1 ha
    have hb':=List.pairwise_cons.1 hb
    rcases Int.lt_trichotomy p.lot q.lot with e | e | e
    · rw [merge_lt e]
      refine List.pairwise_cons.2 ⟨fun x hx=>?_,merge_rise n a (q::b) (by simp only [List.length_cons]; omega) ha'.2 hb⟩
      rcases merge_lots _ a (q::b) (Nat.le_refl _) x hx with ⟨r,hr,k⟩ | ⟨r,hr,k⟩
      · have:=ha'.1 r hr; omega
      · rcases List.mem_cons.1 hr with rfl | hr
        · omega
        · have:=hb'.1 r hr; omega
    · rw [merge_eq e]
      refine List.pairwise_cons.2 ⟨fun x hx=>?_,merge_rise n a b (by omega) ha'.2 hb'.2⟩
      show p.lot<x.lot
      rcases merge_lots _ a b (Nat.le_refl _) x hx with ⟨r,hr,k⟩ | ⟨r,hr,k⟩
      · have:=ha'.1 r hr; omega
      · have:=hb'.1 r hr; omega
    · rw [merge_gt e]
      refine List.pairwise_cons.2 ⟨fun x hx=>?_,merge_rise n (p::a) b (by simp only [List.length_cons]; omega) ha hb'.2⟩
      rcases merge_lots _ (p::a) b (Nat.le_refl _) x hx with ⟨r,hr,k⟩ | ⟨r,hr,k⟩
      · rcases List.mem_cons.1 hr with rfl | hr
        · omega
        · have:=ha'.1 r hr; omega
      · have:=hb'.1 r hr; omega
theorem sumM_ge:∀ {h:List Part},(∀p∈h,1≤p.mass)→∀p∈h,p.mass≤sumM h
  | [],_,p,hp=>by cases hp
  | q::h,hk,p,hp=>by
    have h0:0≤sumM h:=by
      clear hp
      have:∀ {l:List Part},(∀p∈l,1≤p.mass)→0≤sumM l:=by
        intro l
        induction l with
        | nil=>intro _; simp [sumM]
        | cons x l ih=>intro h; have:=ih fun y hy=>h y (by simp [hy]); have:=h x (by simp); simp only [sumM,List.map_cons,List.sum_cons] at *; omega
      exact this fun y hy=>hk y (by simp [hy])
    have h1:=hk q (by simp)
    simp only [sumM,List.map_cons,List.sum_cons] at h0 ⊢
    rcases List.mem_cons.1 hp with rfl | hp
    · omega
    · have:=sumM_ge (h:=h) (fun y hy=>hk y (by simp [hy])) p hp
      simp only [sumM] at this
      omega
theorem merge_mass:∀(n:Nat) (a b:List Part),a.length + b.length≤n→(∀p∈a,1≤p.mass)→(∀p∈b,1≤p.mass)→∀x∈mergeP a b,1≤x.mass
  | _,[],b,_,_,hb,x,hx=>by rw [nil_merge] at hx; exact hb x hx
  | _,p::a,[],_,ha,_,x,hx=>by rw [merge_nil] at hx; exact ha x hx
  | 0,p::a,q::b,h,_,_,_,_=>by simp at h
  | n + 1,p::a,q::b,h,ha,hb,x,hx=>by
    simp only [List.length_cons] at h
    rcases Int.lt_trichotomy p.lot q.lot with e | e | e
    · rw [merge_lt e] at hx
      rcases List.mem_cons.1 hx with rfl | hx
      · exact ha x (by simp)
      · exact merge_mass n a (q::b) (by simp only [List.length_cons]; omega) (fun y hy=>ha y (by simp [hy])) hb x hx
    · rw [merge_eq e] at hx
      rcases List.mem_cons.1 hx with rfl | hx
      · have:=ha p (by simp); have:=hb q (by simp)
        show 1≤p.mass + q.mass
        omega
      · exact merge_mass n a b (by omega) (fun y hy=>ha y (by simp [hy])) (fun y hy=>hb y (by simp [hy])) x hx
    · rw [merge_gt e] at hx
      rcases List.mem_cons.1 hx with rfl | hx
      · exact hb x (by simp)
      · exact merge_mass n (p::a) b (by simp only [List.length_cons]; omega) ha (fun y hy=>hb y (by simp [hy])) x hx
theorem In.merge {ids:List Int} {a b:List Part} (ha:In ids a) (hb:In ids b) (hs:sumM a + sumM b≤100000000):In ids (mergeP a b):=by
  have hm:=merge_mass _ a b (Nat.le_refl _) (fun p hp=>(ha.ok p hp).m0) (fun p hp=>(hb.ok p hp).m0)
  refine ⟨fun x hx=>?_,merge_rise _ a b (Nat.le_refl _) ha.rise hb.rise,fun x hx=>?_⟩
  · have h1:=sumM_ge hm x hx
    rw [merge_sum _ a b (Nat.le_refl _)] at h1
    have h2:=hm x hx
    rcases merge_lots _ a b (Nat.le_refl _) x hx with ⟨r,hr,k⟩ | ⟨r,hr,k⟩
    · have:=ha.ok r hr
      exact ⟨by have:=this.l0; omega,by have:=this.l1; omega,h2,by omega⟩
    · have:=hb.ok r hr
      exact ⟨by have:=this.l0; omega,by have:=this.l1; omega,h2,by omega⟩
  · rcases merge_lots _ a b (Nat.le_refl _) x hx with ⟨r,hr,k⟩ | ⟨r,hr,k⟩
    · rw [← k]; exact ha.ids r hr
    · rw [← k]; exact hb.ids r hr
end Go.Proofs.YtlmgjjmighajdaaGreat
