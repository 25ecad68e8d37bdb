/-
  A part of the walk and of the plain law of one given statement. No condition.
-/
import Derived.Test.YtlmgjjmighajdaaGreatM6
set_option linter.unusedVariables false
namespace Go.Proofs.YtlmgjjmighajdaaGreat
open Go.Sl Go.Sx
def F29_j2 (k1:(List Trail)→(List Lot)→(List (List (List Part)))→Int→Option (List Trail×Int)) (y1:Int) (y2:List Lot) (y3:List (List (List Part))) (y4:List Trail):Option (List Trail×Int) :=
  (k1 y4 y2 y3 (w64 (y1 + (1:Int))))
def F29_j1 (fuel:Nat) (k1:(List Trail)→(List Lot)→(List (List (List Part)))→Int→Option (List Trail×Int)) (x2:Int) (y5:List Trail) (y1:Int) (y2:List Lot) (y3:List (List (List Part))) (y6:List Part):Option (List Trail×Int) :=
  ((F65 fuel y6 x2).bind fun r1=>(cond (decide (r1 > (0:Int))) ((appC y5 ([⟨y1,r1⟩])).bind fun d1=>(F29_j2 k1 y1 y2 y3 d1)) (F29_j2 k1 y1 y2 y3 y5)))
def F29_l1 (fuel:Nat) (x1:List Deed) (x2:Int):Nat→(List Trail)→(List Lot)→(List (List (List Part)))→Int→Option (List Trail×Int)
  | 0,_,_,_,_=>none
  | n1 + 1,y5,y7,y8,y1 =>
    let k1:(List Trail)→(List Lot)→(List (List (List Part)))→Int→Option (List Trail×Int):=F29_l1 fuel x1 x2 n1
    (cond (decide (y1<(x1.length:Int))) ((getI x1 y1).bind fun p1=>((F22 fuel y7 y8 p1.kind p1.lot p1.frm p1.to p1.mass).bind fun r2=>(F29_j1 fuel k1 x2 y5 y1 r2.1 r2.2.1 r2.2.2.1))) (some (y5,0)))
def F29 (fuel:Nat) (x0:List Lot) (x1:List Deed) (x2:Int):Option (List Trail×Int) :=
  ((F7 fuel x0 x1).bind fun r3=>(cond (r3.2.2.2 != (0:Int)) (some ([],r3.2.2.2)) ((F64 fuel x0 x2).bind fun r4=>(cond (decide (r4<(0:Int))) (some ([],60)) ((appC ([]) x0).bind fun d2=>(F29_l1 fuel x1 x2 fuel ([]) d2 ([[],[],[],[],[],[],[],[],[]]) 0))))))
set_option maxRecDepth 100000 in
theorem f29_ok (fuel:Nat) (x0:List Lot) (x1:List Deed) (x2:Int) (r:List Trail×Int) (hr:F29 fuel x0 x1 x2=some r) (h:Zone) (L:List Atom) (w:World) (hS:St h L w) (o_x0:Option Addr) (c_x0:Nat) (hx_x0:SliceR LotT h o_x0 c_x0 x0) (o_x1:Option Addr) (c_x1:Nat) (hx_x1:SliceR DeedT h o_x1 c_x1 x1) :
    Calls Tryz.prog 29 #[.slice o_x0 x0.length c_x0, .slice o_x1 x1.length c_x1,vI x2] w fun e w'=>∃v,e= .returned v∧(∃h',∃o0:Option Addr,∃c0:Nat,Zone.le h h'∧v= .tuple #[.slice o0 r.1.length c0,vI r.2]∧St h' L w'∧SliceR TrailT h' o0 c0 r.1):=by
 refine calls_intro (N:=65) Tryz.func29 (by kernel_rfl) fun a hf=>?_
 refine c_sq [] [0,1,2] hf .nil fun g f=>?_
 refine c_sr (c_n 2 [] [0,1,2,19,20] f .nil fun f g=>?_)
 obtain ⟨r3,f,K⟩:=bind_some hr
 refine c_call g (f7_ok fuel x0 x1 r3 f h _ _ hS o_x0 c_x0 hx_x0 o_x1 c_x1 hx_x1) ?_
 rintro g k l ⟨t,e1,q1,v2,v3,v4,v5,v6,v7,v8,v9,am,k2,rfl,o,p,q⟩ f
 refine tv ?_
 refine c_n 4 [] [0,1,2,22,23,24] f .nil fun g f=>?_
 refine c_box [N0,N0,N0,N0,N0,N0,N0,N0,N0,N0] 29 o f fun b1 f l g k=>tv ?_
 have f:=oneCells_of (Ty.one _ (Ty.mono _ zr q))
 refine p_store_eq (i:=8) (j:=0) (b:=b1) (off:=0) (vs:=[.slice e1 r3.1.length q1,v2,v3,v4,v5,v6,v7,v8,v9,am]) (cs':=[.slice e1 r3.1.length q1,v2,v3,v4,v5,v6,v7,v8,v9,am]) g k rfl (by kernel_rfl) f rfl fun g k o f=>tv ?_
 refine c_t [] [0,1,2,10] f .nil fun g f=>?_
 refine c_seq (c_sq [] [0,1,2,10,26] f .nil fun f k=>(c_if (r3.2.2.2 != (0:Int)) k (fun g=>?_) (fun g=>?_)))
 ·have m:=cond_t g K
  refine c_sq [] [6,7] k .nil fun l f=>?_
  refine c_ret (r_then (c_rt [] (.tuple #[N0,vI r3.2.2.2]) f .nil ?_))
  obtain rfl:=some_eq m
  exact ⟨_,rfl,t,none,0,k2,rfl,(St.drop 1 o),SliceR.nil' _ _⟩
 ·have m:=cond_f g K
  refine c_skip (n_then (c_seq (c_sr (c_n 2 [] [0,1,2,28,29] k .nil fun f g=>?_))))
  obtain ⟨k,f,K⟩:=bind_some m
  refine c_call g (f64_ok fuel x0 x2 k f t _ _ o o_x0 c_x0 (SliceR.mono k2 hx_x0)) ?_
  rintro g l o ⟨q,k3,rfl,p⟩ f
  refine tv ?_
  refine c_t [] [0,1,2,31] f .nil fun f l=>?_
  refine c_if (decide (k<(0:Int))) l (fun g=>?_) (fun g=>?_)
  ·have m:=cond_t g K
   refine c_sq [] [6,7] l .nil fun k f=>?_
   refine c_ret (r_then (c_rt [] (.tuple #[N0,vI 60]) f .nil ?_))
   obtain rfl:=some_eq m
   exact ⟨_,rfl,q,none,0,(zt k2 k3),rfl,(St.drop 1 p),SliceR.nil' _ _⟩
  ·have m:=cond_f g K
   refine c_skip (n_then (c_sr (p_box (i:=0) (d:=(some 32)) (cs:=[]) (T:=43) (v:=fun f=> .slice (some ⟨f,0,none⟩) 0 0) p l (fun b=>by kernel_rfl) fun f l o g k=>tv ?_)))
   have f:=g.ownBox (T:=LotT) (E:=43) (n:=0) (xs:=[]) (i:=0) rfl rfl rfl (by decide)
   refine c_n 1 [] [1,2,32,33] k .nil fun g k=>?_
   obtain ⟨t,g,m⟩:=bind_some m
   refine p_append (T:=LotT) (i:=2) (j:=0) (d:=some 34) (o2:=o_x0) (c2:=c_x0) (ys:=x0) el22 f k rfl (by kernel_rfl) (SliceR.src (SliceR.mono (zt k2 k3) hx_x0) f) g fun p q k l g f=>tv ?_
   refine c_n 1 [] [1,2,35] f .nil fun k f=>?_
   refine c_box [N0,N0,N0,N0,N0,N0,N0,N0,N0,N0] 29 g f fun Y k l f g=>tv ?_
   refine c_st 0 [.slice p t.length q,N0,N0,N0,N0,N0,N0,N0,N0,N0] f g rfl fun k l g f=>tv ?_
   refine c_dt (c_sq [] [1,2,11,12] f .nil fun k f=>(c_seq (c_sq [] [1,2,11,12,13] f .nil fun l o=>(c_block 0 ?_))))
   obtain ⟨f,k4,g,k⟩:=g.share (j:=1) rfl
   have g:=g.ownNil TrailT 120
   refine c_loop (fun n a w=>∃z4:Zone,∃V:List Trail,∃y7:List Lot,∃y8:List (List (List Part)),∃U:Int,∃W:Option Addr,∃X:Nat,∃e4:Option Addr,∃q4:Nat,∃a0:Value,∃a1:Value,∃a2:Value,∃a3:Value,∃a4:Value,∃a5:Value,∃a6:Value,∃a7:Value,∃a8:Value,Zone.le f z4∧Fr a 65 [(1, .slice o_x1 x1.length c_x1),(2,vI x2),(11,pB Y 0),(12, .slice W V.length X),(13,vI U)]∧St z4 (ownS TrailT 120 W X V::box Y [.slice e4 y7.length q4,a0,a1,a2,a3,a4,a5,a6,a7,a8] 29::emp::box b1 [.slice e1 r3.1.length q1,v2,v3,v4,v5,v6,v7,v8,v9,am] 29::L) w∧SliceR LotT z4 e4 q4 y7∧(Ty.arr 9 (Ty.slice (Ty.slice PartT))).rep z4 [a0,a1,a2,a3,a4,a5,a6,a7,a8] y8∧(F29_l1 fuel x1 x2 n V y7 y8 U)=some r) fuel ⟨f,[],t,[[],[],[],[],[],[],[],[],[]],0,none,0,p,q,(N0),(N0),(N0),(N0),(N0),(N0),(N0),(N0),(N0),zr,o.to,g,k,⟨rfl,(Rows.cons (c:=[_]) (sliceRep (SliceR.nil' _ _)) (Rows.cons (c:=[_]) (sliceRep (SliceR.nil' _ _)) (Rows.cons (c:=[_]) (sliceRep (SliceR.nil' _ _)) (Rows.cons (c:=[_]) (sliceRep (SliceR.nil' _ _)) (Rows.cons (c:=[_]) (sliceRep (SliceR.nil' _ _)) (Rows.cons (c:=[_]) (sliceRep (SliceR.nil' _ _)) (Rows.cons (c:=[_]) (sliceRep (SliceR.nil' _ _)) (Rows.cons (c:=[_]) (sliceRep (SliceR.nil' _ _)) (Rows.cons (c:=[_]) (sliceRep (SliceR.nil' _ _)) rfl)))))))))⟩,m⟩ ?_
   rintro f g k ⟨z4,V,y7,y8,U,W,X,e4,q4,a0,a1,a2,a3,a4,a5,a6,a7,a8,k5,l,aq,aj,ak,ap⟩
   cases f with
   | zero=>cases ap
   | succ n1 =>
   refine c_seq (c_sq [] [1,2,11,12,13,39] l .nil fun f ao=>(c_if (decide (U<(x1.length:Int))) ao (fun an=>?_) (fun an=>?_)))
   ·have m:=cond_t an ap
    refine c_skip (n_then (c_seq (c_block 1 (c_mid (fun a w=>∃z5:Zone,∃y2:List Lot,∃y3:List (List (List Part)),∃y6:List Part,∃b4:Nat,∃b5:Nat,∃e5:Option Addr,∃q5:Nat,∃a9:Value,∃aa:Value,∃ab:Value,∃ac:Value,∃ad:Value,∃ae:Value,∃af:Value,∃ag:Value,∃ah:Value,∃e6:Option Addr,∃q6:Nat,Zone.le z4 z5∧Fr a 65 [(1, .slice o_x1 x1.length c_x1),(2,vI x2),(11,pB Y 0),(12, .slice W V.length X),(13,vI U),(14,pB b4 0),(15,pB b5 0)]∧St z5 (box b4 [.slice e5 y2.length q5,a9,aa,ab,ac,ad,ae,af,ag,ah] 29::box b5 [.slice e6 y6.length q6] 49::ownS TrailT 120 W X V::box Y [.slice e4 y7.length q4,a0,a1,a2,a3,a4,a5,a6,a7,a8] 29::emp::box b1 [.slice e1 r3.1.length q1,v2,v3,v4,v5,v6,v7,v8,v9,am] 29::L) w∧SliceR LotT z5 e5 q5 y2∧(Ty.arr 9 (Ty.slice (Ty.slice PartT))).rep z5 [a9,aa,ab,ac,ad,ae,af,ag,ah] y3∧SliceR PartT z5 e6 q6 y6∧(F29_j1 fuel (F29_l1 fuel x1 x2 n1) x2 V U y2 y3 y6)=some r) ?_ ?_))))
    ·skip
     have ai:=aq.drew
     have o:=Sub.of zr ai
     refine w_regB (by kernel_rfl) [5,12,13] (Sub z4 (ownS TrailT 120 W X V::box Y [.slice e4 y7.length q4,a0,a1,a2,a3,a4,a5,a6,a7,a8] 29::emp::box b1 [.slice e1 r3.1.length q1,v2,v3,v4,v5,v6,v7,v8,v9,am] 29::L)) (by kernel_rfl) ?_
     refine k_seg' 10 [(0,true),(1,true),(2,true),(3,true),(4,true)] (by kernel_rfl) (by kernel_rfl) (At.start o) (by kernel_rfl) ?_
     obtain ⟨J,f,K⟩:=bind_some m
     obtain ⟨g,k,l,p,rfl,f⟩:=SliceR.getI (SliceR.mono (zt (zt (zt k2 k3) k4) k5) hx_x1) f
     refine c_S 5 [.slice e4 y7.length q4,a0,a1,a2,a3,a4,a5,a6,a7,a8, .pointer (some g),vI J.kind,vI J.lot,vI J.frm,vI J.to,vI J.mass] [1,2,11,12,13,43,47] o ao (fun _ s=>(.cell (s.bx 1 0 rfl rfl) (.cell (s.bx 1 1 rfl rfl) (.cell (s.bx 1 2 rfl rfl) (.cell (s.bx 1 3 rfl rfl) (.cell (s.bx 1 4 rfl rfl) (.cell (s.bx 1 5 rfl rfl) (.cell (s.bx 1 6 rfl rfl) (.cell (s.bx 1 7 rfl rfl) (.cell (s.bx 1 8 rfl rfl) (.cell (s.bx 1 9 rfl rfl) (.prop k (.prop l (.cell (s.cell (f 0 _ rfl)) (.cell (s.cell (f 1 _ rfl)) (.cell (s.cell (f 2 _ rfl)) (.cell (s.cell (f 3 _ rfl)) (.cell (s.cell (f 4 _ rfl)) .nil)))))))))))))))))) .nil fun f al=>?_
     refine c_done ?_
     intro f
     refine k_any' 9 [5,10,11] (by kernel_rfl) f (by kernel_rfl) (by kernel_rfl) ?_
     refine (all_cons ?_ (all_cons ?_ (all_cons ?_ all_nil)))
     ·skip
      obtain ⟨k,f,m⟩:=bind_some K
      refine c_call al (f22_ok fuel y7 y8 J.kind J.lot J.frm J.to J.mass k f z4 _ _ ai e4 q4 aj a0 a1 a2 a3 a4 a5 a6 a7 a8 (Ty.mono _ zr ak)) ?_
      rintro f g l ⟨R,u,x,y,z,A,B,C,D,F,G,H,I,M,t,rfl,Q,S,P,Z⟩ o
      refine ⟨fun e=>absurd e (by decide),?_⟩
      refine c_done ?_
      intro f
      refine k_seg' 5 [(6,true),(7,true),(8,true),(9,true)] (by kernel_rfl) (by kernel_rfl) f (by kernel_rfl) ?_
      refine p_qP 4 [] [(1, .slice o_x1 x1.length c_x1),(2,vI x2),(11,pB Y 0),(12, .slice W V.length X),(13,vI U),(49, .agg #[.slice u k.1.length x,y,z,A,B,C,D,F,G,H]),(50, .agg #[.slice I k.2.2.1.length M]),(51,vI k.2.2.2)] [] o (by kernel_rfl) (fun _=> .nil) fun f O=>?_
      refine c_done ?_
      intro f
      refine k_any' 4 [10,11] (by kernel_rfl) f (by kernel_rfl) (by kernel_rfl) ?_
      refine (all_cons ?_ (all_cons ?_ all_nil))
      ·skip
       refine c_box [N0,N0,N0,N0,N0,N0,N0,N0,N0,N0] 29 Q O fun p f l g o=>⟨fun _=>Sub.of t (St.drop 1 g),?_⟩
       refine c_done ?_
       intro f
       refine k_seg' 0 [(11,false),(12,false),(13,false),(14,true)] (by kernel_rfl) (by kernel_rfl) f (by kernel_rfl) ?_
       refine c_box [N0] 49 g o fun q g l f o=>⟨fun _=>Sub.of t (St.drop 2 f),?_⟩
       have g:=Sub.of t (St.drop 2 f)
       have g:=oneCells_of (Ty.one _ (Ty.mono _ zr P))
       refine p_store_eq (i:=12) (j:=1) (b:=p) (off:=0) (vs:=[.slice u k.1.length x,y,z,A,B,C,D,F,G,H]) (cs':=[.slice u k.1.length x,y,z,A,B,C,D,F,G,H]) f o rfl (by kernel_rfl) g rfl fun l o f g=>⟨fun e=>absurd e (by decide),?_⟩
       refine c_st 0 [.slice I k.2.2.1.length M] f g rfl fun g l o f=>⟨fun e=>absurd e (by decide),?_⟩
       refine p_qP 1 [] [(1, .slice o_x1 x1.length c_x1),(2,vI x2),(11,pB Y 0),(12, .slice W V.length X),(13,vI U),(14,pB p 0),(15,pB q 0)] [] f (by kernel_rfl) (fun _=> .nil) fun f g=>?_
       refine c_done ?_
       intro f
       refine k_done' (by kernel_rfl) (by kernel_rfl) ?_
       refine n_then ?_
       exact ⟨R,k.1,k.2.1,k.2.2.1,p,q,u,x,y,z,A,B,C,D,F,G,H,I,M,t,g.to,(St.pick 2 [1,0] o (by kernel_rfl)),S,(Ty.mono _ zr P),Z,m⟩
      ·skip
       refine c_box [N0] 49 Q O fun q f l g o=>⟨fun _=>Sub.of t (St.drop 1 g),?_⟩
       refine c_done ?_
       intro f
       refine k_seg' 0 [(10,false),(12,false),(13,false),(14,true)] (by kernel_rfl) (by kernel_rfl) f (by kernel_rfl) ?_
       refine c_box [N0,N0,N0,N0,N0,N0,N0,N0,N0,N0] 29 g o fun p g l f o=>⟨fun _=>Sub.of t (St.drop 2 f),?_⟩
       have g:=Sub.of t (St.drop 2 f)
       have g:=oneCells_of (Ty.one _ (Ty.mono _ zr P))
       refine p_store_eq (i:=12) (j:=0) (b:=p) (off:=0) (vs:=[.slice u k.1.length x,y,z,A,B,C,D,F,G,H]) (cs':=[.slice u k.1.length x,y,z,A,B,C,D,F,G,H]) f o rfl (by kernel_rfl) g rfl fun l o f g=>⟨fun e=>absurd e (by decide),?_⟩
       refine c_st 1 [.slice I k.2.2.1.length M] f g rfl fun g l o f=>⟨fun e=>absurd e (by decide),?_⟩
       refine p_qP 1 [] [(1, .slice o_x1 x1.length c_x1),(2,vI x2),(11,pB Y 0),(12, .slice W V.length X),(13,vI U),(14,pB p 0),(15,pB q 0)] [] f (by kernel_rfl) (fun _=> .nil) fun f g=>?_
       refine c_done ?_
       intro f
       refine k_done' (by kernel_rfl) (by kernel_rfl) ?_
       refine n_then ?_
       exact ⟨R,k.1,k.2.1,k.2.2.1,p,q,u,x,y,z,A,B,C,D,F,G,H,I,M,t,g.to,(St.pick 2 [0,1] o (by kernel_rfl)),S,(Ty.mono _ zr P),Z,m⟩
     ·skip
      refine c_box [N0,N0,N0,N0,N0,N0,N0,N0,N0,N0] 29 ai al fun O f g P Z=>⟨fun _=>Sub.of zr (St.drop 1 P),?_⟩
      refine c_done ?_
      intro f
      have g:=Sub.of zr (St.drop 1 P)
      refine k_seg' 9 [] (by kernel_rfl) (by kernel_rfl) f (by kernel_rfl) ?_
      refine c_done ?_
      intro f
      refine k_any' 8 [5,11] (by kernel_rfl) f (by kernel_rfl) (by kernel_rfl) ?_
      refine (all_cons ?_ (all_cons ?_ all_nil))
      ·skip
       obtain ⟨g,f,m⟩:=bind_some K
       refine c_call Z (f22_ok fuel y7 y8 J.kind J.lot J.frm J.to J.mass g f z4 _ _ P e4 q4 aj a0 a1 a2 a3 a4 a5 a6 a7 a8 (Ty.mono _ zr ak)) ?_
       rintro f k l ⟨Q,p,q,t,u,x,y,z,A,B,C,D,G,H,I,rfl,F,R,M,S⟩ o
       refine ⟨fun e=>absurd e (by decide),?_⟩
       refine c_done ?_
       intro f
       refine k_seg' 0 [(6,true),(7,true),(8,true),(9,true),(11,false),(12,false),(13,false),(14,true)] (by kernel_rfl) (by kernel_rfl) f (by kernel_rfl) ?_
       refine p_qP 4 [] [(1, .slice o_x1 x1.length c_x1),(2,vI x2),(11,pB Y 0),(12, .slice W V.length X),(13,vI U),(14,pB O 0),(49, .agg #[.slice p g.1.length q,t,u,x,y,z,A,B,C,D]),(50, .agg #[.slice G g.2.2.1.length H]),(51,vI g.2.2.2)] [] o (by kernel_rfl) (fun _=> .nil) fun k f=>?_
       refine c_box [N0] 49 F f fun F k l f o=>⟨fun _=>Sub.of I (St.drop 2 f),?_⟩
       have k:=Sub.of I (St.drop 2 f)
       have k:=oneCells_of (Ty.one _ (Ty.mono _ zr M))
       refine p_store_eq (i:=12) (j:=1) (b:=O) (off:=0) (vs:=[.slice p g.1.length q,t,u,x,y,z,A,B,C,D]) (cs':=[.slice p g.1.length q,t,u,x,y,z,A,B,C,D]) f o rfl (by kernel_rfl) k rfl fun l o f k=>⟨fun e=>absurd e (by decide),?_⟩
       refine c_st 0 [.slice G g.2.2.1.length H] f k rfl fun k l o f=>⟨fun e=>absurd e (by decide),?_⟩
       refine p_qP 1 [] [(1, .slice o_x1 x1.length c_x1),(2,vI x2),(11,pB Y 0),(12, .slice W V.length X),(13,vI U),(14,pB O 0),(15,pB F 0)] [] f (by kernel_rfl) (fun _=> .nil) fun f k=>?_
       refine c_done ?_
       intro f
       refine k_done' (by kernel_rfl) (by kernel_rfl) ?_
       refine n_then ?_
       exact ⟨Q,g.1,g.2.1,g.2.2.1,O,F,p,q,t,u,x,y,z,A,B,C,D,G,H,I,k.to,(St.pick 2 [1,0] o (by kernel_rfl)),R,(Ty.mono _ zr M),S,m⟩
      ·skip
       refine c_box [N0] 49 P Z fun M f g k l=>⟨fun _=>Sub.of zr (St.drop 2 k),?_⟩
       refine c_done ?_
       intro f
       have g:=Sub.of zr (St.drop 2 k)
       refine k_seg' 0 [(5,false),(6,true),(7,true),(8,true),(9,true),(12,false),(13,false),(14,true)] (by kernel_rfl) (by kernel_rfl) f (by kernel_rfl) ?_
       obtain ⟨f,g,m⟩:=bind_some K
       refine c_call l (f22_ok fuel y7 y8 J.kind J.lot J.frm J.to J.mass f g z4 _ _ k e4 q4 aj a0 a1 a2 a3 a4 a5 a6 a7 a8 (Ty.mono _ zr ak)) ?_
       rintro k C D ⟨P,l,o,p,q,t,u,x,y,z,A,B,F,G,Q,rfl,H,R,I,S⟩ g
       refine ⟨fun e=>absurd e (by decide),?_⟩
       refine p_qP 4 [] [(1, .slice o_x1 x1.length c_x1),(2,vI x2),(11,pB Y 0),(12, .slice W V.length X),(13,vI U),(14,pB O 0),(15,pB M 0),(49, .agg #[.slice l f.1.length o,p,q,t,u,x,y,z,A,B]),(50, .agg #[.slice F f.2.2.1.length G]),(51,vI f.2.2.2)] [] g (by kernel_rfl) (fun _=> .nil) fun g k=>?_
       have g:=oneCells_of (Ty.one _ (Ty.mono _ zr I))
       refine p_store_eq (i:=12) (j:=1) (b:=O) (off:=0) (vs:=[.slice l f.1.length o,p,q,t,u,x,y,z,A,B]) (cs':=[.slice l f.1.length o,p,q,t,u,x,y,z,A,B]) H k rfl (by kernel_rfl) g rfl fun C D g k=>⟨fun e=>absurd e (by decide),?_⟩
       refine c_st 0 [.slice F f.2.2.1.length G] g k rfl fun k C D g=>⟨fun e=>absurd e (by decide),?_⟩
       refine p_qP 1 [] [(1, .slice o_x1 x1.length c_x1),(2,vI x2),(11,pB Y 0),(12, .slice W V.length X),(13,vI U),(14,pB O 0),(15,pB M 0)] [] g (by kernel_rfl) (fun _=> .nil) fun g k=>?_
       refine c_done ?_
       intro g
       refine k_done' (by kernel_rfl) (by kernel_rfl) ?_
       refine n_then ?_
       exact ⟨P,f.1,f.2.1,f.2.2.1,O,M,l,o,p,q,t,u,x,y,z,A,B,F,G,Q,k.to,(St.pick 2 [1,0] D (by kernel_rfl)),R,(Ty.mono _ zr I),S,m⟩
     ·skip
      refine c_box [N0] 49 ai al fun R f g O Z=>⟨fun _=>Sub.of zr (St.drop 1 O),?_⟩
      refine c_done ?_
      intro f
      have g:=Sub.of zr (St.drop 1 O)
      refine k_seg' 9 [] (by kernel_rfl) (by kernel_rfl) f (by kernel_rfl) ?_
      refine c_done ?_
      intro f
      refine k_any' 8 [5,10] (by kernel_rfl) f (by kernel_rfl) (by kernel_rfl) ?_
      refine (all_cons ?_ (all_cons ?_ all_nil))
      ·skip
       obtain ⟨g,f,m⟩:=bind_some K
       refine c_call Z (f22_ok fuel y7 y8 J.kind J.lot J.frm J.to J.mass g f z4 _ _ O e4 q4 aj a0 a1 a2 a3 a4 a5 a6 a7 a8 (Ty.mono _ zr ak)) ?_
       rintro f k l ⟨P,q,t,u,x,y,z,A,B,C,D,F,G,H,I,rfl,p,Q,M,S⟩ o
       refine ⟨fun e=>absurd e (by decide),?_⟩
       refine c_done ?_
       intro f
       refine k_seg' 0 [(6,true),(7,true),(8,true),(9,true),(10,false),(12,false),(13,false),(14,true)] (by kernel_rfl) (by kernel_rfl) f (by kernel_rfl) ?_
       refine p_qP 4 [] [(1, .slice o_x1 x1.length c_x1),(2,vI x2),(11,pB Y 0),(12, .slice W V.length X),(13,vI U),(15,pB R 0),(49, .agg #[.slice q g.1.length t,u,x,y,z,A,B,C,D,F]),(50, .agg #[.slice G g.2.2.1.length H]),(51,vI g.2.2.2)] [] o (by kernel_rfl) (fun _=> .nil) fun k f=>?_
       refine c_box [N0,N0,N0,N0,N0,N0,N0,N0,N0,N0] 29 p f fun p k l f o=>⟨fun _=>Sub.of I (St.drop 2 f),?_⟩
       have k:=Sub.of I (St.drop 2 f)
       have k:=oneCells_of (Ty.one _ (Ty.mono _ zr M))
       refine p_store_eq (i:=12) (j:=0) (b:=p) (off:=0) (vs:=[.slice q g.1.length t,u,x,y,z,A,B,C,D,F]) (cs':=[.slice q g.1.length t,u,x,y,z,A,B,C,D,F]) f o rfl (by kernel_rfl) k rfl fun l o f k=>⟨fun e=>absurd e (by decide),?_⟩
       refine c_st 1 [.slice G g.2.2.1.length H] f k rfl fun k l o f=>⟨fun e=>absurd e (by decide),?_⟩
       refine p_qP 1 [] [(1, .slice o_x1 x1.length c_x1),(2,vI x2),(11,pB Y 0),(12, .slice W V.length X),(13,vI U),(14,pB p 0),(15,pB R 0)] [] f (by kernel_rfl) (fun _=> .nil) fun f k=>?_
       refine c_done ?_
       intro f
       refine k_done' (by kernel_rfl) (by kernel_rfl) ?_
       refine n_then ?_
       exact ⟨P,g.1,g.2.1,g.2.2.1,p,R,q,t,u,x,y,z,A,B,C,D,F,G,H,I,k.to,(St.pick 2 [0,1] o (by kernel_rfl)),Q,(Ty.mono _ zr M),S,m⟩
      ·skip
       refine c_box [N0,N0,N0,N0,N0,N0,N0,N0,N0,N0] 29 O Z fun I f g k l=>⟨fun _=>Sub.of zr (St.drop 2 k),?_⟩
       refine c_done ?_
       intro f
       have g:=Sub.of zr (St.drop 2 k)
       refine k_seg' 0 [(5,false),(6,true),(7,true),(8,true),(9,true),(12,false),(13,false),(14,true)] (by kernel_rfl) (by kernel_rfl) f (by kernel_rfl) ?_
       obtain ⟨f,g,m⟩:=bind_some K
       refine c_call l (f22_ok fuel y7 y8 J.kind J.lot J.frm J.to J.mass f g z4 _ _ k e4 q4 aj a0 a1 a2 a3 a4 a5 a6 a7 a8 (Ty.mono _ zr ak)) ?_
       rintro k C D ⟨M,l,o,p,q,t,u,x,y,z,A,B,F,G,O,rfl,H,P,J,Q⟩ g
       refine ⟨fun e=>absurd e (by decide),?_⟩
       refine p_qP 4 [] [(1, .slice o_x1 x1.length c_x1),(2,vI x2),(11,pB Y 0),(12, .slice W V.length X),(13,vI U),(14,pB I 0),(15,pB R 0),(49, .agg #[.slice l f.1.length o,p,q,t,u,x,y,z,A,B]),(50, .agg #[.slice F f.2.2.1.length G]),(51,vI f.2.2.2)] [] g (by kernel_rfl) (fun _=> .nil) fun g k=>?_
       have g:=oneCells_of (Ty.one _ (Ty.mono _ zr J))
       refine p_store_eq (i:=12) (j:=0) (b:=I) (off:=0) (vs:=[.slice l f.1.length o,p,q,t,u,x,y,z,A,B]) (cs':=[.slice l f.1.length o,p,q,t,u,x,y,z,A,B]) H k rfl (by kernel_rfl) g rfl fun C D g k=>⟨fun e=>absurd e (by decide),?_⟩
       refine c_st 1 [.slice F f.2.2.1.length G] g k rfl fun k C D g=>⟨fun e=>absurd e (by decide),?_⟩
       refine p_qP 1 [] [(1, .slice o_x1 x1.length c_x1),(2,vI x2),(11,pB Y 0),(12, .slice W V.length X),(13,vI U),(14,pB I 0),(15,pB R 0)] [] g (by kernel_rfl) (fun _=> .nil) fun g k=>?_
       refine c_done ?_
       intro g
       refine k_done' (by kernel_rfl) (by kernel_rfl) ?_
       refine n_then ?_
       exact ⟨M,f.1,f.2.1,f.2.2.1,I,R,l,o,p,q,t,u,x,y,z,A,B,F,G,O,k.to,(St.pick 2 [0,1] D (by kernel_rfl)),P,(Ty.mono _ zr J),Q,m⟩
    ·rintro k l ⟨z5,y2,y3,y6,b4,b5,e5,q5,a9,aa,ab,ac,ad,ae,af,ag,ah,e6,q6,H,f,g,I,G,o,m⟩
     refine c_sr (c_n 2 [.slice e6 y6.length q6] [1,2,11,12,13,14,52,53] f (.cell (g.bx 1 0 rfl rfl) .nil) fun f k=>?_)
     obtain ⟨l,f,K⟩:=bind_some m
     refine c_call k (f65_ok fuel y6 x2 l f z5 _ _ g e6 q6 o) ?_
     rintro g k o ⟨C,D,rfl,F⟩ f
     refine tv ?_
     refine c_t [] [1,2,11,12,13,14,17] f .nil fun f g=>?_
     refine c_mid (fun a w=>∃z:Zone,∃y:List Trail,∃A:Option Addr,∃B:Nat,Zone.le C z∧Fr a 65 [(1, .slice o_x1 x1.length c_x1),(2,vI x2),(11,pB Y 0),(12, .slice A y.length B),(13,vI U),(14,pB b4 0)]∧St z (box b4 [.slice e5 y2.length q5,a9,aa,ab,ac,ad,ae,af,ag,ah] 29::box b5 [.slice e6 y6.length q6] 49::ownS TrailT 120 A B y::box Y [.slice e4 y7.length q4,a0,a1,a2,a3,a4,a5,a6,a7,a8] 29::emp::box b1 [.slice e1 r3.1.length q1,v2,v3,v4,v5,v6,v7,v8,v9,am] 29::L) w∧(F29_j2 (F29_l1 fuel x1 x2 n1) U y2 y3 y)=some r) ?_ ?_
     ·skip
      refine c_sq [] [1,2,11,12,13,14,17,56] g .nil fun f x=>?_
      refine c_if (decide (l > (0:Int))) x (fun o=>?_) (fun o=>?_)
      ·have m:=cond_t o K
       refine c_reg (c_n 4 [] [1,2,11,13,14,57,60] x .nil fun p f=>(p_box (i:=4) (d:=(some 61)) (cs:=[vI U,vI l]) (T:=120) (v:=fun g=> .slice (some ⟨g,0,none⟩) 1 1) F f (fun b=>by kernel_rfl) fun g q t k u=>tv ?_))
       have f:=k.ownBox (T:=TrailT) (E:=120) (n:=1) (xs:=[⟨U,l⟩]) (i:=0) rfl (Rows.cons (c:=[vI U,vI l]) rfl rfl) rfl (by decide)
       obtain ⟨p,k,m⟩:=bind_some m
       refine p_append (T:=TrailT) (i:=5) (j:=3) (d:=some 62) (o2:=(some ⟨g,0,none⟩)) (c2:=1) (ys:=([⟨U,l⟩])) el81 f u rfl (by kernel_rfl) (f.ownSrc (j:=0) rfl) k fun g k q t l f=>tv ?_
       refine c_t [] [1,2,11,12,13,14] f .nil fun q f=>?_
       exact ⟨C,p,g,k,zr,f.to,(St.drop 1 l),m⟩
      ·have m:=cond_f o K
       refine c_skip (n_then ?_)
       exact ⟨C,V,W,X,zr,x.to,F,m⟩
     ·rintro l o ⟨z,y,A,B,g,k,f,m⟩
      refine c_reg (c_n 1 [.slice e5 y2.length q5,a9,aa,ab,ac,ad,ae,af,ag,ah] [1,2,11,12,13,63] k (.cell (f.bx 0 0 rfl rfl) (.cell (f.bx 0 1 rfl rfl) (.cell (f.bx 0 2 rfl rfl) (.cell (f.bx 0 3 rfl rfl) (.cell (f.bx 0 4 rfl rfl) (.cell (f.bx 0 5 rfl rfl) (.cell (f.bx 0 6 rfl rfl) (.cell (f.bx 0 7 rfl rfl) (.cell (f.bx 0 8 rfl rfl) (.cell (f.bx 0 9 rfl rfl) .nil)))))))))) fun k l=>?_)
      have k:=oneCells_of (Ty.one _ (Ty.mono _ (zt D g) G))
      refine p_store_eq (i:=1) (j:=3) (b:=Y) (off:=0) (vs:=[.slice e5 y2.length q5,a9,aa,ab,ac,ad,ae,af,ag,ah]) (cs':=[.slice e5 y2.length q5,a9,aa,ab,ac,ad,ae,af,ag,ah]) f l rfl (by kernel_rfl) k rfl fun l o k f=>tv ?_
      refine c_done (n_block (n_then (c_q [] [1,2,11,12,13] f .nil fun l f=>(n_then ?_))))
      exact ⟨n1,Nat.lt_succ_self n1,z,y,y2,y3,(w64 (U + (1:Int))),A,B,e5,q5,a9,aa,ab,ac,ad,ae,af,ag,ah,(zt (zt (zt k5 H) D) g),f.to,(St.drop 2 k),(SliceR.mono (zt D g) I),(Ty.mono _ (zt D g) G),m⟩
   ·have m:=cond_f an ap
    refine c_exit 0 (x_then (x_then (x_block (n_then (c_sq [] [6,7] ao .nil fun g f=>(c_ret ?_))))))
    obtain ⟨g,k,l,o⟩:=aq.share (j:=0) rfl
    refine c_rt [] (.tuple #[.slice W V.length X,vI 0]) f .nil ?_
    obtain rfl:=some_eq m
    exact ⟨_,rfl,g,W,X,(zt (zt (zt (zt k2 k3) k4) k5) k),rfl,(St.drop 4 l),o⟩
def F30_j3 (k1:(List Int)→Int→Option (List Int×Int)) (y1:Int) (y2:List Int):Option (List Int×Int) :=
  (k1 y2 (w64 (y1 + (1:Int))))
def F30_j4 (k1:(List Int)→Int→Option (List Int×Int)) (y3:List Int) (y1:Int) (y4:Int):Option (List Int×Int) :=
  (cond (decide (y4≥(0:Int))) ((appC y3 ([y1])).bind fun d1=>(F30_j3 k1 y1 d1)) (F30_j3 k1 y1 y3))
def F30_l3 (k1:(List Int)→Int→Option (List Int×Int)) (x2:Int) (y3:List Int) (y1:Int) (p1:List (List (Int×Bool))):Nat→Int→Option (List Int×Int)
  | 0,_=>none
  | n1 + 1,y5 =>
    let k2:Int→Option (List Int×Int):=F30_l3 k1 x2 y3 y1 p1 n1
    (cond (decide (y5<(p1.length:Int))) ((getI p1 y5).bind fun p2=>(cond (lkK p2 x2 false) (F30_j4 k1 y3 y1 y5) (k2 (w64 (y5 + (1:Int)))))) (F30_j4 k1 y3 y1 (-1)))
def F30_l2 (fuel:Nat) (x2:Int) (p3:Pl):Nat→(List Int)→Int→Option (List Int×Int)
  | 0,_,_=>none
  | n2 + 1,y3,y1 =>
    let k1:(List Int)→Int→Option (List Int×Int):=F30_l2 fuel x2 p3 n2
    (cond (decide (y1<(9:Int))) ((getI p3.may y1).bind fun p1=>(F30_l3 k1 x2 y3 y1 p1 fuel 0)) (some (y3,0)))
def F30_j2 (fuel:Nat) (x2:Int) (y6:Option Pl) (y7:Int):Option (List Int×Int) :=
  (cond (y7 != (0:Int)) (some ([],y7)) ((y6).bind fun p3=>(F30_l2 fuel x2 p3 fuel ([]) 0)))
def F30_j1 (fuel:Nat) (x0:List Lot) (x2:Int) (y6:Option Pl) (y8:Int) (y9:Int):Option (List Int×Int) :=
  (cond (y9 == (0:Int)) ((F47 fuel x0 ([x2])).bind fun r1=>(F30_j2 fuel x2 y6 r1)) (F30_j2 fuel x2 y6 y9))
def F30_l1 (fuel:Nat) (x0:List Lot) (x1:List Deed) (x2:Int):Nat→Pl→Int→Option (List Int×Int)
  | 0,_,_=>none
  | n3 + 1,y10,y11 =>
    let k3:Pl→Int→Option (List Int×Int):=F30_l1 fuel x0 x1 x2 n3
    (cond (decide (y11<(x1.length:Int))) ((getI x1 y11).bind fun p4=>((F51 fuel y10 p4.kind p4.lot p4.frm p4.to p4.mass).bind fun r2=>(cond (r2.2.2.1 != (0:Int)) (F30_j1 fuel x0 x2 none y11 r2.2.2.1) ((F19 fuel y11 r2.1 r2.2.1 r2.2.2.2).bind fun r3=>(k3 r3 (w64 (y11 + (1:Int)))))))) (F30_j1 fuel x0 x2 (some y10) (x1.length:Int) 0))
def F30 (fuel:Nat) (x0:List Lot) (x1:List Deed) (x2:Int):Option (List Int×Int) :=
  ((F49 fuel x0 x1).bind fun r4=>(cond (r4 != (0:Int)) (F30_j1 fuel x0 x2 none 0 r4) ((F50 fuel x0 ([[],[],[],[],[],[],[],[],[]])).bind fun r5=>(F30_l1 fuel x0 x1 x2 fuel r5 0))))
set_option maxRecDepth 100000 in
theorem f30_ok (fuel:Nat) (x0:List Lot) (x1:List Deed) (x2:Int) (r:List Int×Int) (hr:F30 fuel x0 x1 x2=some r) (h:Zone) (L:List Atom) (w:World) (hS:St h L w) (o_x0:Option Addr) (c_x0:Nat) (hx_x0:SliceR LotT h o_x0 c_x0 x0) (o_x1:Option Addr) (c_x1:Nat) (hx_x1:SliceR DeedT h o_x1 c_x1 x1) :
    Calls Tryz.prog 30 #[.slice o_x0 x0.length c_x0, .slice o_x1 x1.length c_x1,vI x2] w fun e w'=>∃v,e= .returned v∧(∃h',∃o0:Option Addr,∃c0:Nat,Zone.le h h'∧v= .tuple #[.slice o0 r.1.length c0,vI r.2]∧St h' L w'∧SliceR Ty.int h' o0 c0 r.1):=by
 refine calls_intro (N:=47) Tryz.func30 (by kernel_rfl) fun a hf=>?_
 refine c_sr (c_box [vI x2] 3 hS hf fun b1 p q x g=>tv (c_t [] [0,1,5] g .nil fun s l=>(c_sr (c_n 2 [] [0,5,15,16] l .nil fun u m=>(c_call (f:=18) (args:= #[.slice o_x0 x0.length c_x0, .slice o_x1 x1.length c_x1, .func (.func 19) #[] #[]]) (Φ:=fun v w=>∃X:Zone,∃S:Option Pl,∃Y:Int,∃Z:Int,∃U:Option Addr,Zone.le h X∧v= .tuple #[.pointer U,vI Y,vI Z]∧St X (plO 69 49 101 U S::box b1 [vI x2] 3::L) w∧(F30_j1 fuel x0 x2 S Y Z)=some r) m ?_ ?_)))))
 ·refine calls_intro (N:=50) Tryz.func18 (by kernel_rfl) fun l g=>?_
  refine c_sq [] [0,1,2] g .nil fun l g=>?_
  refine c_seq (c_sr (c_n 2 [] [0,1,2,15,16] g .nil fun g l=>?_))
  obtain ⟨p,g,a2⟩:=bind_some hr
  refine c_call l (f49_ok fuel x0 x1 p g h _ _ x o_x0 c_x0 hx_x0 o_x1 c_x1 hx_x1) ?_
  rintro l m q ⟨s,R,rfl,u⟩ g
  refine tv ?_
  refine c_t [] [0,1,2,9] g .nil fun l g=>?_
  refine c_sq [] [0,1,2,9,19] g .nil fun g m=>?_
  refine c_if (p != (0:Int)) m (fun l=>?_) (fun l=>?_)
  ·have K:=cond_t l a2
   refine c_sq [] [6,7,8] m .nil fun q g=>?_
   refine c_ret (r_then (c_rt [] (.tuple #[.pointer none,vI 0,vI p]) g .nil ?_))
   have g:=u.plNone 69 49 101
   exact ⟨_,rfl,s,none,0,p,none,R,rfl,(St.pick 1 [0] g (by kernel_rfl)),K⟩
  ·have K:=cond_f l a2
   refine c_skip (n_then (c_sr (c_n 2 [] [1,2,22] m .nil fun g l=>?_)))
   obtain ⟨m,g,K⟩:=bind_some K
   refine c_call l (f50_ok fuel x0 ([[],[],[],[],[],[],[],[],[]]) m g s _ _ u o_x0 c_x0 (SliceR.mono R hx_x0) (N0) (N0) (N0) (N0) (N0) (N0) (N0) (N0) (N0) ⟨rfl,(Rows.cons (c:=[_]) (sliceRep (SliceR.nil' _ _)) (Rows.cons (c:=[_]) (sliceRep (SliceR.nil' _ _)) (Rows.cons (c:=[_]) (sliceRep (SliceR.nil' _ _)) (Rows.cons (c:=[_]) (sliceRep (SliceR.nil' _ _)) (Rows.cons (c:=[_]) (sliceRep (SliceR.nil' _ _)) (Rows.cons (c:=[_]) (sliceRep (SliceR.nil' _ _)) (Rows.cons (c:=[_]) (sliceRep (SliceR.nil' _ _)) (Rows.cons (c:=[_]) (sliceRep (SliceR.nil' _ _)) (Rows.cons (c:=[_]) (sliceRep (SliceR.nil' _ _)) rfl)))))))))⟩) ?_
   rintro p q s ⟨l,F,V,rfl,u⟩ g
   refine tv ?_
   refine c_t [] [1,2,10] g .nil fun p g=>?_
   refine c_seq (c_sq [] [1,2,10,24,25,26] g .nil fun p g=>(c_block 0 (c_loop (fun n a w=>∃G:Zone,∃H:Pl,∃y:Int,Zone.le l G∧Fr a 50 [(1, .slice o_x1 x1.length c_x1),(2, .func (.func 19) #[] #[]),(10,pB F 0),(24, .slice o_x1 x1.length c_x1),(25,vI (x1.length:Int)),(26,vI y)]∧St G (plA 69 49 101 F H::box b1 [vI x2] 3::L) w∧(F30_l1 fuel x0 x1 x2 n H y)=some r) fuel ⟨l,m,0,zr,g.to,u,K⟩ ?_)))
   rintro g l m ⟨G,H,y,J,p,B,a4⟩
   cases g with
   | zero=>cases a4
   | succ W =>
   refine c_sq [] [1,2,10,24,25,26,27] p .nil fun g Q=>?_
   refine c_seq (c_if (decide (y<(x1.length:Int))) Q (fun M=>?_) (fun M=>?_))
   ·have K:=cond_t M a4
    refine c_skip (n_then (c_seq (c_block 1 (c_sr ?_))))
    obtain ⟨g,l,K⟩:=bind_some K
    obtain ⟨m,p,q,s,rfl,l⟩:=SliceR.getI (SliceR.mono (zt (zt R V) J) hx_x1) l
    refine c_n 3 [.pointer (some m),vI g.kind,vI g.lot,vI g.frm,vI g.to,vI g.mass] [1,2,10,24,25,26,28,30] Q (.prop p (.prop q (.cell (B.cell (l 0 _ rfl)) (.cell (B.cell (l 1 _ rfl)) (.cell (B.cell (l 2 _ rfl)) (.cell (B.cell (l 3 _ rfl)) (.cell (B.cell (l 4 _ rfl)) .nil))))))) fun m l=>?_
    refine c_box [vI 0,vI 0,vI 0,vI 0,vI 0] 74 B l fun p q s m l=>tv ?_
    refine c_n 1 [] [1,2,10,11,12,24,25,26,30] l .nil fun p l=>?_
    refine c_st 0 [vI g.kind,vI g.lot,vI g.frm,vI g.to,vI g.mass] m l rfl fun p q l m=>tv ?_
    refine c_dt (c_sr (c_n 2 [vI g.kind,vI g.lot,vI g.frm,vI g.to,vI g.mass] [1,2,10,11,24,25,26,32,33] m (.cell (l.bx 0 0 rfl rfl) (.cell (l.bx 0 1 rfl rfl) (.cell (l.bx 0 2 rfl rfl) (.cell (l.bx 0 3 rfl rfl) (.cell (l.bx 0 4 rfl rfl) .nil))))) fun m q=>?_))
    have l:=St.swapTo (i:=2) (j:=0) (St.addEmp l) rfl rfl (by decide)
    have p:=l
    obtain ⟨m,l,a2⟩:=bind_some K
    refine c_call q (f51_ok fuel H g.kind g.lot g.frm g.to g.mass m l G _ _ F p ) ?_
    rintro l p q ⟨C,u,x,A,I,rfl,g,O,P⟩ s
    have g:=St.swapTo (i:=0) (j:=2) g rfl rfl (by decide)
    have l:=g
    refine tv ?_
    refine c_n 3 [] [1,2,10,11,24,25,26,35,36] s .nil fun p g=>?_
    refine c_box [N0, .map none] 103 l g fun p q s g l=>tv ?_
    refine c_st 0 [.slice u m.1.length x, .map A] g l rfl fun l p q g=>tv ?_
    refine c_t [] [1,2,10,11,13,14,24,25,26] g .nil fun l g=>?_
    refine c_seq (c_sq [] [1,2,10,11,13,14,24,25,26,38] g .nil fun g p=>(c_if (m.2.2.1 != (0:Int)) p (fun l=>?_) (fun l=>?_)))
    ·have K:=cond_t l a2
     refine c_sq [] [6,7,8] p .nil fun s g=>?_
     refine c_ret (r_then (r_block (r_then (r_then (r_block (r_then (c_rt [] (.tuple #[.pointer none,vI y,vI m.2.2.1]) g .nil ?_)))))))
     have g:=q.plNone 69 49 101
     exact ⟨_,rfl,C,none,y,m.2.2.1,none,(zt (zt (zt R V) J) I),rfl,(St.pick 5 [0] g (by kernel_rfl)),K⟩
    ·have K:=cond_f l a2
     refine c_skip (n_then (c_reg (c_n 4 [.slice u m.1.length x, .map A] [1,2,10,24,25,26,41,42,43,44] p (.cell (q.bx 0 0 rfl rfl) (.cell (q.bx 0 1 rfl rfl) .nil)) fun g p=>?_)))
     have g:=St.swapTo (i:=4) (j:=0) (St.addEmp q) rfl rfl (by decide)
     have l:=g
     obtain ⟨q,g,K⟩:=bind_some K
     refine c_call p (f19_ok fuel y m.1 m.2.1 m.2.2.2 q g C _ _ F l u x O A P) ?_
     rintro l m p ⟨u,x,rfl,g⟩ s
     have g:=St.swapTo (i:=0) (j:=4) g rfl rfl (by decide)
     have l:=g
     refine tv ?_
     refine c_done (n_block (n_then (c_q [] [1,2,10,24,25,26] s .nil fun m g=>(n_then ?_))))
     exact ⟨W,Nat.lt_succ_self W,u,q,(w64 (y + (1:Int))),(zt (zt J I) x),g.to,(St.drop 4 l),K⟩
   ·have K:=cond_f M a4
    refine c_exit 0 (x_then (x_then (x_block (n_then (c_sq [] [6,7,8] Q .nil fun l g=>(c_ret (c_rt [] (.tuple #[pB F 0,vI (x1.length:Int),vI 0]) g .nil ?_)))))))
    have g:=B.plSome (i:=0) rfl
    exact ⟨_,rfl,G,(some H),(x1.length:Int),0,(some ⟨F,0,none⟩),(zt (zt R V) J),rfl,(St.pick 1 [0] g (by kernel_rfl)),K⟩
 ·rintro l m p ⟨X,S,Y,Z,U,k9,rfl,F,a2⟩ g
  refine tv ?_
  refine c_t [] [0,5,8,10] g .nil fun g l=>?_
  refine c_mid (fun a w=>∃Y:Zone,∃B:Int,Zone.le X Y∧Fr a 47 [(5,pB b1 0),(8, .pointer U),(10,vI B)]∧St Y (plO 69 49 101 U S::box b1 [vI x2] 3::L) w∧(F30_j2 fuel x2 S B)=some r) ?_ ?_
  ·skip
   refine c_sq [] [0,5,8,10,22] l .nil fun g C=>?_
   refine c_if (Z == (0:Int)) C (fun A=>?_) (fun A=>?_)
   ·have K:=cond_t A a2
    refine c_reg (c_n 2 [vI x2] [5,8,23,24] C (.cell (F.bx 1 0 rfl rfl) .nil) fun p g=>(p_box (i:=2) (d:=(some 25)) (cs:=[vI x2]) (T:=3) (v:=fun l=> .slice (some ⟨l,0,none⟩) 1 1) F g (fun b=>by kernel_rfl) fun l q s m x=>tv ?_))
    have g:=m.ownBox (T:=Ty.int) (E:=3) (n:=1) (xs:=[x2]) (i:=0) rfl (Rows.cons (c:=[vI x2]) rfl rfl) rfl (by decide)
    obtain ⟨m,u,p,q⟩:=g.share (j:=0) rfl
    obtain ⟨s,g,K⟩:=bind_some K
    refine c_call x (f47_ok fuel x0 ([x2]) s g m _ _ p o_x0 c_x0 (SliceR.mono (zt k9 u) hx_x0) (some ⟨l,0,none⟩) 1 q) ?_
    rintro l m p ⟨q,x,rfl,y⟩ g
    refine tv ?_
    refine c_t [] [5,8,10] g .nil fun l g=>?_
    exact ⟨q,s,(zt u x),g.to,(St.drop 1 y),K⟩
   ·have K:=cond_f A a2
    refine c_skip (n_then ?_)
    exact ⟨X,Z,zr,C.to,F,K⟩
  ·rintro l m ⟨Y,B,ae,g,q,a2⟩
   refine c_seq (c_sq [] [5,8,10,28] g .nil fun g m=>(c_if (B != (0:Int)) m (fun l=>?_) (fun l=>?_)))
   ·have K:=cond_t l a2
    refine c_sq [] [6,7] m .nil fun p g=>?_
    refine c_ret (r_then (c_rt [] (.tuple #[N0,vI B]) g .nil ?_))
    obtain rfl:=some_eq K
    exact ⟨_,rfl,Y,none,0,(zt k9 ae),rfl,(St.drop 2 q),SliceR.nil' _ _⟩
   ·have K:=cond_f l a2
    refine c_skip (n_then (c_sq [] [5,8,11] m .nil fun g m=>(c_seq (c_seq ?_))))
    obtain ⟨x,g,K⟩:=bind_some K
    rw [g] at q
    obtain ⟨b6,g,l⟩:=q.plGet (i:=0) rfl
    subst g
    obtain ⟨e3,q2,O,P,Q,R,S,U,V,W,X,y,A,B,C,F,G,H,I,J,af,g⟩:=l.plOpen (i:=0) rfl
    refine c_q [y,A,B,C,F,G,H,I,J] [5,11,33,34] m (.cell (g.bx 2 10 rfl rfl) (.cell (g.bx 2 11 rfl rfl) (.cell (g.bx 2 12 rfl rfl) (.cell (g.bx 2 13 rfl rfl) (.cell (g.bx 2 14 rfl rfl) (.cell (g.bx 2 15 rfl rfl) (.cell (g.bx 2 16 rfl rfl) (.cell (g.bx 2 17 rfl rfl) (.cell (g.bx 2 18 rfl rfl) .nil))))))))) fun l m=>?_
    refine n_then (c_block 0 ?_)
    have g:=g.ownNil Ty.int 3
    refine c_loop (fun n a w=>∃M:Zone,∃y3:List Int,∃y1:Int,∃e4:Option Addr,∃q3:Nat,Zone.le Y M∧Fr a 47 [(5,pB b1 0),(11, .slice e4 y3.length q3),(33, .agg #[y,A,B,C,F,G,H,I,J]),(34,vI y1)]∧St M (ownS Ty.int 3 e4 q3 y3::ownA (Ty.slice PartT) 49 [O,P,Q,R,S,U,V,W,X] x.holds::ownA (Ty.map Value.bool) 101 [y,A,B,C,F,G,H,I,J] x.may::box b6 [.slice e3 x.lots.length q2,O,P,Q,R,S,U,V,W,X,y,A,B,C,F,G,H,I,J] 69::box b1 [vI x2] 3::L) w∧(F30_l2 fuel x2 x n y3 y1)=some r) fuel ⟨Y,[],0,none,0,zr,m.to,g,K⟩ ?_
    rintro g l m ⟨M,y3,y1,e4,q3,ac,p,ad,ab⟩
    cases g with
    | zero=>cases ab
    | succ n2 =>
    refine c_sq [] [5,11,33,34,35] p .nil fun g aa=>?_
    refine c_seq (c_if (decide (y1<(9:Int))) aa (fun a9=>?_) (fun a9=>?_))
    ·have K:=cond_t a9 ab
     refine c_skip (n_then (c_mid (fun a w=>∃a6:Zone,∃y2:List Int,∃e5:Option Addr,∃q4:Nat,Zone.le M a6∧Fr a 47 [(5,pB b1 0),(11, .slice e5 y2.length q4),(33, .agg #[y,A,B,C,F,G,H,I,J]),(34,vI y1)]∧St a6 (ownS Ty.int 3 e5 q4 y2::ownA (Ty.slice PartT) 49 [O,P,Q,R,S,U,V,W,X] x.holds::ownA (Ty.map Value.bool) 101 [y,A,B,C,F,G,H,I,J] x.may::box b6 [.slice e3 x.lots.length q2,O,P,Q,R,S,U,V,W,X,y,A,B,C,F,G,H,I,J] 69::box b1 [vI x2] 3::L) w∧(F30_j3 (F30_l2 fuel x2 x n2) y1 y2)=some r) ?_ ?_))
     ·skip
      refine c_block 1 ?_
      obtain ⟨u,a8,K⟩:=bind_some K
      obtain ⟨g,l,a7,p,a3⟩:=ad.ownOpen (j:=2) rfl a8
      have m:=arrIdx a7
      refine c_sq [.slice g u.length l] [5,11,12,13,33,34] aa (.prop p (.prop m .nil)) fun p m=>?_
      refine c_sr (c_n 2 [] [5,11,12,33,34,38,39] m .nil fun Y m=>(p_inl (i:=2) (d:=some 40) (f:=45) (args:= #[.slice g u.length l, .func (.func 66) #[] #[pB b1 0]]) (N':=9) m (by kernel_rfl) Tryz.func45 (by kernel_rfl) fun Z p=>(c_sq [] [0,1] p .nil fun a0 q=>(c_sr (c_n 2 [] [5,6] q .nil fun a1 s=>(c_call (f:=76) (args:= #[.slice g u.length l, .func (.func 66) #[] #[pB b1 0]]) (Φ:=fun v w=>∃a5:Zone,∃y4:Int,Zone.le M a5∧v=vI y4∧St a5 (ownS (Ty.map Value.bool) 101 g l u::ownS Ty.int 3 e4 q3 y3::ownA (Ty.slice PartT) 49 [O,P,Q,R,S,U,V,W,X] x.holds::ownH (Ty.map Value.bool) 101 [y,A,B,C,F,G,H,I,J] x.may (Int.toNat y1)::box b6 [.slice e3 x.lots.length q2,O,P,Q,R,S,U,V,W,X,y,A,B,C,F,G,H,I,J] 69::box b1 [vI x2] 3::L) w∧(F30_j4 (F30_l2 fuel x2 x n2) y3 y1 y4)=some r) s ?_ ?_))))))
      ·refine calls_intro (N:=19) Tryz.func76 (by kernel_rfl) fun p m=>?_
       refine c_sq [] [0,1] m .nil fun p m=>?_
       refine c_seq (c_sq [] [0,1,7,8] m .nil fun p m=>(c_block 0 (c_loop (fun n a w=>∃Z:Zone,∃Y:Int,Zone.le M Z∧Fr a 19 [(0, .slice g u.length l),(1, .func (.func 66) #[] #[pB b1 0]),(7,vI (u.length:Int)),(8,vI Y)]∧St Z (ownS (Ty.map Value.bool) 101 g l u::ownS Ty.int 3 e4 q3 y3::ownA (Ty.slice PartT) 49 [O,P,Q,R,S,U,V,W,X] x.holds::ownH (Ty.map Value.bool) 101 [y,A,B,C,F,G,H,I,J] x.may (Int.toNat y1)::box b6 [.slice e3 x.lots.length q2,O,P,Q,R,S,U,V,W,X,y,A,B,C,F,G,H,I,J] 69::box b1 [vI x2] 3::L) w∧(F30_l3 (F30_l2 fuel x2 x n2) x2 y3 y1 u n Y)=some r) fuel ⟨M,0,zr,m.to,a3,K⟩ ?_)))
       rintro g l m ⟨Z,Y,F,p,A,a4⟩
       cases g with
       | zero=>cases a4
       | succ G =>
       refine c_sq [] [0,1,7,8,9] p .nil fun g C=>?_
       refine c_seq (c_if (decide (Y<(u.length:Int))) C (fun B=>?_) (fun B=>?_))
       ·have K:=cond_t B a4
        refine c_skip (n_then (c_seq (c_block 1 (c_sq [] [0,1,5,7,8] C .nil fun g x=>(c_sr ?_)))))
        obtain ⟨u,g,a2⟩:=bind_some K
        obtain ⟨m,p,q,l,g,s⟩:=A.ownGet (j:=0) rfl g
        obtain ⟨l,rfl,y⟩:=g
        refine c_n 5 [.pointer (some m), .map l] [0,1,5,7,8,11,15] x (.prop p (.prop q (.cell (s 0 _ rfl) .nil))) fun m g=>?_
        refine p_inl (i:=5) (d:=some 16) (f:=66) (args:= #[.map l,pB b1 0]) (N':=7) g (by kernel_rfl) Tryz.func66 (by kernel_rfl) fun m g=>?_
        refine c_sq [] [0,1] g .nil fun m g=>?_
        refine c_sr (c_n 2 [vI x2] [4,5] g (.cell (A.bx 5 0 rfl rfl) .nil) fun q g=>(p_lookup (i:=2) (d:=(some 6)) (t:=101) (o:=l) (k:=x2) (c:=false) (z:=false) (D:=u) g (by kernel_rfl) mp101 (MapR.look y A) fun s l=>tv (c_t [] [3] l .nil fun x m=>(c_ret (c_rt [] (.bool (lkK u x2 false)) m .nil (⟨_,rfl,fun y p=>?_⟩))))))
        refine tv ?_
        refine c_dt (c_if (lkK u x2 false) p (fun g=>?_) (fun g=>?_))
        ·have K:=cond_t g a2
         refine c_sq [] [4] p .nil fun m l=>?_
         refine c_ret (r_block (r_then (r_then (r_block (r_then (c_rt [] (vI Y) l .nil ?_))))))
         exact ⟨_,rfl,Z,Y,F,rfl,A,K⟩
        ·have K:=cond_f g a2
         refine c_skip (n_block (n_then (c_q [] [0,1,7,8] p .nil fun l g=>(n_then ?_))))
         exact ⟨G,Nat.lt_succ_self G,Z,(w64 (Y + (1:Int))),F,g.to,A,K⟩
       ·have K:=cond_f B a4
        refine c_exit 0 (x_then (x_then (x_block (n_then (c_sq [] [4] C .nil fun l g=>(c_ret (c_rt [] (vI (-1)) g .nil ?_)))))))
        exact ⟨_,rfl,Z, -1,F,rfl,A,K⟩
      ·rintro l m p ⟨a5,y4,C,rfl,q,a2⟩ g
       refine tv ?_
       refine c_t [] [4] g .nil fun l g=>?_
       refine c_ret (c_rt [] (.bool (decide (y4≥(0:Int)))) g .nil (⟨_,rfl,fun g A=>?_⟩))
       refine tv ?_
       refine c_done ?_
       have B:=q.ownClose' (j:=3) (k:=0) rfl rfl (by decide) a7 (getI_spec a8).2
       refine n_then (c_if (decide (y4≥(0:Int))) A (fun p=>?_) (fun p=>?_))
       ·have K:=cond_t p a2
        refine c_reg (c_n 2 [] [5,33,34,41,42] A .nil fun q g=>(p_box (i:=2) (d:=(some 43)) (cs:=[vI y1]) (T:=3) (v:=fun l=> .slice (some ⟨l,0,none⟩) 1 1) B g (fun b=>by kernel_rfl) fun l s u m x=>tv ?_))
        have g:=m.ownBox (T:=Ty.int) (E:=3) (n:=1) (xs:=[y1]) (i:=0) rfl (Rows.cons (c:=[vI y1]) rfl rfl) rfl (by decide)
        obtain ⟨y,m,K⟩:=bind_some K
        refine p_append (T:=Ty.int) (i:=3) (j:=2) (d:=some 44) (o2:=(some ⟨l,0,none⟩)) (c2:=1) (ys:=([y1])) el76 g x rfl (by kernel_rfl) (g.ownSrc (j:=0) rfl) m fun l m q s u g=>tv ?_
        refine c_z [] [5,11,33,34] g .nil fun q g=>?_
        refine n_block (n_then ?_)
        exact ⟨a5,y,l,m,C,g.to,(St.drop 2 u),K⟩
       ·have K:=cond_f p a2
        refine c_skip (n_block (n_then ?_))
        exact ⟨a5,y3,e4,q3,C,A.to,(St.drop 1 B),K⟩
     ·rintro l m ⟨a6,y2,e5,q4,p,g,q,K⟩
      refine c_q [] [5,11,33,34] g .nil fun l g=>?_
      refine n_then ?_
      exact ⟨n2,Nat.lt_succ_self n2,a6,y2,(w64 (y1 + (1:Int))),e5,q4,(zt ac p),g.to,q,K⟩
    ·have K:=cond_f a9 ab
     refine c_exit 0 (x_then (x_then (x_block (n_then (c_seq (c_q [] [6,7] aa .nil fun g q=>?_))))))
     have g:=ad.plClose (i:=3) (j:=1) (k:=2) rfl (SliceR.mono ac af) rfl rfl (by decide) (by decide) (by decide)
     refine n_then (c_ret ?_)
     obtain ⟨g,l,m,p⟩:=g.share (j:=0) rfl
     refine c_rt [] (.tuple #[.slice e4 y3.length q3,vI 0]) q .nil ?_
     obtain rfl:=some_eq K
     exact ⟨_,rfl,g,e4,q3,(zt (zt (zt k9 ae) ac) l),rfl,(St.drop 5 m),p⟩
def F103_l1 (fuel:Nat) (x0:List (List Part)):Nat→Int→Int→Option (Int)
  | 0,_,_=>none
  | n1 + 1,y1,y2 =>
    let k1:Int→Int→Option (Int):=F103_l1 fuel x0 n1
    (cond (decide (y1 > (0:Int))) ((getI x0 (w64 (y2 - (1:Int)))).bind fun p1=>((F82 fuel p1).bind fun r1=>(k1 (w64 (y1 - r1)) (w64 (y2 - (1:Int)))))) (some (y2)))
def F103 (fuel:Nat) (x0:List (List Part)) (x1:Int):Option (Int) :=
  (F103_l1 fuel x0 fuel x1 (x0.length:Int))
set_option maxRecDepth 100000 in
theorem f103_ok (fuel:Nat) (x0:List (List Part)) (x1:Int) (r:Int) (hr:F103 fuel x0 x1=some r) (h:Zone) (L:List Atom) (w:World) (hS:St h L w) (o_x0:Option Addr) (c_x0:Nat) (hx_x0:SliceR (Ty.slice PartT) h o_x0 c_x0 x0) :
    Calls Tryz.prog 103 #[.slice o_x0 x0.length c_x0,vI x1] w fun e w'=>∃v,e= .returned v∧(∃h',Zone.le h h'∧v=vI r∧St h' L w'):=by
 refine calls_intro (N:=20) Tryz.func103 (by kernel_rfl) fun a hf=>?_
 refine c_sq [] [0,1] hf .nil fun c b=>?_
 refine c_sq [] [0,1,5] b .nil fun c b=>?_
 refine c_seq (c_block 0 (c_loop (fun n a w=>∃q:Zone,∃m:Int,∃p:Int,Zone.le h q∧Fr a 20 [(0, .slice o_x0 x0.length c_x0),(1,vI m),(5,vI p)]∧St q (L) w∧(F103_l1 fuel x0 n m p)=some r) fuel ⟨h,x1,(x0.length:Int),zr,b.to,hS,hr⟩ ?_))
 rintro b c d ⟨q,m,p,y,g,z,u⟩
 cases b with
 | zero=>cases u
 | succ x =>
 refine c_seq (c_sq [] [0,1,5,9] g .nil fun b t=>(c_if (decide (m > (0:Int))) t (fun s=>?_) (fun s=>?_)))
 ·have f:=cond_t s u
  refine c_skip (n_then (c_block 1 (c_sq [] [0,1,5] t .nil fun b o=>(c_reg ?_))))
  obtain ⟨k,b,f⟩:=bind_some f
  obtain ⟨d,g,i,c,b,j⟩:=SliceR.getI (SliceR.mono y hx_x0) b
  obtain ⟨b,c,rfl,l⟩:=b
  refine c_n 5 [.pointer (some d), .slice b k.length c] [0,5,12,16] o (.prop g (.prop i (.cell (z.cell (j 0 _ rfl)) .nil))) fun d g=>?_
  obtain ⟨i,d,f⟩:=bind_some f
  refine c_call g (f82_ok fuel k i d q _ _ z b c l) ?_
  rintro c d g ⟨j,k,rfl,l⟩ b
  refine tv ?_
  refine c_z [] [0,1,5] b .nil fun c b=>?_
  refine n_block (n_then ?_)
  exact ⟨x,Nat.lt_succ_self x,j,(w64 (m - i)),(w64 (p - (1:Int))),(zt y k),b.to,l,f⟩
 ·have f:=cond_f s u
  refine c_exit 0 (x_then (x_then (x_block (n_then (c_sq [] [4] t .nil fun c b=>(c_ret (c_rt [] (vI p) b .nil ?_)))))))
  obtain rfl:=some_eq f
  exact ⟨_,rfl,q,y,rfl,z⟩
def F104_j1 (k1:(List Bool)→Int→Option (List Bool)) (y1:Int) (y2:List Bool):Option (List Bool) :=
  (k1 y2 (w64 (y1 + (1:Int))))
def F104_l2 (x0:List (List Part)) (x1:List Bool) (y3:List Int) (r1:List Int):Nat→(List Bool)→Int→Option (List Bool)
  | 0,_,_=>none
  | n1 + 1,y4,y1 =>
    let k1:(List Bool)→Int→Option (List Bool):=F104_l2 x0 x1 y3 r1 n1
    (cond (decide (y1<(x0.length:Int))) ((getI r1 y1).bind fun p1=>((getI y3 y1).bind fun p2=>(cond (decide (p1<p2)) ((getI x1 y1).bind fun p3=>((appC y4 ([p3])).bind fun d1=>(F104_j1 k1 y1 d1))) (F104_j1 k1 y1 y4)))) (some (y4)))
def F104_l1 (fuel:Nat) (x0:List (List Part)) (x1:List Bool) (x2:Int):Nat→(List Int)→Int→Option (List Bool)
  | 0,_,_=>none
  | n2 + 1,y3,y5 =>
    let k2:(List Int)→Int→Option (List Bool):=F104_l1 fuel x0 x1 x2 n2
    (cond (decide (y5<(x0.length:Int))) ((getI x0 y5).bind fun p4=>((F82 fuel p4).bind fun r2=>((appC y3 ([r2])).bind fun d2=>(k2 d2 (w64 (y5 + (1:Int))))))) ((F84 fuel x2 y3).bind fun r1=>(F104_l2 x0 x1 y3 r1 fuel ([]) 0)))
def F104 (fuel:Nat) (x0:List (List Part)) (x1:List Bool) (x2:Int):Option (List Bool) :=
  (F104_l1 fuel x0 x1 x2 fuel ([]) 0)
set_option maxRecDepth 100000 in
theorem f104_ok (fuel:Nat) (x0:List (List Part)) (x1:List Bool) (x2:Int) (r:List Bool) (hr:F104 fuel x0 x1 x2=some r) (h:Zone) (L:List Atom) (w:World) (hS:St h L w) (o_x0:Option Addr) (c_x0:Nat) (hx_x0:SliceR (Ty.slice PartT) h o_x0 c_x0 x0) (o_x1:Option Addr) (c_x1:Nat) (hx_x1:SliceR Ty.bool h o_x1 c_x1 x1) :
    Calls Tryz.prog 104 #[.slice o_x0 x0.length c_x0, .slice o_x1 x1.length c_x1,vI x2] w fun e w'=>∃v,e= .returned v∧(∃h',∃o0:Option Addr,∃c0:Nat,Zone.le h h'∧v= .slice o0 r.length c0∧St h' (ownS Ty.bool 4 o0 c0 r::L) w'):=by
 refine calls_intro (N:=52) Tryz.func104 (by kernel_rfl) fun a hf=>?_
 refine c_sq [] [0,1,2] hf .nil fun g f=>?_
 refine c_sq [] [0,1,2,7] f .nil fun g f=>?_
 refine c_seq (c_sq [] [0,1,2,7,8] f .nil fun f g=>(c_block 0 ?_))
 have f:=hS.ownNil Ty.int 3
 refine c_loop (fun n a w=>∃t:Zone,∃x:List Int,∃u:Int,∃K:Option Addr,∃M:Nat,Zone.le h t∧Fr a 52 [(0, .slice o_x0 x0.length c_x0),(1, .slice o_x1 x1.length c_x1),(2,vI x2),(7, .slice K x.length M),(8,vI u)]∧St t (ownS Ty.int 3 K M x::L) w∧(F104_l1 fuel x0 x1 x2 n x u)=some r) fuel ⟨h,[],0,none,0,zr,g.to,f,hr⟩ ?_
 rintro f g k ⟨t,x,u,K,M,X,l,A,J⟩
 cases f with
 | zero=>cases J
 | succ B =>
 refine c_seq (c_sq [] [0,1,2,7,8,15] l .nil fun f z=>(c_if (decide (u<(x0.length:Int))) z (fun y=>?_) (fun y=>?_)))
 ·have o:=cond_t y J
  refine c_skip (n_then (c_seq (c_block 1 (c_reg ?_))))
  obtain ⟨q,f,o⟩:=bind_some o
  obtain ⟨g,l,m,k,f,p⟩:=SliceR.getI (SliceR.mono X hx_x0) f
  obtain ⟨f,k,rfl,s⟩:=f
  refine c_n 5 [.pointer (some g), .slice f q.length k] [0,1,2,8,18,22] z (.prop l (.prop m (.cell (A.cell (p 0 _ rfl)) .nil))) fun g m=>?_
  obtain ⟨g,l,o⟩:=bind_some o
  refine c_call m (f82_ok fuel q g l t _ _ A f k s) ?_
  rintro f m p ⟨s,t,rfl,k⟩ l
  refine tv ?_
  refine p_box (i:=6) (d:=(some 24)) (cs:=[vI g]) (T:=3) (v:=fun f=> .slice (some ⟨f,0,none⟩) 1 1) k l (fun b=>by kernel_rfl) fun f l m k p=>tv ?_
  have k:=k.ownBox (T:=Ty.int) (E:=3) (n:=1) (xs:=[g]) (i:=0) rfl (Rows.cons (c:=[vI g]) rfl rfl) rfl (by decide)
  obtain ⟨q,l,o⟩:=bind_some o
  refine p_append (T:=Ty.int) (i:=7) (j:=1) (d:=some 25) (o2:=(some ⟨f,0,none⟩)) (c2:=1) (ys:=([g])) el76 k p rfl (by kernel_rfl) (k.ownSrc (j:=0) rfl) l fun g k l m p f=>tv ?_
  refine c_z [] [0,1,2,7,8] f .nil fun l f=>?_
  refine n_block (n_then (c_q [] [0,1,2,7,8] f .nil fun l f=>(n_then ?_)))
  exact ⟨B,Nat.lt_succ_self B,s,q,(w64 (u + (1:Int))),g,k,(zt X t),f.to,(St.drop 1 p),o⟩
 ·have o:=cond_f y J
  refine c_exit 0 (x_then (x_then (x_block (n_then (c_sr (c_n 2 [] [0,1,7,26,27] z .nil fun f l=>?_))))))
  obtain ⟨g,Y,k,R⟩:=A.share (j:=0) rfl
  obtain ⟨m,f,o⟩:=bind_some o
  refine c_call l (f84_ok fuel x2 x m f g _ _ k K M R) ?_
  rintro g k l ⟨p,s,t,V,rfl,q,u⟩ f
  refine tv ?_
  refine c_t [] [0,1,7,9] f .nil fun g f=>?_
  refine c_sq [] [0,1,7,9,10] f .nil fun g f=>?_
  refine c_seq (c_sq [] [0,1,7,9,10,11] f .nil fun f g=>(c_block 2 ?_))
  have f:=q.ownNil Ty.bool 4
  refine c_loop (fun n a w=>∃B:Zone,∃C:List Bool,∃z:Int,∃D:Option Addr,∃F:Nat,Zone.le p B∧Fr a 52 [(0, .slice o_x0 x0.length c_x0),(1, .slice o_x1 x1.length c_x1),(7, .slice K x.length M),(9, .slice s m.length t),(10, .slice D C.length F),(11,vI z)]∧St B (ownS Ty.bool 4 D F C::emp::L) w∧(F104_l2 x0 x1 x m n C z)=some r) fuel ⟨p,[],0,none,0,zr,g.to,f,o⟩ ?_
  rintro f g k ⟨B,C,z,D,F,O,l,W,U⟩
  cases f with
  | zero=>cases U
  | succ P =>
  refine c_seq (c_sq [] [0,1,7,9,10,11,32] l .nil fun f S=>(c_if (decide (z<(x0.length:Int))) S (fun Q=>?_) (fun Q=>?_)))
  ·have o:=cond_t Q U
   refine c_skip (n_then (c_mid (fun a w=>∃G:Zone,∃A:List Bool,∃H:Option Addr,∃I:Nat,Zone.le B G∧Fr a 52 [(0, .slice o_x0 x0.length c_x0),(1, .slice o_x1 x1.length c_x1),(7, .slice K x.length M),(9, .slice s m.length t),(10, .slice H A.length I),(11,vI z)]∧St G (ownS Ty.bool 4 H I A::emp::L) w∧(F104_j1 (F104_l2 x0 x1 x m P) z A)=some r) ?_ ?_))
   ·skip
    refine c_block 3 ?_
    have y:=W.drew
    obtain ⟨p,f,o⟩:=bind_some o
    obtain ⟨q,s,t,f,rfl,u⟩:=SliceR.getI (SliceR.mono O u) f
    obtain ⟨f,g,J⟩:=bind_some o
    obtain ⟨g,k,l,x,rfl,m⟩:=SliceR.getI (SliceR.mono (zt V O) R) g
    refine c_sqD [(0,true),(1,true),(2,true),(3,true),(4,true),(5,true),(6,true),(7,true),(8,true)] [] [.pointer (some q),vI p, .pointer (some g),vI f] [0,1,7,9,10,11,43] S (.prop s (.prop t (.cell (y.cell (u 0 _ rfl)) (.prop k (.prop l (.cell (y.cell (m 0 _ rfl)) .nil)))))) .nil fun g t=>?_
    refine c_if (decide (p<f)) t (fun s=>?_) (fun s=>?_)
    ·have o:=cond_t s J
     refine c_reg ?_
     obtain ⟨f,g,o⟩:=bind_some o
     obtain ⟨g,k,l,p,rfl,m⟩:=SliceR.getI (SliceR.mono (zt (zt (zt X Y) V) O) hx_x1) g
     refine c_n 5 [.pointer (some g), .bool f] [0,1,7,9,11,44,48] t (.prop k (.prop l (.cell (y.cell (m 0 _ rfl)) .nil))) fun g k=>?_
     refine p_box (i:=5) (d:=(some 49)) (cs:=[.bool f]) (T:=4) (v:=fun g=> .slice (some ⟨g,0,none⟩) 1 1) y k (fun b=>by kernel_rfl) fun g l m k p=>tv ?_
     have k:=k.ownBox (T:=Ty.bool) (E:=4) (n:=1) (xs:=[f]) (i:=0) rfl (Rows.cons (c:=[.bool f]) rfl rfl) rfl (by decide)
     obtain ⟨q,l,o⟩:=bind_some o
     refine p_append (T:=Ty.bool) (i:=6) (j:=1) (d:=some 50) (o2:=(some ⟨g,0,none⟩)) (c2:=1) (ys:=([f])) el126 k p rfl (by kernel_rfl) (k.ownSrc (j:=0) rfl) l fun g k l m p f=>tv ?_
     refine c_z [] [0,1,7,9,10,11] f .nil fun l f=>?_
     refine n_block (n_then ?_)
     exact ⟨B,q,g,k,zr,f.to,(St.drop 1 p),o⟩
    ·have o:=cond_f s J
     refine c_skip (n_block (n_then ?_))
     exact ⟨B,C,D,F,zr,t.to,y,o⟩
   ·rintro g k ⟨G,A,H,I,l,f,m,o⟩
    refine c_q [] [0,1,7,9,10,11] f .nil fun g f=>?_
    refine n_then ?_
    exact ⟨P,Nat.lt_succ_self P,G,A,(w64 (z + (1:Int))),H,I,(zt O l),f.to,m,o⟩
  ·have o:=cond_f Q U
   refine c_exit 2 (x_then (x_then (x_block (n_then (c_sq [] [6] S .nil fun g f=>(c_ret (c_rt [] (.slice D C.length F) f .nil ?_)))))))
   obtain rfl:=some_eq o
   exact ⟨_,rfl,B,D,F,(zt (zt (zt X Y) V) O),rfl,(St.pick 2 [0] W (by kernel_rfl))⟩
def F105 (fuel:Nat) (x0:List (List Bool)) (x1k:Int) (x1o:Int) (x1f:Int) (x1t:Int) (x1m:Int):Option (List Bool) :=
  ((getI x0 x1f).bind fun p1=>(some (p1)))
set_option maxRecDepth 100000 in
theorem f105_ok (fuel:Nat) (x0:List (List Bool)) (x1k:Int) (x1o:Int) (x1f:Int) (x1t:Int) (x1m:Int) (r:List Bool) (hr:F105 fuel x0 x1k x1o x1f x1t x1m=some r) (h:Zone) (L:List Atom) (w:World) (hS:St h L w) (v0_x0 v1_x0 v2_x0 v3_x0 v4_x0 v5_x0 v6_x0 v7_x0 v8_x0:Value) (hx_x0:(Ty.arr 9 (Ty.slice Ty.bool)).rep h [v0_x0,v1_x0,v2_x0,v3_x0,v4_x0,v5_x0,v6_x0,v7_x0,v8_x0] x0) :
    Calls Tryz.prog 105 #[.agg #[v0_x0,v1_x0,v2_x0,v3_x0,v4_x0,v5_x0,v6_x0,v7_x0,v8_x0], .agg #[vI x1k,vI x1o,vI x1f,vI x1t,vI x1m]] w fun e w'=>∃v,e= .returned v∧(∃h',∃o0:Option Addr,∃c0:Nat,Zone.le h h'∧v= .slice o0 r.length c0∧St h' L w'∧SliceR Ty.bool h' o0 c0 r):=by
 refine calls_intro (N:=10) Tryz.func105 (by kernel_rfl) fun a hf=>?_
 refine c_sr (c_box [v0_x0,v1_x0,v2_x0,v3_x0,v4_x0,v5_x0,v6_x0,v7_x0,v8_x0] 129 hS hf fun o f j b c=>tv (c_box [vI x1k,vI x1o,vI x1f,vI x1t,vI x1m] 74 b c fun k l m g d=>tv (c_t [] [2,3] d .nil fun n p=>?_)))
 obtain ⟨f,b,q⟩:=bind_some hr
 obtain ⟨d,_,j,b,c,hehv18,k⟩:=arrGet (Ty.mono _ zr hx_x0) rfl b
 obtain rfl:=List.head_eq_of_cons_eq hehv18
 refine c_sq [vI x1f, .slice b f.length c] [4] p (.cell (g.bx 0 2 rfl rfl) (.prop d (.cell ((arrAddr o 0 x1f.toNat) ▸ (g.box (i:=1) rfl (getElem?_app_right [] _ _ j []))) .nil))) fun j d=>?_
 refine c_ret (c_rt [] (.slice b f.length c) d .nil ?_)
 obtain rfl:=some_eq q
 exact ⟨_,rfl,h,b,c,zr,rfl,(St.drop 2 g),k⟩
def F68_l1 (x0:List Bool):Nat→Int→Option (Bool)
  | 0,_=>none
  | n1 + 1,y1 =>
    let k1:Int→Option (Bool):=F68_l1 x0 n1
    (cond (decide (y1<(x0.length:Int))) ((getI x0 y1).bind fun p1=>(cond p1 (some (true)) (k1 (w64 (y1 + (1:Int)))))) (some (false)))
def F68 (fuel:Nat) (x0:List Bool):Option (Bool) :=
  (F68_l1 x0 fuel 0)
set_option maxRecDepth 100000 in
theorem f68_ok (fuel:Nat) (x0:List Bool) (r:Bool) (hr:F68 fuel x0=some r) (h:Zone) (L:List Atom) (w:World) (hS:St h L w) (o_x0:Option Addr) (c_x0:Nat) (hx_x0:SliceR Ty.bool h o_x0 c_x0 x0) :
    Calls Tryz.prog 68 #[.slice o_x0 x0.length c_x0] w fun e w'=>∃v,e= .returned v∧(∃h',Zone.le h h'∧v= .bool r∧St h' L w'):=by
 refine calls_intro (N:=14) Tryz.func68 (by kernel_rfl) fun a hf=>?_
 refine c_sq [] [0] hf .nil fun c b=>?_
 refine c_seq (c_sq [] [0,3] b .nil fun c b=>(c_block 0 (c_loop (fun n a w=>∃l:Zone,∃k:Int,Zone.le h l∧Fr a 14 [(0, .slice o_x0 x0.length c_x0),(3,vI k)]∧St l (L) w∧(F68_l1 x0 n k)=some r) fuel ⟨h,0,zr,b.to,hS,hr⟩ ?_)))
 rintro b c d ⟨l,k,q,f,s,t⟩
 cases b with
 | zero=>cases t
 | succ u =>
 refine c_seq (c_sq [] [0,3,7] f .nil fun b p=>(c_if (decide (k<(x0.length:Int))) p (fun o=>?_) (fun o=>?_)))
 ·have i:=cond_t o t
  refine c_skip (n_then (c_seq (c_block 1 ?_)))
  obtain ⟨b,c,m⟩:=bind_some i
  obtain ⟨c,d,f,j,rfl,g⟩:=SliceR.getI (SliceR.mono q hx_x0) c
  refine c_sq [.pointer (some c), .bool b] [0,3,13] p (.prop d (.prop f (.cell (s.cell (g 0 _ rfl)) .nil))) fun c d=>?_
  refine c_if b d (fun c=>?_) (fun c=>?_)
  ·have i:=cond_t c m
   refine c_sq [] [2] d .nil fun f b=>?_
   refine c_ret (r_block (r_then (r_then (r_block (r_then (c_rt [] (.bool true) b .nil ?_))))))
   obtain rfl:=some_eq i
   exact ⟨_,rfl,l,q,rfl,s⟩
  ·have i:=cond_f c m
   refine c_skip (n_block (n_then (c_q [] [0,3] d .nil fun c b=>(n_then ?_))))
   exact ⟨u,Nat.lt_succ_self u,l,(w64 (k + (1:Int))),q,b.to,s,i⟩
 ·have i:=cond_f o t
  refine c_exit 0 (x_then (x_then (x_block (n_then (c_sq [] [2] p .nil fun c b=>(c_ret (c_rt [] (.bool false) b .nil ?_)))))))
  obtain rfl:=some_eq i
  exact ⟨_,rfl,l,q,rfl,s⟩
def F89_j1 (y1:List (List Bool)):Option (List (List Bool)) :=
  (some (y1))
def F89_j2 (fuel:Nat) (x0:List (List Bool)) (x1h:List (List (List Part))) (x2h:List (List (List Part))) (x3k:Int) (x3o:Int) (x3f:Int) (x3t:Int) (x3m:Int) (y2:List (List Bool)) (y3:Bool):Option (List (List Bool)) :=
  (cond y3 ((getI y2 x3f).bind fun p1=>((getI x2h x3f).bind fun p2=>((getI x1h x3f).bind fun p3=>((F103 fuel p3 x3m).bind fun r1=>((subI p1 r1 (p1.length:Int)).bind fun d1=>((F68 fuel d1).bind fun r2=>((subI p1 0 (p2.length:Int)).bind fun d2=>(cond (x3k == (3:Int)) (F89_j1 (y2.set (Int.toNat x3f) d2)) ((getI (y2.set (Int.toNat x3f) d2) x3t).bind fun p4=>(cond ((p4.length:Int) == (0:Int)) ((getI (y2.set (Int.toNat x3f) d2) x3t).bind fun p5=>(F89_j1 ((y2.set (Int.toNat x3f) d2).set (Int.toNat x3t) ([r2])))) ((getI (y2.set (Int.toNat x3f) d2) x3t).bind fun p6=>((getI p6 (w64 ((p4.length:Int) - (1:Int)))).bind fun p7=>(cond p7 ((getI p6 (w64 ((p4.length:Int) - (1:Int)))).bind fun p8=>((setI p6 (w64 ((p4.length:Int) - (1:Int))) true).bind fun d3=>(F89_j1 ((y2.set (Int.toNat x3f) d2).set (Int.toNat x3t) d3)))) ((getI p6 (w64 ((p4.length:Int) - (1:Int)))).bind fun p9=>((setI p6 (w64 ((p4.length:Int) - (1:Int))) r2).bind fun d4=>(F89_j1 ((y2.set (Int.toNat x3f) d2).set (Int.toNat x3t) d4))))))))))))))))) (cond (x3k == (5:Int)) ((getI y2 x3f).bind fun p10=>((getI x1h x3f).bind fun p11=>((F105 fuel x0 x3k x3o x3f x3t x3m).bind fun r3=>((F104 fuel p11 r3 x3m).bind fun r4=>(F89_j1 (y2.set (Int.toNat x3f) r4)))))) (cond (x3k == (6:Int)) ((getI y2 x3f).bind fun p12=>((getI y2 x3f).bind fun p13=>((subI p13 (w64 ((p12.length:Int) - (2:Int))) (p13.length:Int)).bind fun d5=>((F68 fuel d5).bind fun r5=>((getI y2 x3f).bind fun p14=>((subI p14 0 (w64 ((p12.length:Int) - (2:Int)))).bind fun d6=>((appC d6 ([r5])).bind fun d7=>(F89_j1 (y2.set (Int.toNat x3f) d7))))))))) (F89_j1 y2))))
def F89_l1 (fuel:Nat) (x0:List (List Bool)) (x1h:List (List (List Part))) (x2h:List (List (List Part))) (x3k:Int) (x3o:Int) (x3f:Int) (x3t:Int) (x3m:Int) (x4:Int):Nat→(List (List Bool))→Int→Option (List (List Bool))
  | 0,_,_=>none
  | n1 + 1,y2,y4 =>
    let k1:(List (List Bool))→Int→Option (List (List Bool)):=F89_l1 fuel x0 x1h x2h x3k x3o x3f x3t x3m x4 n1
    (cond (decide (y4<(9:Int))) ((getI y2 y4).bind fun p15=>((getI x0 y4).bind fun p16=>((appC ([]) p16).bind fun d8=>(k1 (y2.set (Int.toNat y4) d8) (w64 (y4 + (1:Int))))))) (cond (x3k == (1:Int)) ((getI y2 x3t).bind fun p17=>(cond ((p17.length:Int) == (0:Int)) ((getI y2 x3t).bind fun p18=>(F89_j1 (y2.set (Int.toNat x3t) ([(x3o == x4)])))) (cond (x3o == x4) ((getI y2 x3t).bind fun p19=>((getI p19 (w64 ((p17.length:Int) - (1:Int)))).bind fun p20=>((setI p19 (w64 ((p17.length:Int) - (1:Int))) true).bind fun d9=>(F89_j1 (y2.set (Int.toNat x3t) d9))))) (F89_j1 y2)))) (cond (x3k == (2:Int)) ((getI y2 x3t).bind fun p21=>((appC p21 ([(x3o == x4)])).bind fun d10=>(F89_j1 (y2.set (Int.toNat x3t) d10)))) (cond (x3k == (3:Int)) (F89_j2 fuel x0 x1h x2h x3k x3o x3f x3t x3m y2 (x3k == (3:Int))) (F89_j2 fuel x0 x1h x2h x3k x3o x3f x3t x3m y2 (x3k == (4:Int)))))))
def F89 (fuel:Nat) (x0:List (List Bool)) (x1l:List Lot) (x1h:List (List (List Part))) (x2l:List Lot) (x2h:List (List (List Part))) (x3k:Int) (x3o:Int) (x3f:Int) (x3t:Int) (x3m:Int) (x4:Int):Option (List (List Bool)) :=
  (F89_l1 fuel x0 x1h x2h x3k x3o x3f x3t x3m x4 fuel ([[],[],[],[],[],[],[],[],[]]) 0)
set_option maxRecDepth 100000 in
theorem f89_ok (fuel:Nat) (x0:List (List Bool)) (x1l:List Lot) (x1h:List (List (List Part))) (x2l:List Lot) (x2h:List (List (List Part))) (x3k:Int) (x3o:Int) (x3f:Int) (x3t:Int) (x3m:Int) (x4:Int) (r:List (List Bool)) (hr:F89 fuel x0 x1l x1h x2l x2h x3k x3o x3f x3t x3m x4=some r) (h:Zone) (L:List Atom) (w:World) (hS:St h L w) (v0_x0 v1_x0 v2_x0 v3_x0 v4_x0 v5_x0 v6_x0 v7_x0 v8_x0:Value) (hx_x0:(Ty.arr 9 (Ty.slice Ty.bool)).rep h [v0_x0,v1_x0,v2_x0,v3_x0,v4_x0,v5_x0,v6_x0,v7_x0,v8_x0] x0) (o_x1l:Option Addr) (c_x1l:Nat) (hx_x1l:SliceR LotT h o_x1l c_x1l x1l) (V10 V11 V12 V13 V14 V15 V16 V17 V18:Value) (hx_x1h:(Ty.arr 9 (Ty.slice (Ty.slice PartT))).rep h [V10,V11,V12,V13,V14,V15,V16,V17,V18] x1h) (o_x2l:Option Addr) (c_x2l:Nat) (hx_x2l:SliceR LotT h o_x2l c_x2l x2l) (V20 V21 V22 V23 V24 V25 V26 V27 V28:Value) (hx_x2h:(Ty.arr 9 (Ty.slice (Ty.slice PartT))).rep h [V20,V21,V22,V23,V24,V25,V26,V27,V28] x2h) :
    Calls Tryz.prog 89 #[.agg #[v0_x0,v1_x0,v2_x0,v3_x0,v4_x0,v5_x0,v6_x0,v7_x0,v8_x0], .agg #[.slice o_x1l x1l.length c_x1l,V10,V11,V12,V13,V14,V15,V16,V17,V18], .agg #[.slice o_x2l x2l.length c_x2l,V20,V21,V22,V23,V24,V25,V26,V27,V28], .agg #[vI x3k,vI x3o,vI x3f,vI x3t,vI x3m],vI x4] w fun e w'=>∃v,e= .returned v∧(∃h',∃v0_0:Value,∃v0_1:Value,∃v0_2:Value,∃v0_3:Value,∃v0_4:Value,∃v0_5:Value,∃v0_6:Value,∃v0_7:Value,∃v0_8:Value,Zone.le h h'∧v= .agg #[v0_0,v0_1,v0_2,v0_3,v0_4,v0_5,v0_6,v0_7,v0_8]∧St h' L w'∧(Ty.arr 9 (Ty.slice Ty.bool)).rep h' [v0_0,v0_1,v0_2,v0_3,v0_4,v0_5,v0_6,v0_7,v0_8] r):=by
 refine calls_intro (N:=204) Tryz.func89 (by kernel_rfl) fun a hf=>?_
 refine c_sr (c_box [v0_x0,v1_x0,v2_x0,v3_x0,v4_x0,v5_x0,v6_x0,v7_x0,v8_x0] 129 hS hf fun V C D f g=>tv (c_box [.slice o_x1l x1l.length c_x1l,V10,V11,V12,V13,V14,V15,V16,V17,V18] 29 f g fun b2 F G l m=>tv (c_box [.slice o_x2l x2l.length c_x2l,V20,V21,V22,V23,V24,V25,V26,V27,V28] 29 l m fun W H I o p=>tv (c_box [vI x3k,vI x3o,vI x3f,vI x3t,vI x3m] 74 o p fun X J K q t=>tv (c_box [N0,N0,N0,N0,N0,N0,N0,N0,N0] 129 q t fun b5 M O u y=>tv (c_dt (c_sr (c_box [N0,N0,N0,N0,N0,N0,N0,N0,N0] 129 u y fun b6 P Q A z=>tv (c_dt (c_seq (c_sq [] [4,5,6,7,8,10,11,12] z .nil fun R S=>(c_block 0 ?_))))))))))))
 have f:=A.ownNew Ty.bool 4 9
 have f:=f
 refine c_loop (fun n a w=>∃O:Zone,∃y2:List (List Bool),∃t:Int,∃v1:Value,∃v2:Value,∃v3:Value,∃v4:Value,∃v5:Value,∃v6:Value,∃v7:Value,∃v8:Value,∃v9:Value,Zone.le h O∧Fr a 204 [(4,vI x4),(5,pB V 0),(6,pB b2 0),(7,pB W 0),(8,pB X 0),(10,pB b5 0),(11,pB b6 0),(12,vI t)]∧St O (ownA Ty.bool 4 [v1,v2,v3,v4,v5,v6,v7,v8,v9] y2::box b6 [v1,v2,v3,v4,v5,v6,v7,v8,v9] 129::box b5 [N0,N0,N0,N0,N0,N0,N0,N0,N0] 129::box X [vI x3k,vI x3o,vI x3f,vI x3t,vI x3m] 74::box W [.slice o_x2l x2l.length c_x2l,V20,V21,V22,V23,V24,V25,V26,V27,V28] 29::box b2 [.slice o_x1l x1l.length c_x1l,V10,V11,V12,V13,V14,V15,V16,V17,V18] 29::box V [v0_x0,v1_x0,v2_x0,v3_x0,v4_x0,v5_x0,v6_x0,v7_x0,v8_x0] 129::L) w∧(F89_l1 fuel x0 x1h x2h x3k x3o x3f x3t x3m x4 n y2 t)=some r) fuel ⟨h,[[],[],[],[],[],[],[],[],[]],0,(N0),(N0),(N0),(N0),(N0),(N0),(N0),(N0),(N0),zr,S.to,f,hr⟩ ?_
 rintro f g l ⟨O,y2,t,v1,v2,v3,v4,v5,v6,v7,v8,v9,k2,m,Q,U⟩
 cases f with
 | zero=>cases U
 | succ M =>
 refine c_seq (c_sq [] [4,5,6,7,8,10,11,12,22] m .nil fun f K=>(c_if (decide (t<(9:Int))) K (fun J=>?_) (fun J=>?_)))
 ·have B:=cond_t J U
  refine c_skip (n_then (c_seq (c_block 1 ?_)))
  obtain ⟨f,I,B⟩:=bind_some B
  obtain ⟨f,g,m,p,l⟩:=Q.ownOpen (j:=0) rfl I
  refine c_reg (c_n 1 [] [4,5,6,7,8,10,11,12,25] K .nil fun m g=>(p_box (i:=1) (d:=(some 26)) (cs:=[]) (T:=4) (v:=fun f=> .slice (some ⟨f,0,none⟩) 0 0) l g (fun b=>by kernel_rfl) fun f o q l u=>tv ?_))
  have g:=l.ownBox (T:=Ty.bool) (E:=4) (n:=0) (xs:=[]) (i:=0) rfl rfl rfl (by decide)
  obtain ⟨q,f,B⟩:=bind_some B
  obtain ⟨f,_,o,l,m,hehv1420,y⟩:=arrGet (Ty.mono _ k2 hx_x0) rfl f
  obtain rfl:=List.head_eq_of_cons_eq hehv1420
  refine c_n 4 [.slice l q.length m] [4,5,6,7,8,10,11,12,25,26,30] u (.prop f (.cell ((arrAddr V 0 t.toNat) ▸ (g.box (i:=8) rfl (getElem?_app_right [] _ _ o []))) .nil)) fun f o=>?_
  obtain ⟨u,f,B⟩:=bind_some B
  refine p_append (T:=Ty.bool) (i:=6) (j:=0) (d:=some 31) (o2:=l) (c2:=m) (ys:=q) el126 g o rfl (by kernel_rfl) (SliceR.src y g) f fun f g o q m l=>tv ?_
  refine c_n 2 [] [4,5,6,7,8,10,11,12,31,33] l (.prop p .nil) fun o l=>?_
  refine p_storeA (i:=9) (j:=3) (b:=b6) (ix:=t) (pre:=[]) (vs:=[v1,v2,v3,v4,v5,v6,v7,v8,v9]) (post:=[]) (v:= .slice f u.length g) m l rfl (by have z2:=p.1; have P:=p.2; simp at P ⊢; omega) (by kernel_rfl) rfl fun l o m H=>tv ?_
  obtain ⟨o,q,y,z,A,C,D,F,G,l⟩:=nine (vs:=[v1,v2,v3,v4,v5,v6,v7,v8,v9].set (Int.toNat t) (.slice f u.length g)) (by simp)
  rw [l] at m
  have f:[o,q,y,z,A,C,D,F,G][Int.toNat t]? =some (.slice f u.length g):=by rw [← l]; exact List.getElem?_set_self (by have z2:=p.1; have P:=p.2; simp at P ⊢; omega)
  have f:=m
  refine c_done ?_
  have f:=f.ownClose (j:=2) (k:=0) rfl rfl (by decide) (List.getElem?_eq_some_iff.1 (getI_spec I).2).1
  rw [l] at f
  refine n_block (n_then (c_q [] [4,5,6,7,8,10,11,12] H .nil fun l g=>(n_then ?_)))
  exact ⟨M,Nat.lt_succ_self M,O,(y2.set (Int.toNat t) u),(w64 (t + (1:Int))),o,q,y,z,A,C,D,F,G,k2,g.to,(St.drop 2 f),B⟩
 ·have a0:=cond_f J U
  refine c_exit 0 (x_then (x_then (x_block (n_then (c_mid (fun a w=>∃z4:Zone,∃y1:List (List Bool),∃a4:Value,∃a5:Value,∃a6:Value,∃a7:Value,∃a8:Value,∃a9:Value,∃aa:Value,∃ab:Value,∃ac:Value,Zone.le O z4∧Fr a 204 [(10,pB b5 0),(11,pB b6 0)]∧St z4 (ownA Ty.bool 4 [a4,a5,a6,a7,a8,a9,aa,ab,ac] y1::box b6 [a4,a5,a6,a7,a8,a9,aa,ab,ac] 129::box b5 [N0,N0,N0,N0,N0,N0,N0,N0,N0] 129::box X [vI x3k,vI x3o,vI x3f,vI x3t,vI x3m] 74::box W [.slice o_x2l x2l.length c_x2l,V20,V21,V22,V23,V24,V25,V26,V27,V28] 29::box b2 [.slice o_x1l x1l.length c_x1l,V10,V11,V12,V13,V14,V15,V16,V17,V18] 29::box V [v0_x0,v1_x0,v2_x0,v3_x0,v4_x0,v5_x0,v6_x0,v7_x0,v8_x0] 129::L) w∧(F89_j1 y1)=some r) ?_ ?_)))))
  ·skip
   refine c_sq [vI x3k] [4,5,6,7,8,10,11,35] K (.cell (Q.bx 3 0 rfl rfl) .nil) fun g f=>?_
   refine c_block 2 (c_sq [] [4,5,6,7,8,10,11,35,36] f .nil fun f M=>(c_if (x3k == (1:Int)) M (fun K=>?_) (fun K=>?_)))
   ·have B:=cond_t K a0
    obtain ⟨J,l,U⟩:=bind_some B
    obtain ⟨m,o,g,p,f⟩:=Q.ownOpen (j:=0) rfl l
    refine c_seq (c_q [vI x3t, .slice m J.length o] [4,8,10,11,13] M (.cell (f.bx 4 3 rfl rfl) (.prop p (.cell ((arrAddr b6 0 (Int.toNat x3t)) ▸ (f.box (i:=2) rfl (getElem?_app_right [] _ _ g []))) .nil))) fun o m=>?_)
    have I:=f.ownClose' (j:=1) (k:=0) rfl rfl (by decide) g (getI_spec l).2
    refine n_then (c_sq [] [4,8,10,11,13,45] m .nil fun f G=>(c_if ((J.length:Int) == (0:Int)) G (fun F=>?_) (fun F=>?_)))
    ·have B:=cond_t F U
     obtain ⟨f,D,B⟩:=bind_some B
     obtain ⟨g,l,o,m,f⟩:=I.ownOpen (j:=1) rfl D
     refine c_reg (c_n 6 [vI x3t,vI x3o] [10,11,47,51] G (.cell (f.bx 5 3 rfl rfl) (.cell (f.bx 5 1 rfl rfl) .nil)) fun p g=>(p_box (i:=6) (d:=(some 52)) (cs:=[.bool (x3o == x4)]) (T:=4) (v:=fun l=> .slice (some ⟨l,0,none⟩) 1 1) f g (fun b=>by kernel_rfl) fun l q t f o=>tv ?_))
     have g:=f.ownBox (T:=Ty.bool) (E:=4) (n:=1) (xs:=[(x3o == x4)]) (i:=0) rfl (Rows.cons (c:=[.bool (x3o == x4)]) rfl rfl) rfl (by decide)
     refine c_n 2 [] [10,11,52,54] o (.prop m .nil) fun o f=>?_
     refine p_storeA (i:=9) (j:=4) (b:=b6) (ix:=x3t) (pre:=[]) (vs:=[v1,v2,v3,v4,v5,v6,v7,v8,v9]) (post:=[]) (v:= .slice (some ⟨l,0,none⟩) 1 1) g f rfl (by have z2:=m.1; have P:=m.2; simp at P ⊢; omega) (by kernel_rfl) rfl fun g o f H=>tv ?_
     obtain ⟨o,p,q,t,u,y,z,A,C,g⟩:=nine (vs:=[v1,v2,v3,v4,v5,v6,v7,v8,v9].set (Int.toNat x3t) (.slice (some ⟨l,0,none⟩) 1 1)) (by simp)
     rw [g] at f
     have l:[o,p,q,t,u,y,z,A,C][Int.toNat x3t]? =some (.slice (some ⟨l,0,none⟩) 1 1):=by rw [← g]; exact List.getElem?_set_self (by have z2:=m.1; have P:=m.2; simp at P ⊢; omega)
     have f:=f
     refine c_done ?_
     have f:=f.ownClose (j:=3) (k:=0) rfl rfl (by decide) (List.getElem?_eq_some_iff.1 (getI_spec D).2).1
     simp only [List.length_cons,List.length_nil,Nat.zero_add] at f
     rw [g] at f
     refine n_block (n_then ?_)
     exact ⟨O,(y2.set (Int.toNat x3t) ([(x3o == x4)])),o,p,q,t,u,y,z,A,C,zr,H.to,(St.drop 3 f),B⟩
    ·have U:=cond_f F U
     refine c_sq [vI x3o] [8,10,11,13,58] G (.cell (I.bx 4 1 rfl rfl) .nil) fun f D=>?_
     refine c_if (x3o == x4) D (fun C=>?_) (fun C=>?_)
     ·have B:=cond_t C U
      obtain ⟨y,A,B⟩:=bind_some B
      obtain ⟨q,t,z,u,g⟩:=I.ownOpen (j:=1) rfl A
      refine c_reg ?_
      obtain ⟨l,f,B⟩:=bind_some B
      obtain ⟨l,m,f,o,rfl,p⟩:=g.ownGet (j:=0) rfl f
      refine c_n 8 [vI x3t, .slice q y.length t, .pointer (some l)] [10,11,66] D (.cell (g.bx 5 3 rfl rfl) (.prop u (.cell ((arrAddr b6 0 (Int.toNat x3t)) ▸ (g.box (i:=3) rfl (getElem?_app_right [] _ _ z []))) (.prop m (.prop f .nil))))) fun f o=>?_
      obtain ⟨q,f,B⟩:=bind_some B
      have p:=setI_len f
      refine p_setOwnB (i:=8) (j:=0) (ad:=l) (ix:=(w64 ((J.length:Int) - (1:Int)))) (x':=true) g o rfl m (by kernel_rfl) f fun f g l m=>?_
      refine tv ?_
      refine c_done ?_
      have f:=l.ownCloseL (j:=2) (k:=0) rfl rfl (by decide) z (getI_spec A).2 p.symm
      refine n_block (n_then ?_)
      exact ⟨O,(y2.set (Int.toNat x3t) q),v1,v2,v3,v4,v5,v6,v7,v8,v9,zr,m.to,(St.drop 2 f),B⟩
     ·have B:=cond_f C U
      refine c_skip (n_block (n_then ?_))
      exact ⟨O,y2,v1,v2,v3,v4,v5,v6,v7,v8,v9,zr,D.to,(St.drop 1 I),B⟩
   ·have U:=cond_f K a0
    refine c_sq [] [4,5,6,7,8,10,11,35,67] M .nil fun f J=>?_
    refine c_if (x3k == (2:Int)) J (fun H=>?_) (fun H=>?_)
    ·have B:=cond_t H U
     obtain ⟨q,I,B⟩:=bind_some B
     obtain ⟨g,m,o,p,f⟩:=Q.ownOpen (j:=0) rfl I
     have l:=f.drew
     have f:=Sub.of zr (l.mask (i:=0) rfl)
     refine c_regD [(0,true),(1,true),(2,true),(3,true),(4,true),(5,true),(6,true),(7,true),(8,true),(9,true),(10,true),(13,true),(11,false),(12,false),(14,true),(15,false)] [15] _ f ?_
     refine c_S 12 [vI x3t,vI x3t, .slice g q.length m,vI x3o] [10,11,70,75,79,82] f J (fun _ s=>(.cell (s.bx 4 3 rfl rfl) (.cell (s.bx 4 3 rfl rfl) (.prop p (.cell ((arrAddr b6 0 (Int.toNat x3t)) ▸ (s.box (i:=2) rfl (getElem?_app_right [] _ _ o []))) (.cell (s.bx 4 1 rfl rfl) .nil)))))) .nil fun g f=>?_
     refine p_box (i:=11) (d:=(some 80)) (cs:=[.bool (x3o == x4)]) (T:=4) (v:=fun g=> .slice (some ⟨g,0,none⟩) 1 1) l f (fun b=>by kernel_rfl) fun g l m f o=>⟨fun _=>Sub.of zr ((St.drop 1 f).mask (i:=0) rfl),?_⟩
     have f:=f.ownBox (T:=Ty.bool) (E:=4) (n:=1) (xs:=[(x3o == x4)]) (i:=0) rfl (Rows.cons (c:=[.bool (x3o == x4)]) rfl rfl) rfl (by decide)
     have l:=Sub.of zr ((St.drop 1 f).mask (i:=0) rfl)
     obtain ⟨t,l,B⟩:=bind_some B
     refine p_append (T:=Ty.bool) (i:=12) (j:=1) (d:=some 81) (o2:=(some ⟨g,0,none⟩)) (c2:=1) (ys:=([(x3o == x4)])) el126 f o rfl (by kernel_rfl) (f.ownSrc (j:=0) rfl) l fun l m g q f o=>⟨fun _=>Sub.of zr ((St.drop 1 f).mask (i:=0) rfl),?_⟩
     have g:=Sub.of zr ((St.drop 1 f).mask (i:=0) rfl)
     refine c_S 1 [] [10,11,81,83] g o (fun _ s=>(.prop p .nil)) .nil fun o g=>?_
     refine p_storeA (i:=15) (j:=3) (b:=b6) (ix:=x3t) (pre:=[]) (vs:=[v1,v2,v3,v4,v5,v6,v7,v8,v9]) (post:=[]) (v:= .slice l t.length m) f g rfl (by have z2:=p.1; have P:=p.2; simp at P ⊢; omega) (by kernel_rfl) rfl fun g o f G=>⟨fun e=>absurd e (by decide),?_⟩
     obtain ⟨o,q,u,y,z,A,C,D,F,g⟩:=nine (vs:=[v1,v2,v3,v4,v5,v6,v7,v8,v9].set (Int.toNat x3t) (.slice l t.length m)) (by simp)
     rw [g] at f
     have l:[o,q,u,y,z,A,C,D,F][Int.toNat x3t]? =some (.slice l t.length m):=by rw [← g]; exact List.getElem?_set_self (by have z2:=p.1; have P:=p.2; simp at P ⊢; omega)
     have f:=f
     refine c_done ?_
     have f:=f.ownClose (j:=2) (k:=1) rfl rfl (by decide) (List.getElem?_eq_some_iff.1 (getI_spec I).2).1
     rw [g] at f
     refine n_block (n_then ?_)
     exact ⟨O,(y2.set (Int.toNat x3t) t),o,q,u,y,z,A,C,D,F,zr,G.to,(St.drop 2 f),B⟩
    ·have U:=cond_f H U
     refine c_mid (fun a w=>∃z5:Zone,∃l:Bool,Zone.le O z5∧Fr a 204 [(5,pB V 0),(6,pB b2 0),(7,pB W 0),(8,pB X 0),(10,pB b5 0),(11,pB b6 0),(35,vI x3k),(84, .bool l)]∧St z5 (ownA Ty.bool 4 [v1,v2,v3,v4,v5,v6,v7,v8,v9] y2::box b6 [v1,v2,v3,v4,v5,v6,v7,v8,v9] 129::box b5 [N0,N0,N0,N0,N0,N0,N0,N0,N0] 129::box X [vI x3k,vI x3o,vI x3f,vI x3t,vI x3m] 74::box W [.slice o_x2l x2l.length c_x2l,V20,V21,V22,V23,V24,V25,V26,V27,V28] 29::box b2 [.slice o_x1l x1l.length c_x1l,V10,V11,V12,V13,V14,V15,V16,V17,V18] 29::box V [v0_x0,v1_x0,v2_x0,v3_x0,v4_x0,v5_x0,v6_x0,v7_x0,v8_x0] 129::L) w∧(F89_j2 fuel x0 x1h x2h x3k x3o x3f x3t x3m y2 l)=some r) ?_ ?_
     ·skip
      refine c_sq [] [5,6,7,8,10,11,35,84] J .nil fun f g=>?_
      refine c_if (x3k == (3:Int)) g (fun f=>?_) (fun f=>?_)
      ·have B:=cond_t f U
       refine c_skip (n_then ?_)
       exact ⟨O,(x3k == (3:Int)),zr,g.to,Q,B⟩
      ·have B:=cond_f f U
       refine c_q [] [5,6,7,8,10,11,35,84] g .nil fun g f=>?_
       refine n_then ?_
       exact ⟨O,(x3k == (4:Int)),zr,f.to,Q,B⟩
     ·rintro f t ⟨z5,l,k3,a3,ae,a0⟩
      refine c_if l a3 (fun a2=>?_) (fun a2=>?_)
      ·have B:=cond_t a2 a0
       obtain ⟨D,F,B⟩:=bind_some B
       obtain ⟨y,z,g,A,f⟩:=ae.ownOpen (j:=0) rfl F
       refine c_sq [vI x3f, .slice y D.length z] [6,7,8,10,11,14] a3 (.cell (f.bx 4 2 rfl rfl) (.prop A (.cell ((arrAddr b6 0 (Int.toNat x3f)) ▸ (f.box (i:=2) rfl (getElem?_app_right [] _ _ g []))) .nil))) fun g q=>?_
       obtain ⟨C,g,B⟩:=bind_some B
       obtain ⟨g,_,l,m,o,hehv3599,p⟩:=arrGet (Ty.mono _ (zt k2 k3) hx_x2h) rfl g
       obtain rfl:=List.head_eq_of_cons_eq hehv3599
       refine c_sq [vI x3f, .slice m C.length o] [6,8,10,11,14,15] q (.cell (f.bx 4 2 rfl rfl) (.prop g (.cell ((arrAddr W 1 x3f.toNat) ▸ (f.box (i:=5) rfl (getElem?_app_right [.slice o_x2l x2l.length c_x2l] _ _ l []))) .nil))) fun g p=>?_
       refine c_seq ?_
       have f:=f.drew
       refine c_regD (rD 9 [7]) [7] (fun x=>x=t.drew) rfl ?_
       obtain ⟨q,g,B⟩:=bind_some B
       obtain ⟨g,_,o,l,m,hehv3612,t⟩:=arrGet (Ty.mono _ (zt k2 k3) hx_x1h) rfl g
       obtain rfl:=List.head_eq_of_cons_eq hehv3612
       refine c_E 7 [vI x3f, .slice l q.length m,vI x3m] [8,10,11,14,15,102,104] p (.cell (f.bx 4 2 rfl rfl) (.prop g (.cell ((arrAddr b2 1 x3f.toNat) ▸ (f.box (i:=6) rfl (getElem?_app_right [.slice o_x1l x1l.length c_x1l] _ _ o []))) (.cell (f.bx 4 4 rfl rfl) .nil)))) .nil fun g p=>?_
       obtain ⟨o,g,B⟩:=bind_some B
       refine c_call p (f103_ok fuel q x3m o g z5 _ _ f l m t) ?_
       rintro g l m ⟨p,k4,rfl,u⟩ f
       refine ⟨fun e=>absurd e (by decide),?_⟩
       refine p_qP 1 [] [(8,pB X 0),(10,pB b5 0),(11,pB b6 0),(14, .slice y D.length z),(15,vI (C.length:Int)),(16,vI o)] [] f (by kernel_rfl) (fun _=> .nil) fun f l=>?_
       refine c_dt (c_sr ?_)
       obtain ⟨q,f,B⟩:=bind_some B
       obtain ⟨m,o,f,g,t⟩:=u.ownTail (j:=0) rfl f
       refine c_n 3 [.slice m q.length o] [8,10,11,14,15,108] l (.prop f (.prop g .nil)) fun g f=>?_
       obtain ⟨Z,p,B⟩:=bind_some B
       refine c_call f (lendS u (j:=0) rfl fun f L3655 u g l=>f68_ok fuel q Z p f L3655 _ l m o (t _ g)) ?_
       rintro g o l ⟨z8,k6,rfl,m⟩ f
       refine tv ?_
       refine c_t [] [8,10,11,14,15,17] f .nil fun f p=>?_
       refine c_seq ?_
       have l:=m.drew
       refine c_regD (rD 8 [7]) [7] (fun x=>x=o.drew) rfl ?_
       obtain ⟨J,f,U⟩:=bind_some B
       obtain ⟨f,g,m⟩:=l.ownSub (j:=0) rfl f
       refine c_E 7 [vI x3f, .slice y J.length z] [8,10,11,17,114,116] p (.cell (l.bx 4 2 rfl rfl) (.prop f (.prop g (.prop A .nil)))) .nil fun g f=>?_
       refine p_storeA (i:=7) (j:=2) (b:=b6) (ix:=x3f) (pre:=[]) (vs:=[v1,v2,v3,v4,v5,v6,v7,v8,v9]) (post:=[]) (v:= .slice y J.length z) m f rfl (by have z2:=A.1; have P:=A.2; simp at P ⊢; omega) (by kernel_rfl) rfl fun a1 f g m=>⟨fun e=>absurd e (by decide),?_⟩
       obtain ⟨K,M,O,Q,R,S,V,W,X,f⟩:=nine (vs:=[v1,v2,v3,v4,v5,v6,v7,v8,v9].set (Int.toNat x3f) (.slice y J.length z)) (by simp)
       rw [f] at g
       have l:[K,M,O,Q,R,S,V,W,X][Int.toNat x3f]? =some (.slice y J.length z):=by rw [← f]; exact List.getElem?_set_self (by have z2:=A.1; have P:=A.2; simp at P ⊢; omega)
       have g:=g
       refine c_done ?_
       have g:=g.ownClose (j:=1) (k:=0) rfl rfl (by decide) (List.getElem?_eq_some_iff.1 (getI_spec F).2).1
       rw [f] at g
       refine n_then (c_seq (c_sq [vI x3k] [8,10,11,17,119] m (.cell (g.bx 4 0 rfl rfl) .nil) fun l q=>(c_if (x3k == (3:Int)) q (fun f=>?_) (fun f=>?_))))
       ·have B:=cond_t f U
        refine c_exit 2 (x_then (x_block (n_then ?_)))
        exact ⟨z8,(y2.set (Int.toNat x3f) J),K,M,O,Q,R,S,V,W,X,(zt (zt k3 k4) k6),q.to,(St.drop 1 g),B⟩
       ·have B:=cond_f f U
        refine c_skip (n_then ?_)
        obtain ⟨Y,l,U⟩:=bind_some B
        obtain ⟨m,o,g,p,f⟩:=g.ownOpen (j:=1) rfl l
        refine c_seq (c_q [vI x3t, .slice m Y.length o] [8,10,11,17,18] q (.cell (f.bx 5 3 rfl rfl) (.prop p (.cell ((arrAddr b6 0 (Int.toNat x3t)) ▸ (f.box (i:=3) rfl (getElem?_app_right [] _ _ g []))) .nil))) fun o m=>?_)
        have I:=f.ownClose' (j:=2) (k:=0) rfl rfl (by decide) g (getI_spec l).2
        refine n_then (c_sq [] [8,10,11,17,18,127] m .nil fun f H=>(c_if ((Y.length:Int) == (0:Int)) H (fun F=>?_) (fun F=>?_)))
        ·have B:=cond_t F U
         obtain ⟨f,D,B⟩:=bind_some B
         obtain ⟨g,l,o,m,f⟩:=I.ownOpen (j:=2) rfl D
         refine c_reg (c_n 3 [vI x3t] [10,11,129,130] H (.cell (f.bx 6 3 rfl rfl) .nil) fun p g=>(p_box (i:=3) (d:=(some 131)) (cs:=[.bool Z]) (T:=4) (v:=fun l=> .slice (some ⟨l,0,none⟩) 1 1) f g (fun b=>by kernel_rfl) fun l q t f o=>tv ?_))
         have g:=f.ownBox (T:=Ty.bool) (E:=4) (n:=1) (xs:=[Z]) (i:=0) rfl (Rows.cons (c:=[.bool Z]) rfl rfl) rfl (by decide)
         refine c_n 2 [] [10,11,131,133] o (.prop m .nil) fun o f=>?_
         refine p_storeA (i:=6) (j:=5) (b:=b6) (ix:=x3t) (pre:=[]) (vs:=[K,M,O,Q,R,S,V,W,X]) (post:=[]) (v:= .slice (some ⟨l,0,none⟩) 1 1) g f rfl (by have z2:=m.1; have P:=m.2; simp at P ⊢; omega) (by kernel_rfl) rfl fun g o f G=>tv ?_
         obtain ⟨o,p,q,t,u,y,z,A,C,g⟩:=nine (vs:=[K,M,O,Q,R,S,V,W,X].set (Int.toNat x3t) (.slice (some ⟨l,0,none⟩) 1 1)) (by simp)
         rw [g] at f
         have l:[o,p,q,t,u,y,z,A,C][Int.toNat x3t]? =some (.slice (some ⟨l,0,none⟩) 1 1):=by rw [← g]; exact List.getElem?_set_self (by have z2:=m.1; have P:=m.2; simp at P ⊢; omega)
         have f:=f
         refine c_done ?_
         have f:=f.ownClose (j:=4) (k:=0) rfl rfl (by decide) (List.getElem?_eq_some_iff.1 (getI_spec D).2).1
         simp only [List.length_cons,List.length_nil,Nat.zero_add] at f
         rw [g] at f
         refine n_block (n_then ?_)
         exact ⟨z8,((y2.set (Int.toNat x3f) J).set (Int.toNat x3t) ([Z])),o,p,q,t,u,y,z,A,C,(zt (zt k3 k4) k6),G.to,(St.drop 4 f),B⟩
        ·have B:=cond_f F U
         obtain ⟨y,C,B⟩:=bind_some B
         obtain ⟨p,q,A,t,f⟩:=I.ownOpen (j:=2) rfl C
         have u:=f.drew
         refine c_regD (rD 21 [20]) [20] (fun x=>x=a1.drew) rfl ?_
         obtain ⟨f,g,U⟩:=bind_some B
         obtain ⟨g,l,m,z,rfl,o⟩:=u.ownGet (j:=0) rfl g
         refine c_E 17 [vI x3t, .slice p y.length q,vI x3t, .slice p y.length q, .pointer (some g), .bool f] [10,11,17,138,140,150] H (.cell (u.bx 6 3 rfl rfl) (.prop t (.cell ((arrAddr b6 0 (Int.toNat x3t)) ▸ (u.box (i:=4) rfl (getElem?_app_right [] _ _ A []))) (.cell (u.bx 6 3 rfl rfl) (.prop t (.cell ((arrAddr b6 0 (Int.toNat x3t)) ▸ (u.box (i:=4) rfl (getElem?_app_right [] _ _ A []))) (.prop l (.prop m (.cell (o 0 _ rfl) .nil))))))))) .nil fun g t=>?_
         rcases bft f with m | m
         ·have B:=cond_t m U
          have o:=t.lit 150 m
          obtain ⟨g,f,B⟩:=bind_some B
          obtain ⟨g,l,f,p,rfl,q⟩:=u.ownGet (j:=0) rfl f
          refine c_E 3 [.pointer (some g)] [10,11,152,153] o (.prop l (.prop f .nil)) .nil fun f o=>?_
          obtain ⟨q,f,B⟩:=bind_some B
          have p:=setI_len f
          refine p_setOwnB (i:=20) (j:=0) (ad:=g) (ix:=(w64 ((Y.length:Int) - (1:Int)))) (x':=true) u o rfl l (by kernel_rfl) f fun f g l o=>?_
          refine ⟨fun e=>absurd e (by decide),?_⟩
          refine c_done ?_
          have f:=l.ownCloseL (j:=3) (k:=0) rfl rfl (by decide) A (getI_spec C).2 p.symm
          refine n_block (n_then ?_)
          exact ⟨z8,((y2.set (Int.toNat x3f) J).set (Int.toNat x3t) q),K,M,O,Q,R,S,V,W,X,(zt (zt k3 k4) k6),o.to,(St.drop 3 f),B⟩
         ·have B:=cond_f m U
          have m:=t.lit 150 m
          obtain ⟨g,f,B⟩:=bind_some B
          obtain ⟨g,l,f,o,rfl,p⟩:=u.ownGet (j:=0) rfl f
          refine c_E 3 [.pointer (some g)] [10,11,152,153] m (.prop l (.prop f .nil)) .nil fun f m=>?_
          obtain ⟨p,f,B⟩:=bind_some B
          have o:=setI_len f
          refine p_setOwnB (i:=20) (j:=0) (ad:=g) (ix:=(w64 ((Y.length:Int) - (1:Int)))) (x':=Z) u m rfl l (by kernel_rfl) f fun f g l m=>?_
          refine ⟨fun e=>absurd e (by decide),?_⟩
          refine c_done ?_
          have f:=l.ownCloseL (j:=3) (k:=0) rfl rfl (by decide) A (getI_spec C).2 o.symm
          refine n_block (n_then ?_)
          exact ⟨z8,((y2.set (Int.toNat x3f) J).set (Int.toNat x3t) p),K,M,O,Q,R,S,V,W,X,(zt (zt k3 k4) k6),m.to,(St.drop 3 f),B⟩
      ·have U:=cond_f a2 a0
       refine c_sq [] [5,6,8,10,11,35,154] a3 .nil fun f M=>?_
       refine c_if (x3k == (5:Int)) M (fun K=>?_) (fun K=>?_)
       ·have B:=cond_t K U
        obtain ⟨f,O,B⟩:=bind_some B
        obtain ⟨g,l,m,H,f⟩:=ae.ownOpen (j:=0) rfl O
        have m:=f.drew
        have l:=Sub.of zr m
        refine c_regD [(0,true),(1,true),(2,true),(3,true),(4,true),(5,true),(6,true),(7,true),(8,true),(10,true),(11,true),(13,true),(9,false),(12,false),(14,true),(15,false)] [15] _ l ?_
        obtain ⟨D,f,B⟩:=bind_some B
        obtain ⟨f,_,g,A,C,hehv3850,F⟩:=arrGet (Ty.mono _ (zt k2 k3) hx_x1h) rfl f
        obtain rfl:=List.head_eq_of_cons_eq hehv3850
        refine c_S 12 [vI x3f,vI x3f, .slice A D.length C,v0_x0,v1_x0,v2_x0,v3_x0,v4_x0,v5_x0,v6_x0,v7_x0,v8_x0,vI x3k,vI x3o,vI x3f,vI x3t,vI x3m,vI x3m] [10,11,157,162,163,164,167,169] l M (fun _ s=>(.cell (s.bx 4 2 rfl rfl) (.cell (s.bx 4 2 rfl rfl) (.prop f (.cell ((arrAddr b2 1 x3f.toNat) ▸ (s.box (i:=6) rfl (getElem?_app_right [.slice o_x1l x1l.length c_x1l] _ _ g []))) (.cell (s.bx 7 0 rfl rfl) (.cell (s.bx 7 1 rfl rfl) (.cell (s.bx 7 2 rfl rfl) (.cell (s.bx 7 3 rfl rfl) (.cell (s.bx 7 4 rfl rfl) (.cell (s.bx 7 5 rfl rfl) (.cell (s.bx 7 6 rfl rfl) (.cell (s.bx 7 7 rfl rfl) (.cell (s.bx 7 8 rfl rfl) (.cell (s.bx 4 0 rfl rfl) (.cell (s.bx 4 1 rfl rfl) (.cell (s.bx 4 2 rfl rfl) (.cell (s.bx 4 3 rfl rfl) (.cell (s.bx 4 4 rfl rfl) (.cell (s.bx 4 4 rfl rfl) .nil)))))))))))))))))))) .nil fun f g=>?_
        obtain ⟨l,f,B⟩:=bind_some B
        refine c_call g (f105_ok fuel x0 x3k x3o x3f x3t x3m l f z5 _ _ m v0_x0 v1_x0 v2_x0 v3_x0 v4_x0 v5_x0 v6_x0 v7_x0 v8_x0 (Ty.mono _ (zt k2 k3) hx_x0)) ?_
        rintro g m o ⟨q,t,u,p,rfl,f,y⟩ z
        refine ⟨fun _=>Sub.of p f,?_⟩
        have g:=Sub.of p f
        obtain ⟨o,g,B⟩:=bind_some B
        refine c_call z (f104_ok fuel D l x3m o g q _ _ f A C (SliceR.mono p F) t u y) ?_
        rintro g q t ⟨J,l,m,G,rfl,f⟩ u
        refine ⟨fun _=>Sub.of (zt p G) (St.drop 1 f),?_⟩
        have g:=Sub.of (zt p G) (St.drop 1 f)
        refine c_S 1 [] [10,11,168,170] g u (fun _ s=>(.prop H .nil)) .nil fun q g=>?_
        refine p_storeA (i:=15) (j:=3) (b:=b6) (ix:=x3f) (pre:=[]) (vs:=[v1,v2,v3,v4,v5,v6,v7,v8,v9]) (post:=[]) (v:= .slice l o.length m) f g rfl (by have z2:=H.1; have P:=H.2; simp at P ⊢; omega) (by kernel_rfl) rfl fun g q f I=>⟨fun e=>absurd e (by decide),?_⟩
        obtain ⟨q,t,u,y,z,A,C,D,F,g⟩:=nine (vs:=[v1,v2,v3,v4,v5,v6,v7,v8,v9].set (Int.toNat x3f) (.slice l o.length m)) (by simp)
        rw [g] at f
        have l:[q,t,u,y,z,A,C,D,F][Int.toNat x3f]? =some (.slice l o.length m):=by rw [← g]; exact List.getElem?_set_self (by have z2:=H.1; have P:=H.2; simp at P ⊢; omega)
        have f:=f
        refine c_done ?_
        have f:=f.ownClose (j:=2) (k:=0) rfl rfl (by decide) (List.getElem?_eq_some_iff.1 (getI_spec O).2).1
        rw [g] at f
        refine n_block (n_then ?_)
        exact ⟨J,(y2.set (Int.toNat x3f) o),q,t,u,y,z,A,C,D,F,(zt (zt k3 p) G),I.to,(St.drop 2 f),B⟩
       ·have U:=cond_f K U
        refine c_sq [] [8,10,11,171] M .nil fun f J=>?_
        refine c_if (x3k == (6:Int)) J (fun I=>?_) (fun I=>?_)
        ·have B:=cond_t I U
         obtain ⟨q,l,B⟩:=bind_some B
         obtain ⟨m,o,g,p,f⟩:=ae.ownOpen (j:=0) rfl l
         refine c_seq (c_q [vI x3f, .slice m q.length o] [8,10,11,19] J (.cell (f.bx 4 2 rfl rfl) (.prop p (.cell ((arrAddr b6 0 (Int.toNat x3f)) ▸ (f.box (i:=2) rfl (getElem?_app_right [] _ _ g []))) .nil))) fun m D=>?_)
         have f:=f.ownClose' (j:=1) (k:=0) rfl rfl (by decide) g (getI_spec l).2
         refine n_then ?_
         obtain ⟨z,C,B⟩:=bind_some B
         obtain ⟨p,u,A,y,f⟩:=f.ownOpen (j:=1) rfl C
         refine c_sr ?_
         obtain ⟨q,g,B⟩:=bind_some B
         obtain ⟨m,o,g,l,t⟩:=f.ownTail (j:=0) rfl g
         refine c_n 8 [vI x3f, .slice p z.length u, .slice m q.length o] [8,10,11,19,186] D (.cell (f.bx 5 2 rfl rfl) (.prop y (.cell ((arrAddr b6 0 (Int.toNat x3f)) ▸ (f.box (i:=3) rfl (getElem?_app_right [] _ _ A []))) (.prop g (.prop l .nil))))) fun l g=>?_
         obtain ⟨y,p,B⟩:=bind_some B
         refine c_call g (lendS f (j:=0) rfl fun f L3960 u g l=>f68_ok fuel q y p f L3960 _ l m o (t _ g)) ?_
         rintro g l m ⟨K,M,rfl,o⟩ f
         refine tv ?_
         refine c_z [] [8,10,11,19,20] f .nil fun f D=>?_
         have f:=o.ownClose' (j:=2) (k:=0) rfl rfl (by decide) A (getI_spec C).2
         refine n_then ?_
         obtain ⟨z,H,B⟩:=bind_some B
         obtain ⟨q,t,u,p,f⟩:=f.ownOpen (j:=2) rfl H
         have g:=f.drew
         have l:=Sub.of zr (g.mask (i:=0) rfl)
         refine c_regD [(0,true),(1,true),(2,true),(3,true),(4,true),(5,true),(6,true),(7,true),(8,true),(9,true),(10,true),(13,true),(11,false),(12,false),(14,true),(15,false)] [15] _ l ?_
         obtain ⟨m,f,B⟩:=bind_some B
         obtain ⟨f,g,o⟩:=g.ownSub (j:=0) rfl f
         refine c_S 12 [vI x3f,vI x3f, .slice q z.length t, .slice q m.length t] [10,11,189,197,198,201] l D (fun _ s=>(.cell (s.bx 6 2 rfl rfl) (.cell (s.bx 6 2 rfl rfl) (.prop p (.cell ((arrAddr b6 0 (Int.toNat x3f)) ▸ (s.box (i:=4) rfl (getElem?_app_right [] _ _ u []))) (.prop f (.prop g .nil))))))) .nil fun g f=>?_
         refine p_box (i:=11) (d:=(some 199)) (cs:=[.bool y]) (T:=4) (v:=fun g=> .slice (some ⟨g,0,none⟩) 1 1) o f (fun b=>by kernel_rfl) fun g l m f o=>⟨fun _=>Sub.of zr ((St.drop 1 f).mask (i:=0) rfl),?_⟩
         have f:=f.ownBox (T:=Ty.bool) (E:=4) (n:=1) (xs:=[y]) (i:=0) rfl (Rows.cons (c:=[.bool y]) rfl rfl) rfl (by decide)
         have l:=Sub.of zr ((St.drop 1 f).mask (i:=0) rfl)
         obtain ⟨t,l,B⟩:=bind_some B
         refine p_append (T:=Ty.bool) (i:=12) (j:=1) (d:=some 200) (o2:=(some ⟨g,0,none⟩)) (c2:=1) (ys:=([y])) el126 f o rfl (by kernel_rfl) (f.ownSrc (j:=0) rfl) l fun l m g q f o=>⟨fun _=>Sub.of zr ((St.drop 1 f).mask (i:=0) rfl),?_⟩
         have g:=Sub.of zr ((St.drop 1 f).mask (i:=0) rfl)
         refine c_S 1 [] [10,11,200,202] g o (fun _ s=>(.prop p .nil)) .nil fun o g=>?_
         refine p_storeA (i:=15) (j:=5) (b:=b6) (ix:=x3f) (pre:=[]) (vs:=[v1,v2,v3,v4,v5,v6,v7,v8,v9]) (post:=[]) (v:= .slice l t.length m) f g rfl (by have z2:=p.1; have P:=p.2; simp at P ⊢; omega) (by kernel_rfl) rfl fun g o f G=>⟨fun e=>absurd e (by decide),?_⟩
         obtain ⟨o,q,u,y,z,A,C,D,F,g⟩:=nine (vs:=[v1,v2,v3,v4,v5,v6,v7,v8,v9].set (Int.toNat x3f) (.slice l t.length m)) (by simp)
         rw [g] at f
         have l:[o,q,u,y,z,A,C,D,F][Int.toNat x3f]? =some (.slice l t.length m):=by rw [← g]; exact List.getElem?_set_self (by have z2:=p.1; have P:=p.2; simp at P ⊢; omega)
         have f:=f
         refine c_done ?_
         have f:=f.ownClose (j:=4) (k:=1) rfl rfl (by decide) (List.getElem?_eq_some_iff.1 (getI_spec H).2).1
         rw [g] at f
         refine n_block (n_then ?_)
         exact ⟨K,(y2.set (Int.toNat x3f) t),o,q,u,y,z,A,C,D,F,(zt k3 M),G.to,(St.drop 4 f),B⟩
        ·have B:=cond_f I U
         refine c_skip (n_block (n_then ?_))
         exact ⟨z5,y2,v1,v2,v3,v4,v5,v6,v7,v8,v9,k3,J.to,ae,B⟩
  ·rintro l m ⟨z4,y1,a4,a5,a6,a7,a8,a9,aa,ab,ac,p,g,f,B⟩
   refine c_sr (c_n 1 [a4,a5,a6,a7,a8,a9,aa,ab,ac] [10,203] g (.cell (f.bx 1 0 rfl rfl) (.cell (f.bx 1 1 rfl rfl) (.cell (f.bx 1 2 rfl rfl) (.cell (f.bx 1 3 rfl rfl) (.cell (f.bx 1 4 rfl rfl) (.cell (f.bx 1 5 rfl rfl) (.cell (f.bx 1 6 rfl rfl) (.cell (f.bx 1 7 rfl rfl) (.cell (f.bx 1 8 rfl rfl) .nil))))))))) fun g l=>?_)
   have g:=f.ownOnes (j:=0) rfl
   refine p_store_eq (i:=1) (j:=2) (b:=b5) (off:=0) (vs:=[a4,a5,a6,a7,a8,a9,aa,ab,ac]) (cs':=[a4,a5,a6,a7,a8,a9,aa,ab,ac]) f l rfl (by kernel_rfl) g rfl fun g l f m=>tv ?_
   refine c_dt (c_ret ?_)
   obtain ⟨g,l,f,o⟩:=f.ownShareN (j:=0) rfl (n:=9) rfl
   refine c_rt [a4,a5,a6,a7,a8,a9,aa,ab,ac] (.agg #[a4,a5,a6,a7,a8,a9,aa,ab,ac]) m (.cell (f.bx 2 0 rfl rfl) (.cell (f.bx 2 1 rfl rfl) (.cell (f.bx 2 2 rfl rfl) (.cell (f.bx 2 3 rfl rfl) (.cell (f.bx 2 4 rfl rfl) (.cell (f.bx 2 5 rfl rfl) (.cell (f.bx 2 6 rfl rfl) (.cell (f.bx 2 7 rfl rfl) (.cell (f.bx 2 8 rfl rfl) .nil))))))))) ?_
   obtain rfl:=some_eq B
   exact ⟨_,rfl,g,a4,a5,a6,a7,a8,a9,aa,ab,ac,(zt (zt k2 p) l),rfl,(St.drop 7 f),(Ty.mono _ zr o)⟩
def F67_j1 (fuel:Nat) (k1:(List (List (List Bool)))→(List (List Bool))→(List Lot)→(List (List (List Part)))→Int→Option (List (List (List Bool)))) (x1:List Deed) (x2:Int) (y1:List (List (List Bool))) (y2:List (List Bool)) (y3:List Lot) (y4:List (List (List Part))) (y5:Int) (y6:List Lot) (y7:List (List (List Part))):Option (List (List (List Bool))) :=
  ((getI x1 y5).bind fun p1=>((F89 fuel y2 y3 y4 y6 y7 p1.kind p1.lot p1.frm p1.to p1.mass x2).bind fun r1=>((appC y1 ([r1])).bind fun d1=>(k1 d1 r1 y6 y7 (w64 (y5 + (1:Int)))))))
def F67_l1 (fuel:Nat) (x1:List Deed) (x2:Int):Nat→(List (List (List Bool)))→(List (List Bool))→(List Lot)→(List (List (List Part)))→Int→Option (List (List (List Bool)))
  | 0,_,_,_,_,_=>none
  | n1 + 1,y1,y2,y3,y4,y5 =>
    let k1:(List (List (List Bool)))→(List (List Bool))→(List Lot)→(List (List (List Part)))→Int→Option (List (List (List Bool))):=F67_l1 fuel x1 x2 n1
    (cond (decide (y5<(x1.length:Int))) ((getI x1 y5).bind fun p2=>((F22 fuel y3 y4 p2.kind p2.lot p2.frm p2.to p2.mass).bind fun r2=>(F67_j1 fuel k1 x1 x2 y1 y2 y3 y4 y5 r2.1 r2.2.1))) (some (y1)))
def F67 (fuel:Nat) (x0:List Lot) (x1:List Deed) (x2:Int):Option (List (List (List Bool))) :=
  ((appC ([]) x0).bind fun d2=>(F67_l1 fuel x1 x2 fuel ([]) ([[],[],[],[],[],[],[],[],[]]) d2 ([[],[],[],[],[],[],[],[],[]]) 0))
set_option maxRecDepth 100000 in
theorem f67_ok (fuel:Nat) (x0:List Lot) (x1:List Deed) (x2:Int) (r:List (List (List Bool))) (hr:F67 fuel x0 x1 x2=some r) (h:Zone) (L:List Atom) (w:World) (hS:St h L w) (o_x0:Option Addr) (c_x0:Nat) (hx_x0:SliceR LotT h o_x0 c_x0 x0) (o_x1:Option Addr) (c_x1:Nat) (hx_x1:SliceR DeedT h o_x1 c_x1 x1) :
    Calls Tryz.prog 67 #[.slice o_x0 x0.length c_x0, .slice o_x1 x1.length c_x1,vI x2] w fun e w'=>∃v,e= .returned v∧(∃h',∃o0:Option Addr,∃c0:Nat,Zone.le h h'∧v= .slice o0 r.length c0∧St h' L w'∧SliceR (Ty.arr 9 (Ty.slice Ty.bool)) h' o0 c0 r):=by
 refine calls_intro (N:=49) Tryz.func67 (by kernel_rfl) fun a hf=>?_
 refine c_sq [] [0,1,2] hf .nil fun f g=>?_
 refine c_sr (p_box (i:=0) (d:=(some 14)) (cs:=[]) (T:=43) (v:=fun f=> .slice (some ⟨f,0,none⟩) 0 0) hS g (fun b=>by kernel_rfl) fun f l m g k=>tv ?_)
 have f:=g.ownBox (T:=LotT) (E:=43) (n:=0) (xs:=[]) (i:=0) rfl rfl rfl (by decide)
 refine c_n 1 [] [1,2,14,15] k .nil fun g k=>?_
 obtain ⟨y,g,I⟩:=bind_some hr
 refine p_append (T:=LotT) (i:=2) (j:=0) (d:=some 16) (o2:=o_x0) (c2:=c_x0) (ys:=x0) el22 f k rfl (by kernel_rfl) (SliceR.src hx_x0 f) g fun t u k l g f=>tv ?_
 refine c_n 1 [] [1,2,17] f .nil fun k f=>?_
 refine c_box [N0,N0,N0,N0,N0,N0,N0,N0,N0,N0] 29 g f fun Z k l f g=>tv ?_
 refine c_st 0 [.slice t y.length u,N0,N0,N0,N0,N0,N0,N0,N0,N0] f g rfl fun k l f g=>tv ?_
 refine c_dt (c_sr (c_box [N0,N0,N0,N0,N0,N0,N0,N0,N0] 129 f g fun Y l m k f=>tv (c_dt (c_sq [] [1,2,7,8,9] f .nil fun o g=>(c_seq (c_sq [] [1,2,7,8,9,10] g .nil fun p q=>(c_block 0 ?_)))))))
 obtain ⟨f,k2,g,k⟩:=k.share (j:=2) rfl
 have g:=g.ownNil (Ty.arr 9 (Ty.slice Ty.bool)) 129
 refine c_loop (fun n a w=>∃z2:Zone,∃U:List (List (List Bool)),∃y2:List (List Bool),∃y3:List Lot,∃y4:List (List (List Part)),∃X:Int,∃V:Option Addr,∃W:Nat,∃v1:Value,∃v2:Value,∃v3:Value,∃v4:Value,∃v5:Value,∃v6:Value,∃v7:Value,∃v8:Value,∃v9:Value,∃e3:Option Addr,∃q3:Nat,∃a1:Value,∃a2:Value,∃a3:Value,∃a4:Value,∃a5:Value,∃a6:Value,∃a7:Value,∃a8:Value,∃a9:Value,Zone.le f z2∧Fr a 49 [(1, .slice o_x1 x1.length c_x1),(2,vI x2),(7,pB Z 0),(8,pB Y 0),(9, .slice V U.length W),(10,vI X)]∧St z2 (ownS (Ty.arr 9 (Ty.slice Ty.bool)) 129 V W U::box Y [v1,v2,v3,v4,v5,v6,v7,v8,v9] 129::box Z [.slice e3 y3.length q3,a1,a2,a3,a4,a5,a6,a7,a8,a9] 29::emp::L) w∧(Ty.arr 9 (Ty.slice Ty.bool)).rep z2 [v1,v2,v3,v4,v5,v6,v7,v8,v9] y2∧SliceR LotT z2 e3 q3 y3∧(Ty.arr 9 (Ty.slice (Ty.slice PartT))).rep z2 [a1,a2,a3,a4,a5,a6,a7,a8,a9] y4∧(F67_l1 fuel x1 x2 n U y2 y3 y4 X)=some r) fuel ⟨f,[],[[],[],[],[],[],[],[],[],[]],y,[[],[],[],[],[],[],[],[],[]],0,none,0,(N0),(N0),(N0),(N0),(N0),(N0),(N0),(N0),(N0),t,u,(N0),(N0),(N0),(N0),(N0),(N0),(N0),(N0),(N0),zr,q.to,g,⟨rfl,(Rows.cons (c:=[_]) (sliceRep (SliceR.nil' _ _)) (Rows.cons (c:=[_]) (sliceRep (SliceR.nil' _ _)) (Rows.cons (c:=[_]) (sliceRep (SliceR.nil' _ _)) (Rows.cons (c:=[_]) (sliceRep (SliceR.nil' _ _)) (Rows.cons (c:=[_]) (sliceRep (SliceR.nil' _ _)) (Rows.cons (c:=[_]) (sliceRep (SliceR.nil' _ _)) (Rows.cons (c:=[_]) (sliceRep (SliceR.nil' _ _)) (Rows.cons (c:=[_]) (sliceRep (SliceR.nil' _ _)) (Rows.cons (c:=[_]) (sliceRep (SliceR.nil' _ _)) rfl)))))))))⟩,k,⟨rfl,(Rows.cons (c:=[_]) (sliceRep (SliceR.nil' _ _)) (Rows.cons (c:=[_]) (sliceRep (SliceR.nil' _ _)) (Rows.cons (c:=[_]) (sliceRep (SliceR.nil' _ _)) (Rows.cons (c:=[_]) (sliceRep (SliceR.nil' _ _)) (Rows.cons (c:=[_]) (sliceRep (SliceR.nil' _ _)) (Rows.cons (c:=[_]) (sliceRep (SliceR.nil' _ _)) (Rows.cons (c:=[_]) (sliceRep (SliceR.nil' _ _)) (Rows.cons (c:=[_]) (sliceRep (SliceR.nil' _ _)) (Rows.cons (c:=[_]) (sliceRep (SliceR.nil' _ _)) rfl)))))))))⟩,I⟩ ?_
 rintro f g k ⟨z2,U,y2,y3,y4,X,V,W,v1,v2,v3,v4,v5,v6,v7,v8,v9,e3,q3,a1,a2,a3,a4,a5,a6,a7,a8,a9,k3,l,ar,au,al,am,aq⟩
 cases f with
 | zero=>cases aq
 | succ n1 =>
 refine c_seq (c_sq [] [1,2,7,8,9,10,21] l .nil fun f ap=>(c_if (decide (X<(x1.length:Int))) ap (fun ao=>?_) (fun ao=>?_)))
 ·have I:=cond_t ao aq
  refine c_skip (n_then (c_seq (c_block 1 (c_mid (fun a w=>∃z3:Zone,∃y6:List Lot,∃y7:List (List (List Part)),∃b4:Nat,∃e4:Option Addr,∃q4:Nat,∃aa:Value,∃ab:Value,∃ac:Value,∃ad:Value,∃ae:Value,∃af:Value,∃ag:Value,∃ah:Value,∃ai:Value,Zone.le z2 z3∧Fr a 49 [(1, .slice o_x1 x1.length c_x1),(2,vI x2),(7,pB Z 0),(8,pB Y 0),(9, .slice V U.length W),(10,vI X),(11,pB b4 0)]∧St z3 (box b4 [.slice e4 y6.length q4,aa,ab,ac,ad,ae,af,ag,ah,ai] 29::ownS (Ty.arr 9 (Ty.slice Ty.bool)) 129 V W U::box Y [v1,v2,v3,v4,v5,v6,v7,v8,v9] 129::box Z [.slice e3 y3.length q3,a1,a2,a3,a4,a5,a6,a7,a8,a9] 29::emp::L) w∧SliceR LotT z3 e4 q4 y6∧(Ty.arr 9 (Ty.slice (Ty.slice PartT))).rep z3 [aa,ab,ac,ad,ae,af,ag,ah,ai] y7∧(F67_j1 fuel (F67_l1 fuel x1 x2 n1) x1 x2 U y2 y3 y4 X y6 y7)=some r) ?_ ?_))))
  ·skip
   have aj:=ar.drew
   have m:=Sub.of zr aj
   refine w_regB (by kernel_rfl) [5,12,13] (Sub z2 (ownS (Ty.arr 9 (Ty.slice Ty.bool)) 129 V W U::box Y [v1,v2,v3,v4,v5,v6,v7,v8,v9] 129::box Z [.slice e3 y3.length q3,a1,a2,a3,a4,a5,a6,a7,a8,a9] 29::emp::L)) (by kernel_rfl) ?_
   refine k_seg' 10 [(0,true),(1,true),(2,true),(3,true),(4,true)] (by kernel_rfl) (by kernel_rfl) (At.start m) (by kernel_rfl) ?_
   obtain ⟨M,f,ak⟩:=bind_some I
   obtain ⟨g,k,l,o,rfl,f⟩:=SliceR.getI (SliceR.mono (zt k2 k3) hx_x1) f
   refine c_S 5 [.slice e3 y3.length q3,a1,a2,a3,a4,a5,a6,a7,a8,a9, .pointer (some g),vI M.kind,vI M.lot,vI M.frm,vI M.to,vI M.mass] [1,2,7,8,9,10,25,29] m ap (fun _ s=>(.cell (s.bx 2 0 rfl rfl) (.cell (s.bx 2 1 rfl rfl) (.cell (s.bx 2 2 rfl rfl) (.cell (s.bx 2 3 rfl rfl) (.cell (s.bx 2 4 rfl rfl) (.cell (s.bx 2 5 rfl rfl) (.cell (s.bx 2 6 rfl rfl) (.cell (s.bx 2 7 rfl rfl) (.cell (s.bx 2 8 rfl rfl) (.cell (s.bx 2 9 rfl rfl) (.prop k (.prop l (.cell (s.cell (f 0 _ rfl)) (.cell (s.cell (f 1 _ rfl)) (.cell (s.cell (f 2 _ rfl)) (.cell (s.cell (f 3 _ rfl)) (.cell (s.cell (f 4 _ rfl)) .nil)))))))))))))))))) .nil fun f an=>?_
   refine c_done ?_
   intro f
   refine k_any' 9 [5,10,11] (by kernel_rfl) f (by kernel_rfl) (by kernel_rfl) ?_
   refine (all_cons ?_ (all_cons ?_ (all_cons ?_ all_nil)))
   ·skip
    obtain ⟨o,f,I⟩:=bind_some ak
    refine c_call an (f22_ok fuel y3 y4 M.kind M.lot M.frm M.to M.mass o f z2 _ _ aj e3 q3 al a1 a2 a3 a4 a5 a6 a7 a8 a9 (Ty.mono _ zr am)) ?_
    rintro f g k ⟨R,t,u,y,z,A,B,C,D,F,G,H,O,P,q,rfl,Q,S,K,l⟩ m
    refine ⟨fun e=>absurd e (by decide),?_⟩
    refine c_done ?_
    intro f
    refine k_seg' 5 [(6,true),(7,true),(8,true),(9,true)] (by kernel_rfl) (by kernel_rfl) f (by kernel_rfl) ?_
    refine p_qP 4 [] [(1, .slice o_x1 x1.length c_x1),(2,vI x2),(7,pB Z 0),(8,pB Y 0),(9, .slice V U.length W),(10,vI X),(31, .agg #[.slice t o.1.length u,y,z,A,B,C,D,F,G,H]),(32, .agg #[.slice O o.2.2.1.length P]),(33,vI o.2.2.2)] [] m (by kernel_rfl) (fun _=> .nil) fun f J=>?_
    refine c_done ?_
    intro f
    refine k_any' 4 [10,11] (by kernel_rfl) f (by kernel_rfl) (by kernel_rfl) ?_
    refine (all_cons ?_ (all_cons ?_ all_nil))
    ·skip
     refine c_box [N0,N0,N0,N0,N0,N0,N0,N0,N0,N0] 29 Q J fun p f k g l=>⟨fun _=>Sub.of q (St.drop 1 g),?_⟩
     refine c_done ?_
     intro f
     refine k_seg' 0 [(11,false),(12,false),(13,false),(14,true)] (by kernel_rfl) (by kernel_rfl) f (by kernel_rfl) ?_
     refine c_box [N0] 49 g l fun g k l f m=>⟨fun _=>Sub.of q (St.drop 2 f),?_⟩
     have g:=Sub.of q (St.drop 2 f)
     have g:=oneCells_of (Ty.one _ (Ty.mono _ zr K))
     refine p_store_eq (i:=12) (j:=1) (b:=p) (off:=0) (vs:=[.slice t o.1.length u,y,z,A,B,C,D,F,G,H]) (cs':=[.slice t o.1.length u,y,z,A,B,C,D,F,G,H]) f m rfl (by kernel_rfl) g rfl fun k l f g=>⟨fun e=>absurd e (by decide),?_⟩
     refine c_st 0 [.slice O o.2.2.1.length P] f g rfl fun g k l f=>⟨fun e=>absurd e (by decide),?_⟩
     refine p_qP 1 [] [(1, .slice o_x1 x1.length c_x1),(2,vI x2),(7,pB Z 0),(8,pB Y 0),(9, .slice V U.length W),(10,vI X),(11,pB p 0)] [] f (by kernel_rfl) (fun _=> .nil) fun f g=>?_
     refine c_done ?_
     intro f
     refine k_done' (by kernel_rfl) (by kernel_rfl) ?_
     refine n_then ?_
     exact ⟨R,o.1,o.2.1,p,t,u,y,z,A,B,C,D,F,G,H,q,g.to,(St.pick 2 [1] l (by kernel_rfl)),S,(Ty.mono _ zr K),I⟩
    ·skip
     refine c_box [N0] 49 Q J fun f k l g m=>⟨fun _=>Sub.of q (St.drop 1 g),?_⟩
     refine c_done ?_
     intro f
     refine k_seg' 0 [(10,false),(12,false),(13,false),(14,true)] (by kernel_rfl) (by kernel_rfl) f (by kernel_rfl) ?_
     refine c_box [N0,N0,N0,N0,N0,N0,N0,N0,N0,N0] 29 g m fun m g k f l=>⟨fun _=>Sub.of q (St.drop 2 f),?_⟩
     have g:=Sub.of q (St.drop 2 f)
     have g:=oneCells_of (Ty.one _ (Ty.mono _ zr K))
     refine p_store_eq (i:=12) (j:=0) (b:=m) (off:=0) (vs:=[.slice t o.1.length u,y,z,A,B,C,D,F,G,H]) (cs':=[.slice t o.1.length u,y,z,A,B,C,D,F,G,H]) f l rfl (by kernel_rfl) g rfl fun k l f g=>⟨fun e=>absurd e (by decide),?_⟩
     refine c_st 1 [.slice O o.2.2.1.length P] f g rfl fun g k l f=>⟨fun e=>absurd e (by decide),?_⟩
     refine p_qP 1 [] [(1, .slice o_x1 x1.length c_x1),(2,vI x2),(7,pB Z 0),(8,pB Y 0),(9, .slice V U.length W),(10,vI X),(11,pB m 0)] [] f (by kernel_rfl) (fun _=> .nil) fun f g=>?_
     refine c_done ?_
     intro f
     refine k_done' (by kernel_rfl) (by kernel_rfl) ?_
     refine n_then ?_
     exact ⟨R,o.1,o.2.1,m,t,u,y,z,A,B,C,D,F,G,H,q,g.to,(St.pick 2 [0] l (by kernel_rfl)),S,(Ty.mono _ zr K),I⟩
   ·skip
    refine c_box [N0,N0,N0,N0,N0,N0,N0,N0,N0,N0] 29 aj an fun O f g Q a0=>⟨fun _=>Sub.of zr (St.drop 1 Q),?_⟩
    refine c_done ?_
    intro f
    have g:=Sub.of zr (St.drop 1 Q)
    refine k_seg' 9 [] (by kernel_rfl) (by kernel_rfl) f (by kernel_rfl) ?_
    refine c_done ?_
    intro f
    refine k_any' 8 [5,11] (by kernel_rfl) f (by kernel_rfl) (by kernel_rfl) ?_
    refine (all_cons ?_ (all_cons ?_ all_nil))
    ·skip
     obtain ⟨k,f,I⟩:=bind_some ak
     refine c_call a0 (f22_ok fuel y3 y4 M.kind M.lot M.frm M.to M.mass k f z2 _ _ Q e3 q3 al a1 a2 a3 a4 a5 a6 a7 a8 a9 (Ty.mono _ zr am)) ?_
     rintro f g l ⟨R,p,q,t,u,y,z,A,B,C,D,F,G,H,K,rfl,J,S,P,m⟩ o
     refine ⟨fun e=>absurd e (by decide),?_⟩
     refine c_done ?_
     intro f
     refine k_seg' 0 [(6,true),(7,true),(8,true),(9,true),(11,false),(12,false),(13,false),(14,true)] (by kernel_rfl) (by kernel_rfl) f (by kernel_rfl) ?_
     refine p_qP 4 [] [(1, .slice o_x1 x1.length c_x1),(2,vI x2),(7,pB Z 0),(8,pB Y 0),(9, .slice V U.length W),(10,vI X),(11,pB O 0),(31, .agg #[.slice p k.1.length q,t,u,y,z,A,B,C,D,F]),(32, .agg #[.slice G k.2.2.1.length H]),(33,vI k.2.2.2)] [] o (by kernel_rfl) (fun _=> .nil) fun g f=>?_
     refine c_box [N0] 49 J f fun g l m f o=>⟨fun _=>Sub.of K (St.drop 2 f),?_⟩
     have g:=Sub.of K (St.drop 2 f)
     have g:=oneCells_of (Ty.one _ (Ty.mono _ zr P))
     refine p_store_eq (i:=12) (j:=1) (b:=O) (off:=0) (vs:=[.slice p k.1.length q,t,u,y,z,A,B,C,D,F]) (cs':=[.slice p k.1.length q,t,u,y,z,A,B,C,D,F]) f o rfl (by kernel_rfl) g rfl fun l m f g=>⟨fun e=>absurd e (by decide),?_⟩
     refine c_st 0 [.slice G k.2.2.1.length H] f g rfl fun g l m f=>⟨fun e=>absurd e (by decide),?_⟩
     refine p_qP 1 [] [(1, .slice o_x1 x1.length c_x1),(2,vI x2),(7,pB Z 0),(8,pB Y 0),(9, .slice V U.length W),(10,vI X),(11,pB O 0)] [] f (by kernel_rfl) (fun _=> .nil) fun f g=>?_
     refine c_done ?_
     intro f
     refine k_done' (by kernel_rfl) (by kernel_rfl) ?_
     refine n_then ?_
     exact ⟨R,k.1,k.2.1,O,p,q,t,u,y,z,A,B,C,D,F,K,g.to,(St.pick 2 [1] m (by kernel_rfl)),S,(Ty.mono _ zr P),I⟩
    ·skip
     refine c_box [N0] 49 Q a0 fun P f g k l=>⟨fun _=>Sub.of zr (St.drop 2 k),?_⟩
     refine c_done ?_
     intro f
     have g:=Sub.of zr (St.drop 2 k)
     refine k_seg' 0 [(5,false),(6,true),(7,true),(8,true),(9,true),(12,false),(13,false),(14,true)] (by kernel_rfl) (by kernel_rfl) f (by kernel_rfl) ?_
     obtain ⟨f,g,I⟩:=bind_some ak
     refine c_call l (f22_ok fuel y3 y4 M.kind M.lot M.frm M.to M.mass f g z2 _ _ k e3 q3 al a1 a2 a3 a4 a5 a6 a7 a8 a9 (Ty.mono _ zr am)) ?_
     rintro k F G ⟨Q,o,p,q,t,u,y,z,A,B,C,D,l,m,R,rfl,J,S,K,H⟩ g
     refine ⟨fun e=>absurd e (by decide),?_⟩
     refine p_qP 4 [] [(1, .slice o_x1 x1.length c_x1),(2,vI x2),(7,pB Z 0),(8,pB Y 0),(9, .slice V U.length W),(10,vI X),(11,pB O 0),(12,pB P 0),(31, .agg #[.slice o f.1.length p,q,t,u,y,z,A,B,C,D]),(32, .agg #[.slice l f.2.2.1.length m]),(33,vI f.2.2.2)] [] g (by kernel_rfl) (fun _=> .nil) fun g k=>?_
     have g:=oneCells_of (Ty.one _ (Ty.mono _ zr K))
     refine p_store_eq (i:=12) (j:=1) (b:=O) (off:=0) (vs:=[.slice o f.1.length p,q,t,u,y,z,A,B,C,D]) (cs':=[.slice o f.1.length p,q,t,u,y,z,A,B,C,D]) J k rfl (by kernel_rfl) g rfl fun F G g k=>⟨fun e=>absurd e (by decide),?_⟩
     refine c_st 0 [.slice l f.2.2.1.length m] g k rfl fun k l m g=>⟨fun e=>absurd e (by decide),?_⟩
     refine p_qP 1 [] [(1, .slice o_x1 x1.length c_x1),(2,vI x2),(7,pB Z 0),(8,pB Y 0),(9, .slice V U.length W),(10,vI X),(11,pB O 0)] [] g (by kernel_rfl) (fun _=> .nil) fun g k=>?_
     refine c_done ?_
     intro g
     refine k_done' (by kernel_rfl) (by kernel_rfl) ?_
     refine n_then ?_
     exact ⟨Q,f.1,f.2.1,O,o,p,q,t,u,y,z,A,B,C,D,R,k.to,(St.pick 2 [1] m (by kernel_rfl)),S,(Ty.mono _ zr K),I⟩
   ·skip
    refine c_box [N0] 49 aj an fun a0 f g P S=>⟨fun _=>Sub.of zr (St.drop 1 P),?_⟩
    refine c_done ?_
    intro f
    have g:=Sub.of zr (St.drop 1 P)
    refine k_seg' 9 [] (by kernel_rfl) (by kernel_rfl) f (by kernel_rfl) ?_
    refine c_done ?_
    intro f
    refine k_any' 8 [5,10] (by kernel_rfl) f (by kernel_rfl) (by kernel_rfl) ?_
    refine (all_cons ?_ (all_cons ?_ all_nil))
    ·skip
     obtain ⟨k,f,I⟩:=bind_some ak
     refine c_call S (f22_ok fuel y3 y4 M.kind M.lot M.frm M.to M.mass k f z2 _ _ P e3 q3 al a1 a2 a3 a4 a5 a6 a7 a8 a9 (Ty.mono _ zr am)) ?_
     rintro f g l ⟨Q,p,q,t,u,y,z,A,B,C,D,F,G,H,K,rfl,J,R,O,m⟩ o
     refine ⟨fun e=>absurd e (by decide),?_⟩
     refine c_done ?_
     intro f
     refine k_seg' 0 [(6,true),(7,true),(8,true),(9,true),(10,false),(12,false),(13,false),(14,true)] (by kernel_rfl) (by kernel_rfl) f (by kernel_rfl) ?_
     refine p_qP 4 [] [(1, .slice o_x1 x1.length c_x1),(2,vI x2),(7,pB Z 0),(8,pB Y 0),(9, .slice V U.length W),(10,vI X),(12,pB a0 0),(31, .agg #[.slice p k.1.length q,t,u,y,z,A,B,C,D,F]),(32, .agg #[.slice G k.2.2.1.length H]),(33,vI k.2.2.2)] [] o (by kernel_rfl) (fun _=> .nil) fun g f=>?_
     refine c_box [N0,N0,N0,N0,N0,N0,N0,N0,N0,N0] 29 J f fun o g l f m=>⟨fun _=>Sub.of K (St.drop 2 f),?_⟩
     have g:=Sub.of K (St.drop 2 f)
     have g:=oneCells_of (Ty.one _ (Ty.mono _ zr O))
     refine p_store_eq (i:=12) (j:=0) (b:=o) (off:=0) (vs:=[.slice p k.1.length q,t,u,y,z,A,B,C,D,F]) (cs':=[.slice p k.1.length q,t,u,y,z,A,B,C,D,F]) f m rfl (by kernel_rfl) g rfl fun l m f g=>⟨fun e=>absurd e (by decide),?_⟩
     refine c_st 1 [.slice G k.2.2.1.length H] f g rfl fun g l m f=>⟨fun e=>absurd e (by decide),?_⟩
     refine p_qP 1 [] [(1, .slice o_x1 x1.length c_x1),(2,vI x2),(7,pB Z 0),(8,pB Y 0),(9, .slice V U.length W),(10,vI X),(11,pB o 0)] [] f (by kernel_rfl) (fun _=> .nil) fun f g=>?_
     refine c_done ?_
     intro f
     refine k_done' (by kernel_rfl) (by kernel_rfl) ?_
     refine n_then ?_
     exact ⟨Q,k.1,k.2.1,o,p,q,t,u,y,z,A,B,C,D,F,K,g.to,(St.pick 2 [0] m (by kernel_rfl)),R,(Ty.mono _ zr O),I⟩
    ·skip
     refine c_box [N0,N0,N0,N0,N0,N0,N0,N0,N0,N0] 29 P S fun K f g k l=>⟨fun _=>Sub.of zr (St.drop 2 k),?_⟩
     refine c_done ?_
     intro f
     have g:=Sub.of zr (St.drop 2 k)
     refine k_seg' 0 [(5,false),(6,true),(7,true),(8,true),(9,true),(12,false),(13,false),(14,true)] (by kernel_rfl) (by kernel_rfl) f (by kernel_rfl) ?_
     obtain ⟨f,g,I⟩:=bind_some ak
     refine c_call l (f22_ok fuel y3 y4 M.kind M.lot M.frm M.to M.mass f g z2 _ _ k e3 q3 al a1 a2 a3 a4 a5 a6 a7 a8 a9 (Ty.mono _ zr am)) ?_
     rintro k F G ⟨O,o,p,q,t,u,y,z,A,B,C,D,l,m,P,rfl,J,Q,M,H⟩ g
     refine ⟨fun e=>absurd e (by decide),?_⟩
     refine p_qP 4 [] [(1, .slice o_x1 x1.length c_x1),(2,vI x2),(7,pB Z 0),(8,pB Y 0),(9, .slice V U.length W),(10,vI X),(11,pB K 0),(12,pB a0 0),(31, .agg #[.slice o f.1.length p,q,t,u,y,z,A,B,C,D]),(32, .agg #[.slice l f.2.2.1.length m]),(33,vI f.2.2.2)] [] g (by kernel_rfl) (fun _=> .nil) fun g k=>?_
     have g:=oneCells_of (Ty.one _ (Ty.mono _ zr M))
     refine p_store_eq (i:=12) (j:=0) (b:=K) (off:=0) (vs:=[.slice o f.1.length p,q,t,u,y,z,A,B,C,D]) (cs':=[.slice o f.1.length p,q,t,u,y,z,A,B,C,D]) J k rfl (by kernel_rfl) g rfl fun F G g k=>⟨fun e=>absurd e (by decide),?_⟩
     refine c_st 1 [.slice l f.2.2.1.length m] g k rfl fun k l m g=>⟨fun e=>absurd e (by decide),?_⟩
     refine p_qP 1 [] [(1, .slice o_x1 x1.length c_x1),(2,vI x2),(7,pB Z 0),(8,pB Y 0),(9, .slice V U.length W),(10,vI X),(11,pB K 0)] [] g (by kernel_rfl) (fun _=> .nil) fun g k=>?_
     refine c_done ?_
     intro g
     refine k_done' (by kernel_rfl) (by kernel_rfl) ?_
     refine n_then ?_
     exact ⟨O,f.1,f.2.1,K,o,p,q,t,u,y,z,A,B,C,D,P,k.to,(St.pick 2 [0] m (by kernel_rfl)),Q,(Ty.mono _ zr M),I⟩
  ·rintro g k ⟨z3,y6,y7,b4,e4,q4,aa,ab,ac,ad,ae,af,ag,ah,ai,J,q,f,P,M,I⟩
   refine c_seq ?_
   have f:=f.drew
   refine c_regD (rD 10 [8,9]) [8,9] (fun x=>x=k.drew) rfl ?_
   obtain ⟨g,k,I⟩:=bind_some I
   obtain ⟨l,m,o,p,rfl,k⟩:=SliceR.getI (SliceR.mono (zt (zt k2 k3) J) hx_x1) k
   refine c_E 8 [v1,v2,v3,v4,v5,v6,v7,v8,v9, .slice e3 y3.length q3,a1,a2,a3,a4,a5,a6,a7,a8,a9, .slice e4 y6.length q4,aa,ab,ac,ad,ae,af,ag,ah,ai, .pointer (some l),vI g.kind,vI g.lot,vI g.frm,vI g.to,vI g.mass] [1,2,7,8,9,10,11,34,35,36,40,41] q (.cell (f.bx 2 0 rfl rfl) (.cell (f.bx 2 1 rfl rfl) (.cell (f.bx 2 2 rfl rfl) (.cell (f.bx 2 3 rfl rfl) (.cell (f.bx 2 4 rfl rfl) (.cell (f.bx 2 5 rfl rfl) (.cell (f.bx 2 6 rfl rfl) (.cell (f.bx 2 7 rfl rfl) (.cell (f.bx 2 8 rfl rfl) (.cell (f.bx 3 0 rfl rfl) (.cell (f.bx 3 1 rfl rfl) (.cell (f.bx 3 2 rfl rfl) (.cell (f.bx 3 3 rfl rfl) (.cell (f.bx 3 4 rfl rfl) (.cell (f.bx 3 5 rfl rfl) (.cell (f.bx 3 6 rfl rfl) (.cell (f.bx 3 7 rfl rfl) (.cell (f.bx 3 8 rfl rfl) (.cell (f.bx 3 9 rfl rfl) (.cell (f.bx 0 0 rfl rfl) (.cell (f.bx 0 1 rfl rfl) (.cell (f.bx 0 2 rfl rfl) (.cell (f.bx 0 3 rfl rfl) (.cell (f.bx 0 4 rfl rfl) (.cell (f.bx 0 5 rfl rfl) (.cell (f.bx 0 6 rfl rfl) (.cell (f.bx 0 7 rfl rfl) (.cell (f.bx 0 8 rfl rfl) (.cell (f.bx 0 9 rfl rfl) (.prop m (.prop o (.cell (f.cell (k 0 _ rfl)) (.cell (f.cell (k 1 _ rfl)) (.cell (f.cell (k 2 _ rfl)) (.cell (f.cell (k 3 _ rfl)) (.cell (f.cell (k 4 _ rfl)) .nil)))))))))))))))))))))))))))))))))))) .nil fun k l=>?_
   obtain ⟨G,k,I⟩:=bind_some I
   refine c_call l (f89_ok fuel y2 y3 y4 y6 y7 g.kind g.lot g.frm g.to g.mass x2 G k z3 _ _ f v1 v2 v3 v4 v5 v6 v7 v8 v9 (Ty.mono _ J au) e3 q3 (SliceR.mono J al) a1 a2 a3 a4 a5 a6 a7 a8 a9 (Ty.mono _ J am) e4 q4 P aa ab ac ad ae af ag ah ai (Ty.mono _ zr M)) ?_
   rintro f g k ⟨O,l,m,o,p,q,t,u,y,z,F,rfl,A,H⟩ B
   refine ⟨fun e=>absurd e (by decide),?_⟩
   have f:=oneCells_of (Ty.one _ (Ty.mono _ zr H))
   refine p_store_eq (i:=9) (j:=2) (b:=Y) (off:=0) (vs:=[l,m,o,p,q,t,u,y,z]) (cs':=[l,m,o,p,q,t,u,y,z]) A B rfl (by kernel_rfl) f rfl fun k A f g=>⟨fun e=>absurd e (by decide),?_⟩
   refine c_dt (c_sr (c_n 2 [l,m,o,p,q,t,u,y,z] [1,2,7,8,10,11,43,44] g (.cell (f.bx 2 0 rfl rfl) (.cell (f.bx 2 1 rfl rfl) (.cell (f.bx 2 2 rfl rfl) (.cell (f.bx 2 3 rfl rfl) (.cell (f.bx 2 4 rfl rfl) (.cell (f.bx 2 5 rfl rfl) (.cell (f.bx 2 6 rfl rfl) (.cell (f.bx 2 7 rfl rfl) (.cell (f.bx 2 8 rfl rfl) .nil))))))))) fun A g=>(p_box (i:=2) (d:=(some 45)) (cs:=[l,m,o,p,q,t,u,y,z]) (T:=129) (v:=fun k=> .slice (some ⟨k,0,none⟩) 1 1) f g (fun b=>by kernel_rfl) fun k B C f D=>tv ?_)))
   have f:=f.ownBox (T:=(Ty.arr 9 (Ty.slice Ty.bool))) (E:=129) (n:=1) (xs:=[G]) (i:=0) rfl (Rows.cons (c:=[l,m,o,p,q,t,u,y,z]) (Ty.mono _ zr H) rfl) rfl (by decide)
   obtain ⟨K,g,I⟩:=bind_some I
   refine p_append (T:=(Ty.arr 9 (Ty.slice Ty.bool))) (i:=3) (j:=2) (d:=some 46) (o2:=(some ⟨k,0,none⟩)) (c2:=1) (ys:=([G])) el123 f D rfl (by kernel_rfl) (f.ownSrc (j:=0) rfl) g fun B C k A f g=>tv ?_
   refine c_t [] [1,2,7,8,9,10,11] g .nil fun k g=>?_
   refine c_reg (c_n 1 [.slice e4 y6.length q4,aa,ab,ac,ad,ae,af,ag,ah,ai] [1,2,7,8,9,10,47] g (.cell (f.bx 1 0 rfl rfl) (.cell (f.bx 1 1 rfl rfl) (.cell (f.bx 1 2 rfl rfl) (.cell (f.bx 1 3 rfl rfl) (.cell (f.bx 1 4 rfl rfl) (.cell (f.bx 1 5 rfl rfl) (.cell (f.bx 1 6 rfl rfl) (.cell (f.bx 1 7 rfl rfl) (.cell (f.bx 1 8 rfl rfl) (.cell (f.bx 1 9 rfl rfl) .nil)))))))))) fun g k=>?_)
   have g:=oneCells_of (Ty.one _ (Ty.mono _ F M))
   refine p_store_eq (i:=1) (j:=4) (b:=Z) (off:=0) (vs:=[.slice e4 y6.length q4,aa,ab,ac,ad,ae,af,ag,ah,ai]) (cs':=[.slice e4 y6.length q4,aa,ab,ac,ad,ae,af,ag,ah,ai]) f k rfl (by kernel_rfl) g rfl fun k A g f=>tv ?_
   refine c_done (n_block (n_then (c_q [] [1,2,7,8,9,10] f .nil fun k f=>(n_then ?_))))
   exact ⟨n1,Nat.lt_succ_self n1,O,K,G,y6,y7,(w64 (X + (1:Int))),B,C,l,m,o,p,q,t,u,y,z,e4,q4,aa,ab,ac,ad,ae,af,ag,ah,ai,(zt (zt k3 J) F),f.to,(St.drop 2 g),(Ty.mono _ zr H),(SliceR.mono F P),(Ty.mono _ F M),I⟩
 ·have I:=cond_f ao aq
  refine c_exit 0 (x_then (x_then (x_block (n_then (c_sq [] [6] ap .nil fun g f=>(c_ret ?_))))))
  obtain ⟨g,k,l,m⟩:=ar.share (j:=0) rfl
  refine c_rt [] (.slice V U.length W) f .nil ?_
  obtain rfl:=some_eq I
  exact ⟨_,rfl,g,V,W,(zt (zt k2 k3) k),rfl,(St.drop 4 l),m⟩
def F31_j2 (k1:(List Int)→Int→Option (List Int×Int)) (y1:Int) (y2:List Int):Option (List Int×Int) :=
  (k1 y2 (w64 (y1 + (1:Int))))
def F31_j1 (fuel:Nat) (k1:(List Int)→Int→Option (List Int×Int)) (r1:List (List (List Bool))) (y3:List Int) (y1:Int) (y4:Bool):Option (List Int×Int) :=
  (cond y4 ((getI r1 (w64 ((r1.length:Int) - (1:Int)))).bind fun p1=>((getI p1 y1).bind fun p2=>((F68 fuel p2).bind fun r2=>(cond r2 ((appC y3 ([y1])).bind fun d1=>(F31_j2 k1 y1 d1)) (F31_j2 k1 y1 y3))))) (some (y3,0)))
def F31_l1 (fuel:Nat) (r1:List (List (List Bool))):Nat→(List Int)→Int→Option (List Int×Int)
  | 0,_,_=>none
  | n1 + 1,y3,y1 =>
    let k1:(List Int)→Int→Option (List Int×Int):=F31_l1 fuel r1 n1
    (cond (decide (y1<(9:Int))) (F31_j1 fuel k1 r1 y3 y1 (decide ((r1.length:Int) > (0:Int)))) (F31_j1 fuel k1 r1 y3 y1 false))
def F31 (fuel:Nat) (x0:List Lot) (x1:List Deed) (x2:Int):Option (List Int×Int) :=
  ((F7 fuel x0 x1).bind fun r3=>(cond (r3.2.2.2 != (0:Int)) (some ([],r3.2.2.2)) ((F64 fuel x0 x2).bind fun r4=>(cond (decide (r4<(0:Int))) (some ([],60)) ((F67 fuel x0 x1 x2).bind fun r1=>(F31_l1 fuel r1 fuel ([]) 0))))))
set_option maxRecDepth 100000 in
theorem f31_ok (fuel:Nat) (x0:List Lot) (x1:List Deed) (x2:Int) (r:List Int×Int) (hr:F31 fuel x0 x1 x2=some r) (h:Zone) (L:List Atom) (w:World) (hS:St h L w) (o_x0:Option Addr) (c_x0:Nat) (hx_x0:SliceR LotT h o_x0 c_x0 x0) (o_x1:Option Addr) (c_x1:Nat) (hx_x1:SliceR DeedT h o_x1 c_x1 x1) :
    Calls Tryz.prog 31 #[.slice o_x0 x0.length c_x0, .slice o_x1 x1.length c_x1,vI x2] w fun e w'=>∃v,e= .returned v∧(∃h',∃o0:Option Addr,∃c0:Nat,Zone.le h h'∧v= .tuple #[.slice o0 r.1.length c0,vI r.2]∧St h' L w'∧SliceR Ty.int h' o0 c0 r.1):=by
 refine calls_intro (N:=56) Tryz.func31 (by kernel_rfl) fun a hf=>?_
 refine c_sq [] [0,1,2] hf .nil fun g f=>?_
 refine c_sr (c_n 2 [] [0,1,2,15,16] f .nil fun f g=>?_)
 obtain ⟨t,f,y⟩:=bind_some hr
 refine c_call g (f7_ok fuel x0 x1 t f h _ _ hS o_x0 c_x0 hx_x0 o_x1 c_x1 hx_x1) ?_
 rintro g k l ⟨s,C,Q,R,S,U,V,W,X,Y,Z,a0,k2,rfl,o,p,q⟩ f
 refine tv ?_
 refine c_n 4 [] [0,1,2,18,19,20] f .nil fun g f=>?_
 refine c_box [N0,N0,N0,N0,N0,N0,N0,N0,N0,N0] 29 o f fun b1 f l g k=>tv ?_
 have f:=oneCells_of (Ty.one _ (Ty.mono _ zr q))
 refine p_store_eq (i:=8) (j:=0) (b:=b1) (off:=0) (vs:=[.slice C t.1.length Q,R,S,U,V,W,X,Y,Z,a0]) (cs':=[.slice C t.1.length Q,R,S,U,V,W,X,Y,Z,a0]) g k rfl (by kernel_rfl) f rfl fun g k o f=>tv ?_
 refine c_t [] [0,1,2,10] f .nil fun g f=>?_
 refine c_seq (c_sq [] [0,1,2,10,22] f .nil fun f k=>(c_if (t.2.2.2 != (0:Int)) k (fun g=>?_) (fun g=>?_)))
 ·have m:=cond_t g y
  refine c_sq [] [6,7] k .nil fun l f=>?_
  refine c_ret (r_then (c_rt [] (.tuple #[N0,vI t.2.2.2]) f .nil ?_))
  obtain rfl:=some_eq m
  exact ⟨_,rfl,s,none,0,k2,rfl,(St.drop 1 o),SliceR.nil' _ _⟩
 ·have m:=cond_f g y
  refine c_skip (n_then (c_seq (c_sr (c_n 2 [] [0,1,2,24,25] k .nil fun f g=>?_))))
  obtain ⟨k,f,y⟩:=bind_some m
  refine c_call g (f64_ok fuel x0 x2 k f s _ _ o o_x0 c_x0 (SliceR.mono k2 hx_x0)) ?_
  rintro g l o ⟨q,k3,rfl,s⟩ f
  refine tv ?_
  refine c_t [] [0,1,2,27] f .nil fun f l=>?_
  refine c_if (decide (k<(0:Int))) l (fun g=>?_) (fun g=>?_)
  ·have m:=cond_t g y
   refine c_sq [] [6,7] l .nil fun k f=>?_
   refine c_ret (r_then (c_rt [] (.tuple #[N0,vI 60]) f .nil ?_))
   obtain rfl:=some_eq m
   exact ⟨_,rfl,q,none,0,(zt k2 k3),rfl,(St.drop 1 s),SliceR.nil' _ _⟩
  ·have m:=cond_f g y
   refine c_skip (n_then (c_sr (c_n 3 [] [28,29,30] l .nil fun f g=>?_)))
   obtain ⟨p,f,m⟩:=bind_some m
   refine c_call g (f67_ok fuel x0 x1 x2 p f q _ _ s o_x0 c_x0 (SliceR.mono (zt k2 k3) hx_x0) o_x1 c_x1 (SliceR.mono (zt k2 k3) hx_x1)) ?_
   rintro g k l ⟨o,u,B,k4,rfl,q,a2⟩ f
   refine tv ?_
   refine c_t [] [11] f .nil fun g f=>?_
   refine c_sq [] [11,12] f .nil fun g f=>?_
   refine c_seq (c_sq [] [11,12,13] f .nil fun f g=>(c_block 0 ?_))
   have f:=q.ownNil Ty.int 3
   refine c_loop (fun n a w=>∃k:Zone,∃D:List Int,∃x:Int,∃I:Option Addr,∃J:Nat,Zone.le o k∧Fr a 56 [(11, .slice u p.length B),(12, .slice I D.length J),(13,vI x)]∧St k (ownS Ty.int 3 I J D::box b1 [.slice C t.1.length Q,R,S,U,V,W,X,Y,Z,a0] 29::L) w∧(F31_l1 fuel p n D x)=some r) fuel ⟨o,[],0,none,0,zr,g.to,f,m⟩ ?_
   rintro f g l ⟨k,D,x,I,J,k5,q,s,y⟩
   cases f with
   | zero=>cases y
   | succ P =>
   refine c_seq (c_mid (fun a w=>∃z:Zone,∃o:Bool,Zone.le k z∧Fr a 56 [(11, .slice u p.length B),(12, .slice I D.length J),(13,vI x),(38, .bool o)]∧St z (ownS Ty.int 3 I J D::box b1 [.slice C t.1.length Q,R,S,U,V,W,X,Y,Z,a0] 29::L) w∧(F31_j1 fuel (F31_l1 fuel p P) p D x o)=some r) ?_ ?_)
   ·skip
    refine c_reg (c_n 3 [] [11,12,13,34] q .nil fun f q=>?_)
    rcases bft (decide (x<(9:Int))) with f | f
    ·have m:=cond_t f y
     have g:=q.lit 34 f
     refine c_t [] [11,12,13,38] g .nil fun l g=>?_
     exact ⟨k,(decide ((p.length:Int) > (0:Int))),zr,g.to,s,m⟩
    ·have m:=cond_f f y
     have f:=q.lit 34 f
     refine c_t [] [11,12,13,38] f .nil fun g f=>?_
     exact ⟨k,false,zr,f.to,s,m⟩
   ·rintro f g ⟨z,o,k6,M,O,a1⟩
    refine c_if o M (fun K=>?_) (fun K=>?_)
    ·have m:=cond_t K a1
     refine c_skip (n_then (c_mid (fun a w=>∃F:Zone,∃A:List Int,∃G:Option Addr,∃H:Nat,Zone.le z F∧Fr a 56 [(11, .slice u p.length B),(12, .slice G A.length H),(13,vI x)]∧St F (ownS Ty.int 3 G H A::box b1 [.slice C t.1.length Q,R,S,U,V,W,X,Y,Z,a0] 29::L) w∧(F31_j2 (F31_l1 fuel p P) x A)=some r) ?_ ?_))
     ·skip
      refine c_block 1 (c_sr ?_)
      obtain ⟨g,f,m⟩:=bind_some m
      obtain ⟨o,q,s,f,g,t⟩:=SliceR.getI (SliceR.mono (zt k5 k6) a2) f
      obtain ⟨p,f,m⟩:=bind_some m
      obtain ⟨f,_,l,g,k,hehv2657,u⟩:=arrGet g rfl f
      obtain rfl:=List.head_eq_of_cons_eq hehv2657
      refine c_n 9 [.pointer (some o), .slice g p.length k] [11,12,13,49] M (.prop q (.prop s (.prop f (.cell (O.cell (cell9 (t _ _ l))) .nil)))) fun f o=>?_
      obtain ⟨l,f,y⟩:=bind_some m
      refine c_call o (f68_ok fuel p l f z _ _ O g k u) ?_
      rintro f g k ⟨z,B,rfl,C⟩ u
      refine tv ?_
      refine c_dt (c_if l u (fun l=>?_) (fun l=>?_))
      ·have m:=cond_t l y
       refine c_reg (c_n 2 [] [11,13,51,52] u .nil fun o f=>(p_box (i:=2) (d:=(some 53)) (cs:=[vI x]) (T:=3) (v:=fun g=> .slice (some ⟨g,0,none⟩) 1 1) C f (fun b=>by kernel_rfl) fun g p q k s=>tv ?_))
       have f:=k.ownBox (T:=Ty.int) (E:=3) (n:=1) (xs:=[x]) (i:=0) rfl (Rows.cons (c:=[vI x]) rfl rfl) rfl (by decide)
       obtain ⟨t,k,m⟩:=bind_some m
       refine p_append (T:=Ty.int) (i:=3) (j:=1) (d:=some 54) (o2:=(some ⟨g,0,none⟩)) (c2:=1) (ys:=([x])) el76 f s rfl (by kernel_rfl) (f.ownSrc (j:=0) rfl) k fun g k o p q f=>tv ?_
       refine c_z [] [11,12,13] f .nil fun o f=>?_
       refine n_block (n_then ?_)
       exact ⟨z,t,g,k,B,f.to,(St.drop 1 q),m⟩
      ·have m:=cond_f l y
       refine c_skip (n_block (n_then ?_))
       exact ⟨z,D,I,J,B,u.to,C,m⟩
     ·rintro g k ⟨F,A,G,H,l,f,o,m⟩
      refine c_q [] [11,12,13] f .nil fun g f=>?_
      refine n_then ?_
      exact ⟨P,Nat.lt_succ_self P,F,A,(w64 (x + (1:Int))),G,H,(zt (zt k5 k6) l),f.to,o,m⟩
    ·have m:=cond_f K a1
     refine c_exit 0 (x_then (x_then (x_block (n_then (c_sq [] [6,7] M .nil fun g f=>(c_ret ?_))))))
     obtain ⟨g,k,l,o⟩:=O.share (j:=0) rfl
     refine c_rt [] (.tuple #[.slice I D.length J,vI 0]) f .nil ?_
     obtain rfl:=some_eq m
     exact ⟨_,rfl,g,I,J,(zt (zt (zt (zt (zt k2 k3) k4) k5) k6) k),rfl,(St.drop 2 l),o⟩
end Go.Proofs.YtlmgjjmighajdaaGreat
set_option linter.unusedVariables false
namespace Go.Proofs.YtlmgjjmighajdaaGreat
open Go.Sl Go.Sx
def F32_j2 (k1:Int→Option (Bool×Int×Int)) (y1:Int) (y2:Int) (y3:Bool):Option (Bool×Int×Int) :=
  (cond y3 (some (false,y1,0)) (k1 (w64 (y2 + (1:Int)))))
def F32_l3 (k2:Int→Option (Bool×Int×Int)) (r1:List (List (List Bool))) (r2:List (List (List Bool))) (y1:Int) (y4:Int):Nat→Int→Option (Bool×Int×Int)
  | 0,_=>none
  | n1 + 1,y2 =>
    let k1:Int→Option (Bool×Int×Int):=F32_l3 k2 r1 r2 y1 y4 n1
    ((getI r1 y1).bind fun p1=>((getI p1 y4).bind fun p2=>(cond (decide (y2<(p2.length:Int))) ((getI r1 y1).bind fun p3=>((getI p3 y4).bind fun p4=>((getI p4 y2).bind fun p5=>(cond p5 ((getI r2 y1).bind fun p6=>((getI p6 y4).bind fun p7=>((getI p7 y2).bind fun p8=>(F32_j2 k1 y1 y2 p8)))) (F32_j2 k1 y1 y2 false))))) (k2 (w64 (y4 + (1:Int)))))))
def F32_l2 (fuel:Nat) (k3:Int→Option (Bool×Int×Int)) (r1:List (List (List Bool))) (r2:List (List (List Bool))) (y1:Int):Nat→Int→Option (Bool×Int×Int)
  | 0,_=>none
  | n2 + 1,y4 =>
    let k2:Int→Option (Bool×Int×Int):=F32_l2 fuel k3 r1 r2 y1 n2
    (cond (decide (y4<(9:Int))) (F32_l3 k2 r1 r2 y1 y4 fuel 0) (k3 (w64 (y1 + (1:Int)))))
def F32_l1 (fuel:Nat) (x1:List Deed) (r1:List (List (List Bool))) (r2:List (List (List Bool))):Nat→Int→Option (Bool×Int×Int)
  | 0,_=>none
  | n3 + 1,y1 =>
    let k3:Int→Option (Bool×Int×Int):=F32_l1 fuel x1 r1 r2 n3
    (cond (decide (y1<(x1.length:Int))) (F32_l2 fuel k3 r1 r2 y1 fuel 0) (some (true, -1,0)))
def F32_j1 (fuel:Nat) (x0:List Lot) (x1:List Deed) (x2:Int) (x3:Int) (y5:Bool):Option (Bool×Int×Int) :=
  (cond y5 (some (false,0,60)) (cond (x2 == x3) (some (false,0,1)) ((F67 fuel x0 x1 x2).bind fun r1=>((F67 fuel x0 x1 x3).bind fun r2=>(F32_l1 fuel x1 r1 r2 fuel 0)))))
def F32 (fuel:Nat) (x0:List Lot) (x1:List Deed) (x2:Int) (x3:Int):Option (Bool×Int×Int) :=
  ((F7 fuel x0 x1).bind fun r3=>(cond (r3.2.2.2 != (0:Int)) (some (false,0,r3.2.2.2)) ((F64 fuel x0 x2).bind fun r4=>(cond (decide (r4<(0:Int))) (F32_j1 fuel x0 x1 x2 x3 true) ((F64 fuel x0 x3).bind fun r5=>(F32_j1 fuel x0 x1 x2 x3 (decide (r5<(0:Int)))))))))
set_option maxRecDepth 100000 in
theorem f32_ok (fuel:Nat) (x0:List Lot) (x1:List Deed) (x2:Int) (x3:Int) (r:Bool×Int×Int) (hr:F32 fuel x0 x1 x2 x3=some r) (h:Zone) (L:List Atom) (w:World) (hS:St h L w) (o_x0:Option Addr) (c_x0:Nat) (hx_x0:SliceR LotT h o_x0 c_x0 x0) (o_x1:Option Addr) (c_x1:Nat) (hx_x1:SliceR DeedT h o_x1 c_x1 x1) :
    Calls Tryz.prog 32 #[.slice o_x0 x0.length c_x0, .slice o_x1 x1.length c_x1,vI x2,vI x3] w fun e w'=>∃v,e= .returned v∧(∃h',Zone.le h h'∧v= .tuple #[.bool r.1,vI r.2.1,vI r.2.2]∧St h' L w'):=by
 refine calls_intro (N:=95) Tryz.func32 (by kernel_rfl) fun a hf=>?_
 refine c_sq [] [0,1,2,3] hf .nil fun d c=>?_
 refine c_sr (c_n 2 [] [0,1,2,3,20,21] c .nil fun c d=>?_)
 obtain ⟨E,c,q⟩:=bind_some hr
 refine c_call d (f7_ok fuel x0 x1 E c h _ _ hS o_x0 c_x0 hx_x0 o_x1 c_x1 hx_x1) ?_
 rintro d g k ⟨p,X,Y,Z,v3,v4,v5,v6,v7,v8,v9,a0,W,rfl,l,m,o⟩ c
 refine tv ?_
 refine c_n 4 [] [0,1,2,3,23,24,25] c .nil fun d c=>?_
 refine c_box [N0,N0,N0,N0,N0,N0,N0,N0,N0,N0] 29 l c fun b1 c k d g=>tv ?_
 have c:=oneCells_of (Ty.one _ (Ty.mono _ zr o))
 refine p_store_eq (i:=8) (j:=0) (b:=b1) (off:=0) (vs:=[.slice X E.1.length Y,Z,v3,v4,v5,v6,v7,v8,v9,a0]) (cs':=[.slice X E.1.length Y,Z,v3,v4,v5,v6,v7,v8,v9,a0]) d g rfl (by kernel_rfl) c rfl fun d g l c=>tv ?_
 refine c_t [] [0,1,2,3,13] c .nil fun d c=>?_
 refine c_seq (c_sq [] [0,1,2,3,13,27] c .nil fun c g=>(c_if (E.2.2.2 != (0:Int)) g (fun d=>?_) (fun d=>?_)))
 ·have f:=cond_t d q
  refine c_sq [] [8,9,10] g .nil fun k c=>?_
  refine c_ret (r_then (c_rt [] (.tuple #[.bool false,vI 0,vI E.2.2.2]) c .nil ?_))
  obtain rfl:=some_eq f
  exact ⟨_,rfl,p,W,rfl,(St.drop 1 l)⟩
 ·have f:=cond_f d q
  refine c_skip (n_then (c_seq (c_mid (fun a w=>∃u:Zone,∃t:Bool,Zone.le p u∧Fr a 95 [(0, .slice o_x0 x0.length c_x0),(1, .slice o_x1 x1.length c_x1),(2,vI x2),(3,vI x3),(38, .bool t)]∧St u (box b1 [.slice X E.1.length Y,Z,v3,v4,v5,v6,v7,v8,v9,a0] 29::L) w∧(F32_j1 fuel x0 x1 x2 x3 t)=some r) ?_ ?_)))
  ·skip
   refine c_reg (c_n 2 [] [0,1,2,3,29,30] g .nil fun c d=>?_)
   obtain ⟨g,c,q⟩:=bind_some f
   refine c_call d (f64_ok fuel x0 x2 g c p _ _ l o_x0 c_x0 (SliceR.mono W hx_x0)) ?_
   rintro d k l ⟨m,s,rfl,o⟩ c
   refine tv ?_
   refine c_n 2 [] [0,1,2,3,33] c .nil fun c k=>?_
   rcases bft (decide (g<(0:Int))) with c | c
   ·have f:=cond_t c q
    have d:=k.lit 33 c
    refine c_t [] [0,1,2,3,38] d .nil fun g d=>?_
    exact ⟨m,true,s,d.to,o,f⟩
   ·have f:=cond_f c q
    have c:=k.lit 33 c
    refine c_n 2 [] [0,1,2,3,33,34,35] c .nil fun c d=>?_
    obtain ⟨g,c,f⟩:=bind_some f
    refine c_call d (f64_ok fuel x0 x3 g c m _ _ o o_x0 c_x0 (SliceR.mono (zt W s) hx_x0)) ?_
    rintro d k l ⟨m,o,rfl,p⟩ c
    refine tv ?_
    refine c_t [] [0,1,2,3,38] c .nil fun d c=>?_
    exact ⟨m,(decide (g<(0:Int))),(zt s o),c.to,p,f⟩
  ·rintro c d ⟨u,t,V,g,l,q⟩
   refine c_if t g (fun d=>?_) (fun d=>?_)
   ·have f:=cond_t d q
    refine c_sq [] [8,9,10] g .nil fun k c=>?_
    refine c_ret (r_then (c_rt [] (.tuple #[.bool false,vI 0,vI 60]) c .nil ?_))
    obtain rfl:=some_eq f
    exact ⟨_,rfl,u,(zt W V),rfl,(St.drop 1 l)⟩
   ·have q:=cond_f d q
    refine c_skip (n_then (c_seq (c_sq [] [0,1,2,3,41] g .nil fun c g=>(c_if (x2 == x3) g (fun d=>?_) (fun d=>?_)))))
    ·have f:=cond_t d q
     refine c_sq [] [8,9,10] g .nil fun k c=>?_
     refine c_ret (r_then (c_rt [] (.tuple #[.bool false,vI 0,vI 1]) c .nil ?_))
     obtain rfl:=some_eq f
     exact ⟨_,rfl,u,(zt W V),rfl,(St.drop 1 l)⟩
    ·have f:=cond_f d q
     refine c_skip (n_then (c_sr (c_n 3 [] [0,1,3,42,43,44] g .nil fun c d=>?_)))
     obtain ⟨o,c,f⟩:=bind_some f
     refine c_call d (f67_ok fuel x0 x1 x2 o c u _ _ l o_x0 c_x0 (SliceR.mono (zt W V) hx_x0) o_x1 c_x1 (SliceR.mono (zt W V) hx_x1)) ?_
     rintro d g k ⟨l,B,D,k8,rfl,m,a1⟩ c
     refine tv ?_
     refine c_t [] [0,1,3,14] c .nil fun d c=>?_
     refine c_sr (c_n 3 [] [1,14,46,47,48] c .nil fun c d=>?_)
     obtain ⟨g,c,f⟩:=bind_some f
     refine c_call d (f67_ok fuel x0 x1 x3 g c l _ _ m o_x0 c_x0 (SliceR.mono (zt (zt W V) k8) hx_x0) o_x1 c_x1 (SliceR.mono (zt (zt W V) k8) hx_x1)) ?_
     rintro k l m ⟨d,z,A,k9,rfl,p,aa⟩ c
     refine tv ?_
     refine c_t [] [1,14,15] c .nil fun k c=>?_
     refine c_seq (c_sq [] [1,14,15,16] c .nil fun k c=>(c_block 0 (c_loop (fun n a w=>∃S:Zone,∃C:Int,Zone.le d S∧Fr a 95 [(1, .slice o_x1 x1.length c_x1),(14, .slice B o.length D),(15, .slice z g.length A),(16,vI C)]∧St S (box b1 [.slice X E.1.length Y,Z,v3,v4,v5,v6,v7,v8,v9,a0] 29::L) w∧(F32_l1 fuel x1 o g n C)=some r) fuel ⟨d,0,zr,c.to,p,f⟩ ?_)))
     rintro c d k ⟨S,C,R,l,ab,a8⟩
     cases c with
     | zero=>cases a8
     | succ U =>
     refine c_seq (c_sq [] [1,14,15,16,53] l .nil fun c a7=>(c_if (decide (C<(x1.length:Int))) a7 (fun a6=>?_) (fun a6=>?_)))
     ·have f:=cond_t a6 a8
      refine c_skip (n_then (c_seq (c_block 1 (c_sq [] [1,14,15,16,17] a7 .nil fun d c=>(c_block 2 (c_loop (fun n a w=>∃P:Zone,∃H:Int,Zone.le S P∧Fr a 95 [(1, .slice o_x1 x1.length c_x1),(14, .slice B o.length D),(15, .slice z g.length A),(16,vI C),(17,vI H)]∧St P (box b1 [.slice X E.1.length Y,Z,v3,v4,v5,v6,v7,v8,v9,a0] 29::L) w∧(F32_l2 fuel (F32_l1 fuel x1 o g U) o g C n H)=some r) fuel ⟨S,0,zr,c.to,ab,f⟩ ?_))))))
      rintro c d k ⟨P,H,O,l,a9,a5⟩
      cases c with
      | zero=>cases a5
      | succ n2 =>
      refine c_seq (c_sq [] [1,14,15,16,17,57] l .nil fun c a3=>(c_if (decide (H<(9:Int))) a3 (fun a2=>?_) (fun a2=>?_)))
      ·have f:=cond_t a2 a5
       refine c_skip (n_then (c_seq (c_block 3 (c_sq [] [1,14,15,16,17,18] a3 .nil fun d c=>(c_block 4 (c_loop (fun n a w=>∃K:Zone,∃J:Int,Zone.le P K∧Fr a 95 [(1, .slice o_x1 x1.length c_x1),(14, .slice B o.length D),(15, .slice z g.length A),(16,vI C),(17,vI H),(18,vI J)]∧St K (box b1 [.slice X E.1.length Y,Z,v3,v4,v5,v6,v7,v8,v9,a0] 29::L) w∧(F32_l3 (F32_l2 fuel (F32_l1 fuel x1 o g U) o g C n2) o g C H n J)=some r) fuel ⟨P,0,zr,c.to,a9,f⟩ ?_))))))
       rintro c d k ⟨K,J,M,y,F,f⟩
       cases c with
       | zero=>cases f
       | succ n1 =>
       refine c_seq ?_
       obtain ⟨d,c,f⟩:=bind_some f
       obtain ⟨s,t,u,c,k,x⟩:=SliceR.getI (SliceR.mono (zt (zt (zt k9 R) O) M) a1) c
       obtain ⟨d,c,a4⟩:=bind_some f
       obtain ⟨c,_,k,l,m,hehv228480,p⟩:=arrGet k rfl c
       obtain rfl:=List.head_eq_of_cons_eq hehv228480
       refine c_sq [.pointer (some s), .slice l d.length m] [1,14,15,16,17,18,69] y (.prop t (.prop u (.prop c (.cell (F.cell (cell9 (x _ _ k))) .nil)))) fun c T=>?_
       refine c_if (decide (J<(d.length:Int))) T (fun Q=>?_) (fun Q=>?_)
       ·have f:=cond_t Q a4
        refine c_skip (n_then (c_seq (c_block 5 (c_mid (fun a w=>∃I:Zone,∃G:Bool,Zone.le K I∧Fr a 95 [(1, .slice o_x1 x1.length c_x1),(14, .slice B o.length D),(15, .slice z g.length A),(16,vI C),(17,vI H),(18,vI J),(93, .bool G)]∧St I (box b1 [.slice X E.1.length Y,Z,v3,v4,v5,v6,v7,v8,v9,a0] 29::L) w∧(F32_j2 (F32_l3 (F32_l2 fuel (F32_l1 fuel x1 o g U) o g C n2) o g C H n1) C J G)=some r) ?_ ?_))))
        ·skip
         refine c_reg ?_
         obtain ⟨d,c,f⟩:=bind_some f
         obtain ⟨x,y,z,c,d,A⟩:=SliceR.getI (SliceR.mono (zt (zt (zt k9 R) O) M) a1) c
         obtain ⟨u,c,f⟩:=bind_some f
         obtain ⟨o,_,p,s,t,hehv228896,g⟩:=arrGet d rfl c
         obtain rfl:=List.head_eq_of_cons_eq hehv228896
         obtain ⟨c,d,q⟩:=bind_some f
         obtain ⟨d,g,k,m,rfl,l⟩:=SliceR.getI g d
         refine c_n 11 [.pointer (some x), .slice s u.length t, .pointer (some d), .bool c] [1,14,15,16,17,18,82] T (.prop y (.prop z (.prop o (.cell (F.cell (cell9 (A _ _ p))) (.prop g (.prop k (.cell (F.cell (l 0 _ rfl)) .nil))))))) fun d E=>?_
         rcases bft c with m | m
         ·have f:=cond_t m q
          have D:=E.lit 82 m
          obtain ⟨d,c,f⟩:=bind_some f
          obtain ⟨y,z,A,c,d,B⟩:=SliceR.getI (SliceR.mono (zt (zt R O) M) aa) c
          obtain ⟨x,c,f⟩:=bind_some f
          obtain ⟨p,_,s,t,u,hehv228927,g⟩:=arrGet d rfl c
          obtain rfl:=List.head_eq_of_cons_eq hehv228927
          obtain ⟨c,d,f⟩:=bind_some f
          obtain ⟨d,g,k,o,rfl,l⟩:=SliceR.getI g d
          refine c_t [.pointer (some y), .slice t x.length u, .pointer (some d), .bool c] [1,14,15,16,17,18,93] D (.prop z (.prop A (.prop p (.cell (F.cell (cell9 (B _ _ s))) (.prop g (.prop k (.cell (F.cell (l 0 _ rfl)) .nil))))))) fun g d=>?_
          exact ⟨K,c,zr,d.to,F,f⟩
         ·have f:=cond_f m q
          have c:=E.lit 82 m
          refine c_t [] [1,14,15,16,17,18,93] c .nil fun d c=>?_
          exact ⟨K,false,zr,c.to,F,f⟩
        ·rintro c d ⟨I,G,l,g,m,q⟩
         refine c_if G g (fun d=>?_) (fun d=>?_)
         ·have f:=cond_t d q
          refine c_sq [] [8,9,10] g .nil fun k c=>?_
          refine c_ret (r_block (r_then (r_then (r_block (r_block (r_then (r_then (r_block (r_block (r_then (r_then (r_block (r_then (c_rt [] (.tuple #[.bool false,vI C,vI 0]) c .nil ?_))))))))))))))
          obtain rfl:=some_eq f
          exact ⟨_,rfl,I,(zt (zt (zt (zt (zt (zt (zt W V) k8) k9) R) O) M) l),rfl,(St.drop 1 m)⟩
         ·have f:=cond_f d q
          refine c_skip (n_block (n_then (c_q [] [1,14,15,16,17,18] g .nil fun d c=>(n_then ?_))))
          exact ⟨n1,Nat.lt_succ_self n1,I,(w64 (J + (1:Int))),(zt M l),c.to,m,f⟩
       ·have f:=cond_f Q a4
        refine c_exit 4 (x_then (x_then (x_block (n_block (n_then (c_q [] [1,14,15,16,17] T .nil fun d c=>(n_then ?_)))))))
        exact ⟨n2,Nat.lt_succ_self n2,K,(w64 (H + (1:Int))),(zt O M),c.to,F,f⟩
      ·have f:=cond_f a2 a5
       refine c_exit 2 (x_then (x_then (x_block (n_block (n_then (c_q [] [1,14,15,16] a3 .nil fun d c=>(n_then ?_)))))))
       exact ⟨U,Nat.lt_succ_self U,P,(w64 (C + (1:Int))),(zt R O),c.to,a9,f⟩
     ·have f:=cond_f a6 a8
      refine c_exit 0 (x_then (x_then (x_block (n_then (c_sq [] [8,9,10] a7 .nil fun d c=>(c_ret (c_rt [] (.tuple #[.bool true,vI (-1),vI 0]) c .nil ?_)))))))
      obtain rfl:=some_eq f
      exact ⟨_,rfl,S,(zt (zt (zt (zt W V) k8) k9) R),rfl,(St.drop 1 ab)⟩
def F33_j1 (k1:Bool→Int→Option (Bool)) (x0:List Int) (x1:List Int) (y1:Bool) (y2:Int) (y3:Bool):Option (Bool) :=
  (cond y3 ((getI x0 y2).bind fun p1=>((getI x1 y2).bind fun p2=>(k1 (p1 == p2) (w64 (y2 + (1:Int)))))) (some (y1)))
def F33_l1 (x0:List Int) (x1:List Int):Nat→Bool→Int→Option (Bool)
  | 0,_,_=>none
  | n1 + 1,y1,y2 =>
    let k1:Bool→Int→Option (Bool):=F33_l1 x0 x1 n1
    (cond (decide (y2<(x0.length:Int))) (F33_j1 k1 x0 x1 y1 y2 y1) (F33_j1 k1 x0 x1 y1 y2 false))
def F33 (fuel:Nat) (x0:List Int) (x1:List Int):Option (Bool) :=
  (F33_l1 x0 x1 fuel ((x0.length:Int) == (x1.length:Int)) 0)
set_option maxRecDepth 100000 in
theorem f33_ok (fuel:Nat) (x0:List Int) (x1:List Int) (r:Bool) (hr:F33 fuel x0 x1=some r) (h:Zone) (L:List Atom) (w:World) (hS:St h L w) (o_x0:Option Addr) (c_x0:Nat) (hx_x0:SliceR Ty.int h o_x0 c_x0 x0) (o_x1:Option Addr) (c_x1:Nat) (hx_x1:SliceR Ty.int h o_x1 c_x1 x1) :
    Calls Tryz.prog 33 #[.slice o_x0 x0.length c_x0, .slice o_x1 x1.length c_x1] w fun e w'=>∃v,e= .returned v∧(∃h',Zone.le h h'∧v= .bool r∧St h' L w'):=by
 refine calls_intro (N:=31) Tryz.func33 (by kernel_rfl) fun a hf=>?_
 refine c_sq [] [0,1] hf .nil fun c b=>?_
 refine c_sq [] [0,1,5] b .nil fun c b=>?_
 refine c_seq (c_sq [] [0,1,5,6] b .nil fun c b=>(c_block 0 (c_loop (fun n a w=>∃d:Zone,∃z:Bool,∃x:Int,Zone.le h d∧Fr a 31 [(0, .slice o_x0 x0.length c_x0),(1, .slice o_x1 x1.length c_x1),(5, .bool z),(6,vI x)]∧St d (L) w∧(F33_l1 x0 x1 n z x)=some r) fuel ⟨h,((x0.length:Int) == (x1.length:Int)),0,zr,b.to,hS,hr⟩ ?_)))
 rintro b c f ⟨d,z,x,D,i,k,u⟩
 cases b with
 | zero=>cases u
 | succ C =>
 refine c_seq (c_mid (fun a w=>∃A:Zone,∃g:Bool,Zone.le d A∧Fr a 31 [(0, .slice o_x0 x0.length c_x0),(1, .slice o_x1 x1.length c_x1),(5, .bool z),(6,vI x),(18, .bool g)]∧St A (L) w∧(F33_j1 (F33_l1 x0 x1 C) x0 x1 z x g)=some r) ?_ ?_)
 ·skip
  refine c_reg (c_n 5 [] [0,1,5,6,16] i .nil fun b i=>?_)
  rcases bft (decide (x<(x0.length:Int))) with b | b
  ·have j:=cond_t b u
   have c:=i.lit 16 b
   refine c_t [] [0,1,5,6,18] c .nil fun f c=>?_
   exact ⟨d,z,zr,c.to,k,j⟩
  ·have j:=cond_f b u
   have b:=i.lit 16 b
   refine c_t [] [0,1,5,6,18] b .nil fun c b=>?_
   exact ⟨d,false,zr,b.to,k,j⟩
 ·rintro b c ⟨A,g,t,y,B,u⟩
  refine c_if g y (fun s=>?_) (fun s=>?_)
  ·have j:=cond_t s u
   refine c_skip (n_then (c_seq (c_block 1 ?_)))
   have i:=B.drew
   obtain ⟨k,b,j⟩:=bind_some j
   obtain ⟨l,m,o,b,rfl,p⟩:=SliceR.getI (SliceR.mono (zt D t) hx_x0) b
   obtain ⟨g,b,j⟩:=bind_some j
   obtain ⟨b,c,d,q,rfl,f⟩:=SliceR.getI (SliceR.mono (zt D t) hx_x1) b
   refine c_qD [(0,true),(1,true),(2,true),(3,true),(4,true),(5,true),(6,true),(7,true),(8,true),(9,true)] [] [.pointer (some l),vI k, .pointer (some b),vI g] [0,1,5,6] y (.prop m (.prop o (.cell (i.cell (p 0 _ rfl)) (.prop c (.prop d (.cell (i.cell (f 0 _ rfl)) .nil)))))) .nil fun c b=>?_
   refine n_block (n_then (c_q [] [0,1,5,6] b .nil fun c b=>(n_then ?_)))
   exact ⟨C,Nat.lt_succ_self C,A,(k == g),(w64 (x + (1:Int))),(zt D t),b.to,i,j⟩
  ·have j:=cond_f s u
   refine c_exit 0 (x_then (x_then (x_block (n_then (c_sq [] [4] y .nil fun c b=>(c_ret (c_rt [] (.bool z) b .nil ?_)))))))
   obtain rfl:=some_eq j
   exact ⟨_,rfl,A,(zt D t),rfl,B⟩
def F34_j1 (k1:Bool→Int→Option (Bool)) (x0:List Trail) (x1:List Trail) (y1:Bool) (y2:Int) (y3:Bool):Option (Bool) :=
  (cond y3 ((getI x0 y2).bind fun p1=>((getI x1 y2).bind fun p2=>(k1 ((p1.deed == p2.deed) && ((p1.mass == p2.mass) && true)) (w64 (y2 + (1:Int)))))) (some (y1)))
def F34_l1 (x0:List Trail) (x1:List Trail):Nat→Bool→Int→Option (Bool)
  | 0,_,_=>none
  | n1 + 1,y1,y2 =>
    let k1:Bool→Int→Option (Bool):=F34_l1 x0 x1 n1
    (cond (decide (y2<(x0.length:Int))) (F34_j1 k1 x0 x1 y1 y2 y1) (F34_j1 k1 x0 x1 y1 y2 false))
def F34 (fuel:Nat) (x0:List Trail) (x1:List Trail):Option (Bool) :=
  (F34_l1 x0 x1 fuel ((x0.length:Int) == (x1.length:Int)) 0)
set_option maxRecDepth 100000 in
theorem f34_ok (fuel:Nat) (x0:List Trail) (x1:List Trail) (r:Bool) (hr:F34 fuel x0 x1=some r) (h:Zone) (L:List Atom) (w:World) (hS:St h L w) (o_x0:Option Addr) (c_x0:Nat) (hx_x0:SliceR TrailT h o_x0 c_x0 x0) (o_x1:Option Addr) (c_x1:Nat) (hx_x1:SliceR TrailT h o_x1 c_x1 x1) :
    Calls Tryz.prog 34 #[.slice o_x0 x0.length c_x0, .slice o_x1 x1.length c_x1] w fun e w'=>∃v,e= .returned v∧(∃h',Zone.le h h'∧v= .bool r∧St h' L w'):=by
 refine calls_intro (N:=31) Tryz.func34 (by kernel_rfl) fun a hf=>?_
 refine c_sq [] [0,1] hf .nil fun c b=>?_
 refine c_sq [] [0,1,5] b .nil fun c b=>?_
 refine c_seq (c_sq [] [0,1,5,6] b .nil fun c b=>(c_block 0 (c_loop (fun n a w=>∃d:Zone,∃z:Bool,∃x:Int,Zone.le h d∧Fr a 31 [(0, .slice o_x0 x0.length c_x0),(1, .slice o_x1 x1.length c_x1),(5, .bool z),(6,vI x)]∧St d (L) w∧(F34_l1 x0 x1 n z x)=some r) fuel ⟨h,((x0.length:Int) == (x1.length:Int)),0,zr,b.to,hS,hr⟩ ?_)))
 rintro b c f ⟨d,z,x,D,i,j,u⟩
 cases b with
 | zero=>cases u
 | succ C =>
 refine c_seq (c_mid (fun a w=>∃A:Zone,∃g:Bool,Zone.le d A∧Fr a 31 [(0, .slice o_x0 x0.length c_x0),(1, .slice o_x1 x1.length c_x1),(5, .bool z),(6,vI x),(18, .bool g)]∧St A (L) w∧(F34_j1 (F34_l1 x0 x1 C) x0 x1 z x g)=some r) ?_ ?_)
 ·skip
  refine c_reg (c_n 5 [] [0,1,5,6,16] i .nil fun b i=>?_)
  rcases bft (decide (x<(x0.length:Int))) with b | b
  ·have l:=cond_t b u
   have c:=i.lit 16 b
   refine c_t [] [0,1,5,6,18] c .nil fun f c=>?_
   exact ⟨d,z,zr,c.to,j,l⟩
  ·have l:=cond_f b u
   have b:=i.lit 16 b
   refine c_t [] [0,1,5,6,18] b .nil fun c b=>?_
   exact ⟨d,false,zr,b.to,j,l⟩
 ·rintro b c ⟨A,g,t,y,B,u⟩
  refine c_if g y (fun s=>?_) (fun s=>?_)
  ·have l:=cond_t s u
   refine c_skip (n_then (c_seq (c_block 1 ?_)))
   have d:=B.drew
   obtain ⟨f,b,l⟩:=bind_some l
   obtain ⟨m,o,p,b,rfl,g⟩:=SliceR.getI (SliceR.mono (zt D t) hx_x0) b
   obtain ⟨c,b,l⟩:=bind_some l
   obtain ⟨i,j,k,q,rfl,b⟩:=SliceR.getI (SliceR.mono (zt D t) hx_x1) b
   refine c_qD [(0,true),(1,true),(2,true),(3,true),(4,true),(5,true),(6,true),(7,true),(8,true),(9,true)] [] [.pointer (some m),vI f.deed,vI f.mass, .pointer (some i),vI c.deed,vI c.mass] [0,1,5,6] y (.prop o (.prop p (.cell (d.cell (g 0 _ rfl)) (.cell (d.cell (g 1 _ rfl)) (.prop j (.prop k (.cell (d.cell (b 0 _ rfl)) (.cell (d.cell (b 1 _ rfl)) .nil)))))))) .nil fun g b=>?_
   refine n_block (n_then (c_q [] [0,1,5,6] b .nil fun g b=>(n_then ?_)))
   exact ⟨C,Nat.lt_succ_self C,A,((f.deed == c.deed) && ((f.mass == c.mass) && true)),(w64 (x + (1:Int))),(zt D t),b.to,d,l⟩
  ·have l:=cond_f s u
   refine c_exit 0 (x_then (x_then (x_block (n_then (c_sq [] [4] y .nil fun c b=>(c_ret (c_rt [] (.bool z) b .nil ?_)))))))
   obtain rfl:=some_eq l
   exact ⟨_,rfl,A,(zt D t),rfl,B⟩
def F9_j1 (y1:Bool):Option (Bool) :=
  (some (y1))
def F9 (fuel:Nat) (x0:List Lot) (x1:List Deed) (y2:Int) (y3:Int) (y4:Int):Option (Bool) :=
  ((F24 fuel x0 x1 y2).bind fun r1=>((F25 fuel x0 x1 y2).bind fun r2=>((F26 fuel x0 x1 y2).bind fun r3=>((F27 fuel x0 x1 y2).bind fun r4=>((F28 fuel x0 x1 y3).bind fun r5=>((F29 fuel x0 x1 y3).bind fun r6=>((F30 fuel x0 x1 y3).bind fun r7=>((F31 fuel x0 x1 y3).bind fun r8=>((F16 fuel x0 x1 y3 y4).bind fun r9=>((F32 fuel x0 x1 y3 y4).bind fun r10=>((F8 fuel r1.1 r1.2.1 r2.1 r2.2.1).bind fun r11=>((F33 fuel r1.2.2.1 r2.2.2.1).bind fun r12=>((F34 fuel r5.1 r6.1).bind fun r13=>((F33 fuel r7.1 r8.1).bind fun r14=>(cond r11 (cond r12 (cond r13 (cond r14 (cond (r1.2.2.2 == r2.2.2.2) (cond (r3.1 == r4.1) (cond (r3.2 == r4.2) (cond (r5.2 == r6.2) (cond (r7.2 == r8.2) (cond (r9.1 == r10.1) (cond (r9.2.1 == r10.2.1) (F9_j1 (r9.2.2 == r10.2.2)) (F9_j1 false)) (F9_j1 false)) (F9_j1 false)) (F9_j1 false)) (F9_j1 false)) (F9_j1 false)) (F9_j1 false)) (F9_j1 false)) (F9_j1 false)) (F9_j1 false)) (F9_j1 false))))))))))))))))
set_option maxRecDepth 100000 in
theorem f9_ok (fuel:Nat) (x0:List Lot) (x1:List Deed) (y2:Int) (y3:Int) (y4:Int) (r:Bool) (hr:F9 fuel x0 x1 y2 y3 y4=some r) (h:Zone) (L:List Atom) (w:World) (hS:St h L w) (o_x0:Option Addr) (c_x0:Nat) (hx_x0:SliceR LotT h o_x0 c_x0 x0) (o_x1:Option Addr) (c_x1:Nat) (hx_x1:SliceR DeedT h o_x1 c_x1 x1) :
    Calls Tryz.prog 9 #[.slice o_x0 x0.length c_x0, .slice o_x1 x1.length c_x1, .agg #[vI y2,vI y3,vI y4]] w fun e w'=>∃v,e= .returned v∧(∃h',Zone.le h h'∧v= .bool r∧St h' L w'):=by
 refine calls_intro (N:=185) Tryz.func9 (by kernel_rfl) fun a hf=>?_
 refine c_sr (c_box [vI y2,vI y3,vI y4] 24 hS hf fun s l m f c=>tv (c_t [] [0,1,5] c .nil fun n d=>(c_sr (c_n (oC:=[.prop ((0:Int)≤0∧(0:Int)<(3:Nat)), .cell ⟨s,0,none⟩ (vI y2)]) 4 [vI y2] [0,1,5,36,37,39] d (.prop (by decide) (.cell (f.bx 0 0 rfl rfl) .nil)) fun o g=>?_))))
 obtain ⟨O,c,k⟩:=bind_some hr
 refine c_call g (f24_ok fuel x0 x1 y2 O c h _ _ f o_x0 c_x0 hx_x0 o_x1 c_x1 hx_x1) ?_
 rintro d f g ⟨m,e1,q1,v2,v3,v4,v5,v6,v7,v8,v9,a2,e2,q2,H,rfl,l,a1,o,af⟩ c
 refine tv ?_
 refine c_n 4 [] [0,1,5,41,42,43] c .nil fun d c=>?_
 refine c_box [N0,N0,N0,N0,N0,N0,N0,N0,N0,N0] 29 l c fun b2 c g d f=>tv ?_
 have c:=oneCells_of (Ty.one _ (Ty.mono _ zr o))
 refine p_store_eq (i:=10) (j:=0) (b:=b2) (off:=0) (vs:=[.slice e1 O.1.length q1,v2,v3,v4,v5,v6,v7,v8,v9,a2]) (cs':=[.slice e1 O.1.length q1,v2,v3,v4,v5,v6,v7,v8,v9,a2]) d f rfl (by kernel_rfl) c rfl fun f g d c=>tv ?_
 refine c_t [] [0,1,5,7,8,9] c .nil fun f c=>?_
 refine c_sr (c_n (oC:=[.prop ((0:Int)≤0∧(0:Int)<(3:Nat)), .cell ⟨s,0,none⟩ (vI y2)]) 4 [vI y2] [0,1,5,7,8,9,45,46,48] c (.prop (by decide) (.cell (d.bx 1 0 rfl rfl) .nil)) fun c f=>?_)
 obtain ⟨J,c,k⟩:=bind_some k
 refine c_call f (f25_ok fuel x0 x1 y2 J c m _ _ d o_x0 c_x0 (SliceR.mono H hx_x0) o_x1 c_x1 (SliceR.mono H hx_x1)) ?_
 rintro d f g ⟨m,M,Q,R,S,T,U,V,W,X,Y,Z,e4,q4,A,rfl,l,z,n,a5⟩ c
 refine tv ?_
 refine c_n 4 [] [0,1,5,7,8,9,50,51,52] c .nil fun d c=>?_
 refine c_box [N0,N0,N0,N0,N0,N0,N0,N0,N0,N0] 29 l c fun b3 c g d f=>tv ?_
 have c:=oneCells_of (Ty.one _ (Ty.mono _ zr n))
 refine p_store_eq (i:=10) (j:=0) (b:=b3) (off:=0) (vs:=[.slice M J.1.length Q,R,S,T,U,V,W,X,Y,Z]) (cs':=[.slice M J.1.length Q,R,S,T,U,V,W,X,Y,Z]) d f rfl (by kernel_rfl) c rfl fun f g d c=>tv ?_
 refine c_t [] [0,1,5,7,8,9,10,11,12] c .nil fun f c=>?_
 refine c_sr (c_n (oC:=[.prop ((0:Int)≤0∧(0:Int)<(3:Nat)), .cell ⟨s,0,none⟩ (vI y2)]) 4 [vI y2] [0,1,5,7,8,9,10,11,12,54,55,57] c (.prop (by decide) (.cell (d.bx 2 0 rfl rfl) .nil)) fun c f=>?_)
 obtain ⟨r3,c,k⟩:=bind_some k
 refine c_call f (f26_ok fuel x0 x1 y2 r3 c m _ _ d o_x0 c_x0 (SliceR.mono (zt H A) hx_x0) o_x1 c_x1 (SliceR.mono (zt H A) hx_x1)) ?_
 rintro d g l ⟨m,x,rfl,f⟩ c
 refine tv ?_
 refine c_t [] [0,1,5,7,8,9,10,11,12,13,14] c .nil fun d c=>?_
 refine c_sr (c_n (oC:=[.prop ((0:Int)≤0∧(0:Int)<(3:Nat)), .cell ⟨s,0,none⟩ (vI y2)]) 4 [vI y2] [0,1,5,7,8,9,10,11,12,13,14,62,63,65] c (.prop (by decide) (.cell (f.bx 2 0 rfl rfl) .nil)) fun c d=>?_)
 obtain ⟨r4,c,k⟩:=bind_some k
 refine c_call d (f27_ok fuel x0 x1 y2 r4 c m _ _ f o_x0 c_x0 (SliceR.mono (zt (zt H A) x) hx_x0) o_x1 c_x1 (SliceR.mono (zt (zt H A) x) hx_x1)) ?_
 rintro d g l ⟨m,y,rfl,f⟩ c
 refine tv ?_
 refine c_t [] [0,1,5,7,8,9,10,11,12,13,14,15,16] c .nil fun d c=>?_
 refine c_sr (c_n (oC:=[.prop ((0:Int)≤1∧(1:Int)<(3:Nat)), .cell ⟨s,1,none⟩ (vI y3)]) 4 [vI y3] [0,1,5,7,8,9,10,11,12,13,14,15,16,70,71,73] c (.prop (by decide) (.cell (f.bx 2 1 rfl rfl) .nil)) fun c d=>?_)
 obtain ⟨r5,c,k⟩:=bind_some k
 refine c_call d (f28_ok fuel x0 x1 y3 r5 c m _ _ f o_x0 c_x0 (SliceR.mono (zt (zt (zt H A) x) y) hx_x0) o_x1 c_x1 (SliceR.mono (zt (zt (zt H A) x) y) hx_x1)) ?_
 rintro d g l ⟨m,e5,q5,B,rfl,f,ab⟩ c
 refine tv ?_
 refine c_t [] [0,1,5,7,8,9,10,11,12,13,14,15,16,17,18] c .nil fun d c=>?_
 refine c_sr (c_n (oC:=[.prop ((0:Int)≤1∧(1:Int)<(3:Nat)), .cell ⟨s,1,none⟩ (vI y3)]) 4 [vI y3] [0,1,5,7,8,9,10,11,12,13,14,15,16,17,18,78,79,81] c (.prop (by decide) (.cell (f.bx 2 1 rfl rfl) .nil)) fun c d=>?_)
 obtain ⟨r6,c,k⟩:=bind_some k
 refine c_call d (f29_ok fuel x0 x1 y3 r6 c m _ _ f o_x0 c_x0 (SliceR.mono (zt (zt (zt (zt H A) x) y) B) hx_x0) o_x1 c_x1 (SliceR.mono (zt (zt (zt (zt H A) x) y) B) hx_x1)) ?_
 rintro d g l ⟨m,e6,q6,D,rfl,f,a8⟩ c
 refine tv ?_
 refine c_t [] [0,1,5,7,8,9,10,11,12,13,14,15,16,17,18,19,20] c .nil fun d c=>?_
 refine c_sr (c_n (oC:=[.prop ((0:Int)≤1∧(1:Int)<(3:Nat)), .cell ⟨s,1,none⟩ (vI y3)]) 4 [vI y3] [0,1,5,7,8,9,10,11,12,13,14,15,16,17,18,19,20,86,87,89] c (.prop (by decide) (.cell (f.bx 2 1 rfl rfl) .nil)) fun c d=>?_)
 obtain ⟨r7,c,k⟩:=bind_some k
 refine c_call d (f30_ok fuel x0 x1 y3 r7 c m _ _ f o_x0 c_x0 (SliceR.mono (zt (zt (zt (zt (zt H A) x) y) B) D) hx_x0) o_x1 c_x1 (SliceR.mono (zt (zt (zt (zt (zt H A) x) y) B) D) hx_x1)) ?_
 rintro d g l ⟨m,e7,q7,E,rfl,f,a9⟩ c
 refine tv ?_
 refine c_t [] [0,1,5,7,8,9,10,11,12,13,14,15,16,17,18,19,20,21,22] c .nil fun d c=>?_
 refine c_sr (c_n (oC:=[.prop ((0:Int)≤1∧(1:Int)<(3:Nat)), .cell ⟨s,1,none⟩ (vI y3)]) 4 [vI y3] [0,1,5,7,8,9,10,11,12,13,14,15,16,17,18,19,20,21,22,94,95,97] c (.prop (by decide) (.cell (f.bx 2 1 rfl rfl) .nil)) fun c d=>?_)
 obtain ⟨r8,c,k⟩:=bind_some k
 refine c_call d (f31_ok fuel x0 x1 y3 r8 c m _ _ f o_x0 c_x0 (SliceR.mono (zt (zt (zt (zt (zt (zt H A) x) y) B) D) E) hx_x0) o_x1 c_x1 (SliceR.mono (zt (zt (zt (zt (zt (zt H A) x) y) B) D) E) hx_x1)) ?_
 rintro f g l ⟨m,t,u,G,rfl,c,a6⟩ d
 refine tv ?_
 refine c_t [] [0,1,5,7,8,9,10,11,12,13,14,15,16,17,18,19,20,21,22,23,24] d .nil fun f d=>?_
 refine c_sr (c_n (oC:=[.prop ((0:Int)≤1∧(1:Int)<(3:Nat)), .cell ⟨s,1,none⟩ (vI y3), .prop ((0:Int)≤2∧(2:Int)<(3:Nat)), .cell ⟨s,2,none⟩ (vI y4)]) 6 [vI y3,vI y4] [0,1,5,7,8,9,10,11,12,13,14,15,16,17,18,19,20,21,22,23,24,102,103,105,107] d (.prop (by decide) (.cell (c.bx 2 1 rfl rfl) (.prop (by decide) (.cell (c.bx 2 2 rfl rfl) .nil)))) fun d f=>?_)
 obtain ⟨r9,d,k⟩:=bind_some k
 refine c_call f (f16_ok fuel x0 x1 y3 y4 r9 d m _ _ c o_x0 c_x0 (SliceR.mono (zt (zt (zt (zt (zt (zt (zt H A) x) y) B) D) E) G) hx_x0) o_x1 c_x1 (SliceR.mono (zt (zt (zt (zt (zt (zt (zt H A) x) y) B) D) E) G) hx_x1)) ?_
 rintro f g l ⟨m,I,rfl,c⟩ d
 refine tv ?_
 refine c_t [] [0,1,5,7,8,9,10,11,12,13,14,15,16,17,18,19,20,21,22,23,24,25,26,27] d .nil fun f d=>?_
 refine c_sr (c_n (oC:=[.prop ((0:Int)≤1∧(1:Int)<(3:Nat)), .cell ⟨s,1,none⟩ (vI y3), .prop ((0:Int)≤2∧(2:Int)<(3:Nat)), .cell ⟨s,2,none⟩ (vI y4)]) 6 [vI y3,vI y4] [7,8,9,10,11,12,13,14,15,16,17,18,19,20,21,22,23,24,25,26,27,113,114,116,118] d (.prop (by decide) (.cell (c.bx 2 1 rfl rfl) (.prop (by decide) (.cell (c.bx 2 2 rfl rfl) .nil)))) fun d f=>?_)
 obtain ⟨a3,d,k⟩:=bind_some k
 refine c_call f (f32_ok fuel x0 x1 y3 y4 a3 d m _ _ c o_x0 c_x0 (SliceR.mono (zt (zt (zt (zt (zt (zt (zt (zt H A) x) y) B) D) E) G) I) hx_x0) o_x1 c_x1 (SliceR.mono (zt (zt (zt (zt (zt (zt (zt (zt H A) x) y) B) D) E) G) I) hx_x1)) ?_
 rintro f g l ⟨m,K,rfl,c⟩ d
 refine tv ?_
 refine c_t [] [7,8,9,10,11,12,13,14,15,16,17,18,19,20,21,22,23,24,25,26,27,28,29,30] d .nil fun f d=>?_
 refine c_sr (c_n 2 [.slice e1 O.1.length q1,v2,v3,v4,v5,v6,v7,v8,v9,a2, .slice M J.1.length Q,R,S,T,U,V,W,X,Y,Z] [8,9,11,12,13,14,15,16,17,18,19,20,21,22,23,24,25,26,27,28,29,30,123,124] d (.cell (c.bx 1 0 rfl rfl) (.cell (c.bx 1 1 rfl rfl) (.cell (c.bx 1 2 rfl rfl) (.cell (c.bx 1 3 rfl rfl) (.cell (c.bx 1 4 rfl rfl) (.cell (c.bx 1 5 rfl rfl) (.cell (c.bx 1 6 rfl rfl) (.cell (c.bx 1 7 rfl rfl) (.cell (c.bx 1 8 rfl rfl) (.cell (c.bx 1 9 rfl rfl) (.cell (c.bx 0 0 rfl rfl) (.cell (c.bx 0 1 rfl rfl) (.cell (c.bx 0 2 rfl rfl) (.cell (c.bx 0 3 rfl rfl) (.cell (c.bx 0 4 rfl rfl) (.cell (c.bx 0 5 rfl rfl) (.cell (c.bx 0 6 rfl rfl) (.cell (c.bx 0 7 rfl rfl) (.cell (c.bx 0 8 rfl rfl) (.cell (c.bx 0 9 rfl rfl) .nil)))))))))))))))))))) fun d f=>?_)
 obtain ⟨C,d,k⟩:=bind_some k
 refine c_call f (f8_ok fuel O.1 O.2.1 J.1 J.2.1 C d m _ _ c e1 q1 (SliceR.mono (zt (zt (zt (zt (zt (zt (zt (zt A x) y) B) D) E) G) I) K) a1) v2 v3 v4 v5 v6 v7 v8 v9 a2 (Ty.mono _ (zt (zt (zt (zt (zt (zt (zt (zt A x) y) B) D) E) G) I) K) o) M Q (SliceR.mono (zt (zt (zt (zt (zt (zt (zt x y) B) D) E) G) I) K) z) R S T U V W X Y Z (Ty.mono _ (zt (zt (zt (zt (zt (zt (zt x y) B) D) E) G) I) K) n)) ?_
 rintro d f g ⟨l,a1,rfl,m⟩ c
 refine tv ?_
 refine c_t [] [8,9,11,12,13,14,15,16,17,18,19,20,21,22,23,24,25,26,27,28,29,30,31] c .nil fun d c=>?_
 refine c_sr (c_n 2 [] [9,12,13,14,15,16,17,18,19,20,21,22,23,24,25,26,27,28,29,30,31,126,127] c .nil fun c d=>?_)
 obtain ⟨z,c,k⟩:=bind_some k
 refine c_call d (f33_ok fuel O.2.2.1 J.2.2.1 z c l _ _ m e2 q2 (SliceR.mono (zt (zt (zt (zt (zt (zt (zt (zt (zt A x) y) B) D) E) G) I) K) a1) af) e4 q4 (SliceR.mono (zt (zt (zt (zt (zt (zt (zt (zt x y) B) D) E) G) I) K) a1) a5)) ?_
 rintro d f g ⟨l,a5,rfl,m⟩ c
 refine tv ?_
 refine c_t [] [9,12,13,14,15,16,17,18,19,20,21,22,23,24,25,26,27,28,29,30,31,32] c .nil fun d c=>?_
 refine c_sr (c_n 2 [] [9,12,13,14,15,16,18,20,21,22,23,24,25,26,27,28,29,30,31,32,129,130] c .nil fun c d=>?_)
 obtain ⟨o,c,k⟩:=bind_some k
 refine c_call d (f34_ok fuel r5.1 r6.1 o c l _ _ m e5 q5 (SliceR.mono (zt (zt (zt (zt (zt (zt D E) G) I) K) a1) a5) ab) e6 q6 (SliceR.mono (zt (zt (zt (zt (zt E G) I) K) a1) a5) a8)) ?_
 rintro d f g ⟨l,a8,rfl,m⟩ c
 refine tv ?_
 refine c_t [] [9,12,13,14,15,16,18,20,21,22,23,24,25,26,27,28,29,30,31,32,33] c .nil fun d c=>?_
 refine c_sr (c_n 2 [] [9,12,13,14,15,16,18,20,22,24,25,26,27,28,29,30,31,32,33,132,133] c .nil fun c d=>?_)
 obtain ⟨n,c,ae⟩:=bind_some k
 refine c_call d (f33_ok fuel r7.1 r8.1 n c l _ _ m e7 q7 (SliceR.mono (zt (zt (zt (zt (zt G I) K) a1) a5) a8) a9) t u (SliceR.mono (zt (zt (zt (zt I K) a1) a5) a8) a6)) ?_
 rintro d f g ⟨t,a9,rfl,u⟩ c
 refine tv ?_
 refine c_t [] [9,12,13,14,15,16,18,20,22,24,25,26,27,28,29,30,31,32,33,34] c .nil fun c d=>?_
 refine c_mid (fun a w=>∃a6:Zone,∃y1:Bool,Zone.le t a6∧Fr a 185 [(6, .bool y1)]∧St a6 (box b3 [.slice M J.1.length Q,R,S,T,U,V,W,X,Y,Z] 29::box b2 [.slice e1 O.1.length q1,v2,v3,v4,v5,v6,v7,v8,v9,a2] 29::box s [vI y2,vI y3,vI y4] 24::L) w∧(F9_j1 y1)=some r) ?_ ?_
 ·skip
  refine c_reg (c_n 2 [] [9,12,13,14,15,16,18,20,22,24,25,26,27,28,29,30,32,33,34,136] d .nil fun c Z=>?_)
  rcases bft C with T | T
  ·have ad:=cond_t T ae
   have c:=Z.lit 136 T
   refine c_n 3 [] [9,12,13,14,15,16,18,20,22,24,25,26,27,28,29,30,33,34,139] c .nil fun c Y=>?_
   rcases bft z with R | R
   ·have ac:=cond_t R ad
    have c:=Y.lit 139 R
    refine c_n 3 [] [9,12,13,14,15,16,18,20,22,24,25,26,27,28,29,30,34,142] c .nil fun c X=>?_
    rcases bft o with Q | Q
    ·have aa:=cond_t Q ac
     have c:=X.lit 142 Q
     refine c_n 3 [] [9,12,13,14,15,16,18,20,22,24,25,26,27,28,29,30,145] c .nil fun c W=>?_
     rcases bft n with M | M
     ·have a7:=cond_t M aa
      have c:=W.lit 145 M
      refine c_n 5 [] [13,14,15,16,18,20,22,24,25,26,27,28,29,30,150] c .nil fun c V=>?_
      rcases bft (O.2.2.2 == J.2.2.2) with J | J
      ·have a4:=cond_t J a7
       have c:=V.lit 150 J
       refine c_n 5 [] [14,16,18,20,22,24,25,26,27,28,29,30,155] c .nil fun c U=>?_
       rcases bft (r3.1 == r4.1) with z | z
       ·have a0:=cond_t z a4
        have c:=U.lit 155 z
        refine c_n 5 [] [18,20,22,24,25,26,27,28,29,30,160] c .nil fun c S=>?_
        rcases bft (r3.2 == r4.2) with s | s
        ·have P:=cond_t s a0
         have c:=S.lit 160 s
         refine c_n 5 [] [22,24,25,26,27,28,29,30,165] c .nil fun c O=>?_
         rcases bft (r5.2 == r6.2) with n | n
         ·have F:=cond_t n P
          have c:=O.lit 165 n
          refine c_n 5 [] [25,26,27,28,29,30,170] c .nil fun c C=>?_
          rcases bft (r7.2 == r8.2) with m | m
          ·have q:=cond_t m F
           have c:=C.lit 170 m
           refine c_n 5 [] [26,27,29,30,175] c .nil fun c o=>?_
           rcases bft (r9.1 == a3.1) with f | f
           ·have p:=cond_t f q
            have c:=o.lit 175 f
            refine c_n 5 [] [27,30,180] c .nil fun c l=>?_
            rcases bft (r9.2.1 == a3.2.1) with c | c
            ·have k:=cond_t c p
             have d:=l.lit 180 c
             refine c_t [] [6] d .nil fun g d=>?_
             exact ⟨t,(r9.2.2 == a3.2.2),zr,d.to,u,k⟩
            ·have k:=cond_f c p
             have c:=l.lit 180 c
             refine c_t [] [6] c .nil fun d c=>?_
             exact ⟨t,false,zr,c.to,u,k⟩
           ·have k:=cond_f f q
            have c:=o.lit 175 f
            refine c_t [] [6] c .nil fun d c=>?_
            exact ⟨t,false,zr,c.to,u,k⟩
          ·have k:=cond_f m F
           have c:=C.lit 170 m
           refine c_t [] [6] c .nil fun d c=>?_
           exact ⟨t,false,zr,c.to,u,k⟩
         ·have k:=cond_f n P
          have c:=O.lit 165 n
          refine c_t [] [6] c .nil fun d c=>?_
          exact ⟨t,false,zr,c.to,u,k⟩
        ·have k:=cond_f s a0
         have c:=S.lit 160 s
         refine c_t [] [6] c .nil fun d c=>?_
         exact ⟨t,false,zr,c.to,u,k⟩
       ·have k:=cond_f z a4
        have c:=U.lit 155 z
        refine c_t [] [6] c .nil fun d c=>?_
        exact ⟨t,false,zr,c.to,u,k⟩
      ·have k:=cond_f J a7
       have c:=V.lit 150 J
       refine c_t [] [6] c .nil fun d c=>?_
       exact ⟨t,false,zr,c.to,u,k⟩
     ·have k:=cond_f M aa
      have c:=W.lit 145 M
      refine c_t [] [6] c .nil fun d c=>?_
      exact ⟨t,false,zr,c.to,u,k⟩
    ·have k:=cond_f Q ac
     have c:=X.lit 142 Q
     refine c_t [] [6] c .nil fun d c=>?_
     exact ⟨t,false,zr,c.to,u,k⟩
   ·have k:=cond_f R ad
    have c:=Y.lit 139 R
    refine c_t [] [6] c .nil fun d c=>?_
    exact ⟨t,false,zr,c.to,u,k⟩
  ·have k:=cond_f T ae
   have c:=Z.lit 136 T
   refine c_t [] [6] c .nil fun d c=>?_
   exact ⟨t,false,zr,c.to,u,k⟩
 ·rintro d f ⟨a6,y1,g,c,l,k⟩
  refine c_ret (c_rt [] (.bool y1) c .nil ?_)
  obtain rfl:=some_eq k
  exact ⟨_,rfl,a6,(zt (zt (zt (zt (zt (zt (zt (zt (zt (zt (zt (zt (zt (zt H A) x) y) B) D) E) G) I) K) a1) a5) a8) a9) g),rfl,(St.drop 3 l)⟩
def F4_j3 (y1:Bool):Option (Bool) :=
  (some (y1))
def F4_j2 (fuel:Nat) (y2:Int) (y3:Int) (y4:Int) (r1:Bool) (r2:List Lot×List Deed) (y5:Int) (y6:Int) (y7:Int):Option (Bool) :=
  ((F9 fuel r2.1 r2.2 y5 y6 y7).bind fun r3=>((F9 fuel r2.1 r2.2 y2 y3 y4).bind fun r4=>(cond r1 (cond r3 (F4_j3 r4) (F4_j3 false)) (F4_j3 false))))
def F4_j1 (fuel:Nat) (y2:Int) (y3:Int) (y4:Int) (r1:Bool) (r2:List Lot×List Deed) (y5:Int):Option (Bool) :=
  (cond (decide ((r2.1.length:Int) > (0:Int))) ((F11 fuel y3 (r2.1.length:Int)).bind fun r5=>((getI r2.1 r5).bind fun p1=>((F11 fuel y4 (r2.1.length:Int)).bind fun r6=>((getI r2.1 r6).bind fun p2=>(F4_j2 fuel y2 y3 y4 r1 r2 y5 p1.id p2.id))))) (F4_j2 fuel y2 y3 y4 r1 r2 y5 y3 y4))
def F4 (fuel:Nat) (x0l:List A4) (x0d:List A5) (x0c0:Int) (x0c1:Int) (x0c2:Int) (y2:Int) (y3:Int) (y4:Int):Option (Bool) :=
  ((F5 fuel ).bind fun r1=>((F10 fuel x0l x0d).bind fun r2=>(cond (decide ((r2.2.length:Int) > (0:Int))) ((F11 fuel y2 (w64 ((r2.2.length:Int) + (1:Int)))).bind fun r7=>(F4_j1 fuel y2 y3 y4 r1 r2 r7)) (F4_j1 fuel y2 y3 y4 r1 r2 y2))))
set_option maxRecDepth 100000 in
theorem f4_ok (fuel:Nat) (x0l:List A4) (x0d:List A5) (x0c0:Int) (x0c1:Int) (x0c2:Int) (y2:Int) (y3:Int) (y4:Int) (r:Bool) (hr:F4 fuel x0l x0d x0c0 x0c1 x0c2 y2 y3 y4=some r) (h:Zone) (L:List Atom) (w:World) (hS:St h L w) (o_x0l:Option Addr) (c_x0l:Nat) (hx_x0l:SliceR A4T h o_x0l c_x0l x0l) (o_x0d:Option Addr) (c_x0d:Nat) (hx_x0d:SliceR A5T h o_x0d c_x0d x0d) :
    Calls Tryz.prog 4 #[.agg #[.slice o_x0l x0l.length c_x0l, .slice o_x0d x0d.length c_x0d,vI x0c0,vI x0c1,vI x0c2], .agg #[vI y2,vI y3,vI y4]] w fun e w'=>∃v,e= .returned v∧(∃h',Zone.le h h'∧v= .bool r∧St h' L w'):=by
 refine calls_intro (N:=69) Tryz.func4 (by kernel_rfl) fun a hf=>?_
 refine c_sr (c_box [.slice o_x0l x0l.length c_x0l, .slice o_x0d x0d.length c_x0d,vI x0c0,vI x0c1,vI x0c2] 38 hS hf fun M i k b c=>tv (c_box [vI y2,vI y3,vI y4] 24 b c fun C l m f d=>tv (c_t [] [2,3] d .nil fun n g=>(c_sr ?_))))
 obtain ⟨G,b,j⟩:=bind_some hr
 refine c_call g (f5_ok fuel  G b h _ _ f ) ?_
 rintro d f g ⟨i,P,rfl,b⟩ c
 refine tv ?_
 refine c_t [] [2,3,5] c .nil fun d c=>?_
 refine c_sr (c_n 4 [.slice o_x0l x0l.length c_x0l, .slice o_x0d x0d.length c_x0d] [3,5,14,16] c (.cell (b.bx 1 0 rfl rfl) (.cell (b.bx 1 1 rfl rfl) .nil)) fun c d=>?_)
 obtain ⟨n,c,p⟩:=bind_some j
 refine c_call d (f10_ok fuel x0l x0d n c i _ _ b o_x0l c_x0l (SliceR.mono P hx_x0l) o_x0d c_x0d (SliceR.mono P hx_x0d)) ?_
 rintro d f g ⟨o,E,H,I,J,Q,rfl,b,K,O⟩ c
 refine tv ?_
 refine c_t [] [3,5,6,7] c .nil fun d c=>?_
 refine c_sr (c_n 1 [vI y2,vI y3,vI y4] [3,5,6,7,20] c (.cell (b.bx 0 0 rfl rfl) (.cell (b.bx 0 1 rfl rfl) (.cell (b.bx 0 2 rfl rfl) .nil))) fun g c=>(c_box [vI 0,vI 0,vI 0] 24 b c fun F i k b d=>tv (c_st 0 [vI y2,vI y3,vI y4] b d rfl fun l m q f=>tv (c_dt (c_mid (fun a w=>∃s:Zone,∃t:Int,Zone.le o s∧Fr a 69 [(3,pB C 0),(5, .bool G),(6, .slice E n.1.length H),(7, .slice I n.2.length J),(8,pB F 0)]∧St s (box F [vI t,vI y3,vI y4] 24::box C [vI y2,vI y3,vI y4] 24::box M [.slice o_x0l x0l.length c_x0l, .slice o_x0d x0d.length c_x0d,vI x0c0,vI x0c1,vI x0c2] 38::L) w∧(F4_j1 fuel y2 y3 y4 G n t)=some r) ?_ ?_)))))
 ·skip
  refine c_sq [] [3,5,6,7,8,23] f .nil fun b l=>?_
  refine c_if (decide ((n.2.length:Int) > (0:Int))) l (fun k=>?_) (fun k=>?_)
  ·have j:=cond_t k p
   refine c_reg (c_n (oC:=[.prop ((0:Int)≤0∧(0:Int)<(3:Nat)), .cell ⟨C,0,none⟩ (vI y2)]) 5 [vI y2] [3,5,6,7,8,25,28] l (.prop (by decide) (.cell (q.bx 1 0 rfl rfl) .nil)) fun b c=>?_)
   obtain ⟨d,b,j⟩:=bind_some j
   refine c_call c (f11_ok fuel y2 (w64 ((n.2.length:Int) + (1:Int))) d b o _ _ q ) ?_
   rintro c f g ⟨rfl,i⟩ b
   refine tv ?_
   refine c_n (oC:=[.prop ((0:Int)≤0∧(0:Int)<(3:Nat))]) 1 [] [3,5,6,7,8,29,30] b (.prop (by decide) .nil) fun c b=>?_
   refine c_st 0 [vI d,vI y3,vI y4] i b rfl fun f g b c=>tv ?_
   refine c_dt ?_
   exact ⟨o,d,zr,c.to,b,j⟩
  ·have j:=cond_f k p
   refine c_skip (n_then ?_)
   exact ⟨o,y2,zr,l.to,q,j⟩
 ·rintro b c ⟨s,t,D,d,A,p⟩
  refine c_mid (fun a w=>∃y:Zone,∃u:Int,∃x:Int,Zone.le s y∧Fr a 69 [(3,pB C 0),(5, .bool G),(6, .slice E n.1.length H),(7, .slice I n.2.length J),(8,pB F 0)]∧St y (box F [vI t,vI u,vI x] 24::box C [vI y2,vI y3,vI y4] 24::box M [.slice o_x0l x0l.length c_x0l, .slice o_x0d x0d.length c_x0d,vI x0c0,vI x0c1,vI x0c2] 38::L) w∧(F4_j2 fuel y2 y3 y4 G n t u x)=some r) ?_ ?_
  ·skip
   refine c_sq [] [3,5,6,7,8,33] d .nil fun b z=>?_
   refine c_if (decide ((n.1.length:Int) > (0:Int))) z (fun q=>?_) (fun q=>?_)
   ·have j:=cond_t q p
    refine c_sr (c_n (oC:=[.prop ((0:Int)≤1∧(1:Int)<(3:Nat)), .cell ⟨C,1,none⟩ (vI y3)]) 5 [vI y3] [3,5,6,7,8,34,36,38] z (.prop (by decide) (.cell (A.bx 1 1 rfl rfl) .nil)) fun b d=>?_)
    obtain ⟨c,b,j⟩:=bind_some j
    refine c_call d (f11_ok fuel y3 (n.1.length:Int) c b s _ _ A ) ?_
    rintro b d f ⟨rfl,i⟩ m
    refine tv ?_
    obtain ⟨l,b,j⟩:=bind_some j
    obtain ⟨b,d,f,k,rfl,g⟩:=SliceR.getI (SliceR.mono D K) b
    refine c_n (oC:=[.prop (E=some b), .prop (0≤c∧c<(n.1.length:Nat)), .cell ((b.add (Int.toNat c * 4)).add 0) (vI l.id), .prop ((0:Int)≤1∧(1:Int)<(3:Nat))]) 4 [.pointer (some b),vI l.id] [3,5,6,7,8,42,43] m (.prop d (.prop f (.cell (i.cell (g 0 _ rfl)) (.prop (by decide) .nil)))) fun c b=>?_
    refine c_st 0 [vI t,vI l.id,vI y4] i b rfl fun d f b c=>tv ?_
    refine c_dt (c_reg (c_n (oC:=[.prop ((0:Int)≤2∧(2:Int)<(3:Nat)), .cell ⟨C,2,none⟩ (vI y4)]) 5 [vI y4] [3,5,6,7,8,44,46,48] c (.prop (by decide) (.cell (b.bx 1 2 rfl rfl) .nil)) fun c f=>?_))
    obtain ⟨d,c,j⟩:=bind_some j
    refine c_call f (f11_ok fuel y4 (n.1.length:Int) d c s _ _ b ) ?_
    rintro b c f ⟨rfl,k⟩ o
    refine tv ?_
    obtain ⟨c,b,j⟩:=bind_some j
    obtain ⟨b,f,g,m,rfl,i⟩:=SliceR.getI (SliceR.mono D K) b
    refine c_n (oC:=[.prop (E=some b), .prop (0≤d∧d<(n.1.length:Nat)), .cell ((b.add (Int.toNat d * 4)).add 0) (vI c.id), .prop ((0:Int)≤2∧(2:Int)<(3:Nat))]) 4 [.pointer (some b),vI c.id] [3,5,6,7,8,52,53] o (.prop f (.prop g (.cell (k.cell (i 0 _ rfl)) (.prop (by decide) .nil)))) fun d b=>?_
    refine c_st 0 [vI t,vI l.id,vI c.id] k b rfl fun f g b d=>tv ?_
    refine c_dt ?_
    exact ⟨s,l.id,c.id,zr,d.to,b,j⟩
   ·have j:=cond_f q p
    refine c_skip (n_then ?_)
    exact ⟨s,y3,y4,zr,z.to,A,j⟩
  ·rintro d f ⟨y,u,x,q,c,b,j⟩
   refine c_sr (c_n 3 [vI t,vI u,vI x] [3,5,6,7,54,55,56] c (.cell (b.bx 0 0 rfl rfl) (.cell (b.bx 0 1 rfl rfl) (.cell (b.bx 0 2 rfl rfl) .nil))) fun c d=>?_)
   obtain ⟨s,c,j⟩:=bind_some j
   refine c_call d (f9_ok fuel n.1 n.2 t u x s c y _ _ b E H (SliceR.mono (zt D q) K) I J (SliceR.mono (zt D q) O)) ?_
   rintro d f g ⟨i,y,rfl,b⟩ c
   refine tv ?_
   refine c_t [] [3,5,6,7,9] c .nil fun d c=>?_
   refine c_sr (c_n 3 [vI y2,vI y3,vI y4] [5,9,58,59,60] c (.cell (b.bx 1 0 rfl rfl) (.cell (b.bx 1 1 rfl rfl) (.cell (b.bx 1 2 rfl rfl) .nil))) fun c d=>?_)
   obtain ⟨o,c,B⟩:=bind_some j
   refine c_call d (f9_ok fuel n.1 n.2 y2 y3 y4 o c i _ _ b E H (SliceR.mono (zt (zt D q) y) K) I J (SliceR.mono (zt (zt D q) y) O)) ?_
   rintro c d f ⟨k,z,rfl,n⟩ b
   refine tv ?_
   refine c_t [] [5,9,10] b .nil fun b c=>?_
   refine c_mid (fun a w=>∃l:Zone,∃i:Bool,Zone.le k l∧Fr a 69 [(4, .bool i)]∧St l (box F [vI t,vI u,vI x] 24::box C [vI y2,vI y3,vI y4] 24::box M [.slice o_x0l x0l.length c_x0l, .slice o_x0d x0d.length c_x0d,vI x0c0,vI x0c1,vI x0c2] 38::L) w∧(F4_j3 i)=some r) ?_ ?_
   ·skip
    refine c_reg (c_n 2 [] [9,10,63] c .nil fun b m=>?_)
    rcases bft G with d | d
    ·have p:=cond_t d B
     have b:=m.lit 63 d
     refine c_n 3 [] [10,66] b .nil fun b g=>?_
     rcases bft s with b | b
     ·have j:=cond_t b p
      have c:=g.lit 66 b
      refine c_t [] [4] c .nil fun f c=>?_
      exact ⟨k,o,zr,c.to,n,j⟩
     ·have j:=cond_f b p
      have b:=g.lit 66 b
      refine c_t [] [4] b .nil fun c b=>?_
      exact ⟨k,false,zr,b.to,n,j⟩
    ·have j:=cond_f d B
     have b:=m.lit 63 d
     refine c_t [] [4] b .nil fun c b=>?_
     exact ⟨k,false,zr,b.to,n,j⟩
   ·rintro c d ⟨l,i,f,b,g,j⟩
    refine c_ret (c_rt [] (.bool i) b .nil ?_)
    obtain rfl:=some_eq j
    exact ⟨_,rfl,l,(zt (zt (zt (zt (zt (zt P Q) D) q) y) z) f),rfl,(St.drop 3 g)⟩
end Go.Proofs.YtlmgjjmighajdaaGreat
set_option linter.unusedSimpArgs false
set_option linter.unusedVariables false
namespace Go.Proofs.YtlmgjjmighajdaaGreat
open Go.Sl Go.Sx
theorem w64_id {n:Int} (h1: -9223372036854775808≤n) (h2:n≤9223372036854775807):w64 n=n:=by
  unfold w64 IntKind.wrap
  simp [IntKind.bits,IntKind.signed]
  omega
theorem succ_w {i:Nat} (h:i<4000000000):w64 ((i:Int) + 1)=((i + 1:Nat):Int):=by
  rw [w64_id (by omega) (by omega)]; simp
theorem pred_w {i:Nat} (h:i<4000000000) (h0:0<i):w64 ((i:Int) - 1)=((i - 1:Nat):Int):=by
  rw [w64_id (by omega) (by omega)]; omega
theorem sane_true:F5 200=some true:=by kernel_rfl
theorem loop_all {ρ:Type} {L:Nat→Int→Option ρ} {len:Nat} {good:Nat→Prop} {no yes:Option ρ}
    (h:∀n i,i<len→(good i∧L (n + 1) (i:Int)=L n ((i + 1:Nat):Int))∨(¬ good i∧L (n + 1) (i:Int)=no))
    (he:∀n,L (n + 1) (len:Int)=yes):∀n i,i≤len→len - i<n→((∀j,i≤j→j<len→good j)∧L n (i:Int)=yes)∨((¬ ∀j,i≤j→j<len→good j)∧L n (i:Int)=no)
  | 0,i,_,hn=>by omega
  | n + 1,i,hi,hn=>by
    rcases Nat.lt_or_ge i len with hlt | hge
    · rcases h n i hlt with ⟨hg,e⟩ | ⟨hg,e⟩
      · rw [e]
        rcases loop_all h he n (i + 1) (by omega) (by omega) with ⟨h1,h2⟩ | ⟨h1,h2⟩
        · exact .inl ⟨fun j hj hl=>by rcases Nat.eq_or_lt_of_le hj with e | e; exact e ▸ hg; exact h1 j e hl,h2⟩
        · exact .inr ⟨fun hall=>h1 fun j hj hl=>hall j (by omega) hl,h2⟩
      · exact .inr ⟨fun hall=>hg (hall i (Nat.le_refl _) hlt),e⟩
    · have:i=len:=by omega
      subst this
      exact .inl ⟨fun j hj hl=>by omega,he n⟩
theorem loop_all0 {ρ:Type} {L:Nat→Int→Option ρ} {len:Nat} {good:Nat→Prop} {no yes:Option ρ}
    (h:∀n i,i<len→(good i∧L (n + 1) (i:Int)=L n ((i + 1:Nat):Int))∨(¬ good i∧L (n + 1) (i:Int)=no))
    (he:∀n,L (n + 1) (len:Int)=yes) {n:Nat} (hn:len<n):((∀j,j<len→good j)∧L n 0=yes)∨((¬ ∀j,j<len→good j)∧L n 0=no):=by
  rcases loop_all h he n 0 (by omega) (by omega) with ⟨h1,h2⟩ | ⟨h1,h2⟩
  · exact .inl ⟨fun j hj=>h1 j (by omega) hj,h2⟩
  · exact .inr ⟨fun h=>h1 fun j _ hj=>h j hj,h2⟩
theorem getI_nat {α:Type} {xs:List α} {i:Nat} (h:i<xs.length):getI xs (i:Int)=some xs[i]:=getI_of h
theorem lt_len {i n:Nat}:decide ((i:Int)<(n:Int))=decide (i<n):=by
  by_cases h:i<n
  · have:(i:Int)<n:=by omega
    simp [h,this]
  · have:¬ (i:Int)<n:=by omega
    simp [h,this]
theorem F48_eq (f:Nat) (x a b:Int):F48 f x a b=some (decide (a≤x∧x≤b)):=by
  unfold F48 F48_j1
  by_cases h1:a≤x <;> by_cases h2:x≤b <;> simp [h1,h2]
theorem F60_eq (f:Nat) (x a b:Int):F60 f x a b=some (decide (a≤x∧x≤b)):=by
  unfold F60 F60_j1
  by_cases h1:a≤x <;> by_cases h2:x≤b <;> simp [h1,h2]
structure LotOk (l:Lot):Prop where
  id0:1≤l.id
  id1:l.id≤9999
  ow0:1≤l.owner
  ow1:l.owner≤9
  gr0:1≤l.grade
  gr1:l.grade≤9
  we0:0≤l.wet
  we1:l.wet≤10000
theorem F17_eq (f:Nat) (l:Lot):(LotOk l∧F17 f l.id l.owner l.grade l.wet=some 0)∨(¬ LotOk l∧F17 f l.id l.owner l.grade l.wet=some 60):=by
  unfold F17 F17_j1
  simp only [F48_eq,Option.bind_some]
  by_cases h1:1≤l.id∧l.id≤9999
  · by_cases h2:1≤l.owner∧l.owner≤9
    · by_cases h3:1≤l.grade∧l.grade≤9
      · by_cases h4:0≤l.wet∧l.wet≤10000
        · exact .inl ⟨⟨h1.1,h1.2,h2.1,h2.2,h3.1,h3.2,h4.1,h4.2⟩,by simp [h1,h2,h3,h4]⟩
        · exact .inr ⟨fun k=>h4 ⟨k.we0,k.we1⟩,by simp [h1,h2,h3,h4]⟩
      · exact .inr ⟨fun k=>h3 ⟨k.gr0,k.gr1⟩,by simp [h1,h2,h3]⟩
    · exact .inr ⟨fun k=>h2 ⟨k.ow0,k.ow1⟩,by simp [h1,h2]⟩
  · exact .inr ⟨fun k=>h1 ⟨k.id0,k.id1⟩,by simp [h1]⟩
theorem F53_17 (f:Nat) (a b c d:Int):F53 f a b c d=F17 f a b c d:=by
  unfold F53 F17 F53_j1 F17_j1
  simp only [F48_eq,F60_eq]
def LotsOk (l:List Lot):Prop:=l.length≤40∧(∀x∈l,LotOk x)∧l.Pairwise fun a b=>a.id<b.id
theorem pairs_of {α:Type} {r:α→α→Prop} (tr:∀a b c,r a b→r b c→r a c):∀ {l:List α},(∀j (h:j + 1<l.length),r l[j] l[j + 1])→l.Pairwise r
  | [],_=>List.Pairwise.nil
  | [_],_=>List.pairwise_singleton _ _
  | a::b::l,h=>by
    have ih:=pairs_of tr (l:=b::l) fun j hj=>h (j + 1) (by simpa using hj)
    refine List.pairwise_cons.2 ⟨fun c hc=>?_,ih⟩
    have h0:r a b:=h 0 (by simp)
    rcases List.mem_cons.1 hc with rfl | hc
    · exact h0
    · exact tr _ _ _ h0 ((List.pairwise_cons.1 ih).1 c hc)
theorem pairs_at {α:Type} {r:α→α→Prop}:∀ {l:List α},l.Pairwise r→∀ {i j:Nat} (hi:i<l.length) (hj:j<l.length),i<j→r l[i] l[j]:=by
  intro l hl i j hi hj hij
  exact List.pairwise_iff_getElem.1 hl i j hi hj hij
def adjL (l:List Lot) (j:Nat):Prop:=∀h:j<l.length,LotOk l[j]∧(0<j→l[j - 1].id<l[j].id)
theorem lotsOk_iff {l:List Lot} (h:l.length≤40):(∀j,j<l.length→adjL l j)↔LotsOk l:=by
  constructor
  · intro k
    refine ⟨h,fun x hx=>?_,pairs_of (fun a b c h1 h2=>by omega) fun j hj=>?_⟩
    · obtain ⟨j,hj,rfl⟩:=List.getElem_of_mem hx
      exact (k j hj hj).1
    · exact (k (j + 1) hj hj).2 (by omega)
  · rintro ⟨_,h1,h2⟩ j _ hj
    exact ⟨h1 _ (List.getElem_mem _),fun h0=>pairs_at h2 (by omega) hj (by omega)⟩
theorem F77_eq {f:Nat} {l:List Lot} (hf:40<f):(LotsOk l∧F77 f l=some 0)∨(¬ LotsOk l∧F77 f l=some 60):=by
  unfold F77
  by_cases h40:(l.length:Int) > 40
  · exact .inr ⟨fun k=>by have:=k.1; omega,by simp [h40]⟩
  · have h41:l.length≤40:=by omega
    simp only [h40,decide_false,cond_false]
    rw [← lotsOk_iff h41]
    refine loop_all0 (L:=F77_l1 f l) (len:=l.length) (fun n i hi=>?_) (fun n=>?_) (by omega)
    · simp only [F77_l1,lt_len,hi,decide_true,cond_true,getI_nat hi,Option.bind_some,F77_j1]
      rw [succ_w (by omega)]
      rcases F17_eq f l[i] with ⟨g1,e⟩ | ⟨g1,e⟩
      · rw [e]
        simp only [Option.bind_some]
        by_cases h0:0<i
        · have h0':(i:Int) > 0:=by omega
          simp only [h0',decide_true,pred_w (i:=i) (by omega) h0,getI_nat (show i - 1<l.length by omega),Option.bind_some]
          by_cases hg:l[i - 1].id≥l[i].id
          · exact .inr ⟨fun k=>by have:=(k hi).2 h0; omega,by simp [hg]⟩
          · exact .inl ⟨fun h=>⟨g1,fun _=>by omega⟩,by simp [hg]⟩
        · have h0':¬ (i:Int) > 0:=by omega
          exact .inl ⟨fun h=>⟨g1,fun k=>absurd k h0⟩,by simp [h0]⟩
      · exact .inr ⟨fun k=>g1 (k hi).1,by rw [e]; simp⟩
    · simp [F77_l1]
theorem F21_19 (f:Nat) (l:List Lot):F21 f l=F77 f l:=by
  unfold F21 F77
  have:∀n y,F21_l1 f l n y=F77_l1 f l n y:=by
    intro n
    induction n with
    | zero=>intro y; rfl
    | succ n ih =>
      intro y
      have ih':F21_l1 f l n=F77_l1 f l n:=funext ih
      simp only [F21_l1,F77_l1,ih',F21_j1,F77_j1,F53_17]
      cases h:getI l y with
      | none=>simp
      | some p=>simp
  rw [this]
def sumM (h:List Part):Int:=(h.map (·.mass)).sum
def sumH (l:List (List Part)):Int:=(l.map sumM).sum
structure PartOk (p:Part):Prop where
  l0:1≤p.lot
  l1:p.lot≤9999
  m0:1≤p.mass
  m1:p.mass≤100000000
def HeapOk (h:List Part):Prop:=h.length≤40∧(∀p∈h,PartOk p)∧(h.Pairwise fun a b=>a.lot<b.lot)∧sumM h≤100000000
def adjP (l:List Part) (j:Nat):Prop:=∀h:j<l.length,PartOk l[j]∧(0<j→l[j - 1].lot<l[j].lot)
theorem sum_app:∀(a b:List Int),(a ++ b).sum=a.sum + b.sum
  | [],b=>by simp
  | x::a,b=>by simp only [List.cons_append,List.sum_cons,sum_app a b]; omega
theorem sumM_app (a b:List Part):sumM (a ++ b)=sumM a + sumM b:=by unfold sumM; rw [List.map_append,sum_app]
theorem sumH_app (a b:List (List Part)):sumH (a ++ b)=sumH a + sumH b:=by unfold sumH; rw [List.map_append,sum_app]
theorem sumM_take {l:List Part} {i:Nat} (hi:i<l.length):sumM (l.take (i + 1))=sumM (l.take i) + l[i].mass:=by
  rw [List.take_succ_eq_append_getElem hi,sumM_app]
  simp [sumM]
theorem sumM_bound:∀ {l:List Part},(∀p∈l,PartOk p)→0≤sumM l∧sumM l≤100000000 * l.length
  | [],_=>by simp [sumM]
  | p::l,h=>by
    have ih:=sumM_bound (l:=l) fun q hq=>h q (List.mem_cons_of_mem _ hq)
    have hp:=h p (by simp)
    have:=hp.m0; have:=hp.m1
    simp only [sumM,List.map_cons,List.sum_cons,List.length_cons] at ih ⊢
    omega
theorem heapOk_iff {l:List Part} (h:l.length≤40):((∀j,j<l.length→adjP l j)∧sumM l≤100000000)↔HeapOk l:=by
  constructor
  · rintro ⟨k,hs⟩
    refine ⟨h,fun x hx=>?_,pairs_of (fun a b c h1 h2=>by omega) fun j hj=>?_,hs⟩
    · obtain ⟨j,hj,rfl⟩:=List.getElem_of_mem hx
      exact (k j hj hj).1
    · exact (k (j + 1) hj hj).2 (by omega)
  · rintro ⟨_,h1,h2,h3⟩
    exact ⟨fun j _ hj=>⟨h1 _ (List.getElem_mem _),fun h0=>pairs_at h2 (by omega) hj (by omega)⟩,h3⟩
theorem F37_loop {f:Nat} {l:List Part} (h40:l.length≤40):∀n i,i≤l.length→l.length - i<n→(∀j,j<i→adjP l j) →
    ((∀j,j<l.length→adjP l j)∧F37_l1 f l n (sumM (l.take i)) (i:Int)=some (decide (sumM l≤100000000)))∨((¬ ∀j,j<l.length→adjP l j)∧F37_l1 f l n (sumM (l.take i)) (i:Int)=some false)
  | 0,i,_,hn,_=>by omega
  | n + 1,i,hi,hn,hd=>by
    rcases Nat.lt_or_ge i l.length with hlt | hge
    · have hb:0≤sumM (l.take i)∧sumM (l.take i)≤100000000 * (l.take i).length:=sumM_bound fun p hp=>by
        obtain ⟨j,hj,rfl⟩:=List.getElem_of_mem hp
        simp only [List.length_take] at hj
        rw [List.getElem_take]
        exact (hd j (by omega) (by omega)).1
      have hb2:(l.take i).length≤40:=by rw [List.length_take]; omega
      have next:adjP l i→((∀j,j<l.length→adjP l j)∧F37_l1 f l n (w64 (sumM (l.take i) + l[i].mass)) (w64 ((i:Int) + 1))=some (decide (sumM l≤100000000)))∨((¬ ∀j,j<l.length→adjP l j)∧F37_l1 f l n (w64 (sumM (l.take i) + l[i].mass)) (w64 ((i:Int) + 1))=some false):=fun g=>by
        have gp:=(g hlt).1
        have:=gp.m0; have:=gp.m1
        rw [succ_w (by omega),w64_id (by omega) (by omega), ← sumM_take hlt]
        exact F37_loop h40 n (i + 1) (by omega) (by omega) fun j hj=>by
          rcases Nat.lt_or_ge j i with h | h
          · exact hd j h
          · have:j=i:=by omega
            subst this; exact g
      simp only [F37_l1,lt_len,hlt,decide_true,cond_true,getI_nat hlt,Option.bind_some,F37_j1,F48_eq]
      by_cases h1:1≤l[i].lot∧l[i].lot≤9999
      · by_cases h2:1≤l[i].mass∧l[i].mass≤100000000
        · by_cases h0:0<i
          · have h0':(i:Int) > 0:=by omega
            simp only [h1,h2,h0',and_self,decide_true,Bool.not_true,cond_false,cond_true,pred_w (i:=i) (by omega) h0,getI_nat (show i - 1<l.length by omega),Option.bind_some]
            by_cases hg:l[i - 1].lot≥l[i].lot
            · exact .inr ⟨fun k=>by have:=(k i hlt hlt).2 h0; omega,by simp [hg]⟩
            · simp only [hg,decide_false,cond_false]
              exact next fun h=>⟨⟨h1.1,h1.2,h2.1,h2.2⟩,fun _=>by omega⟩
          · have h0':¬ (i:Int) > 0:=by omega
            simp only [h1,h2,h0',and_self,decide_true,decide_false,Bool.not_true,cond_false]
            exact next fun h=>⟨⟨h1.1,h1.2,h2.1,h2.2⟩,fun k=>absurd k h0⟩
        · exact .inr ⟨fun k=>h2 ⟨(k i hlt hlt).1.m0,(k i hlt hlt).1.m1⟩,by simp [h1,h2]⟩
      · exact .inr ⟨fun k=>h1 ⟨(k i hlt hlt).1.l0,(k i hlt hlt).1.l1⟩,by simp [h1]⟩
    · have:i=l.length:=by omega
      subst this
      refine .inl ⟨fun j hj=>hd j hj,?_⟩
      simp [F37_l1]
theorem F37_eq {f:Nat} {l:List Part} (hf:40<f):(HeapOk l∧F37 f l=some true)∨(¬ HeapOk l∧F37 f l=some false):=by
  unfold F37
  by_cases h40:(l.length:Int) > 40
  · exact .inr ⟨fun k=>by have:=k.1; omega,by simp [h40]⟩
  · have h41:l.length≤40:=by omega
    simp only [h40,decide_false,cond_false]
    rw [← heapOk_iff h41]
    have:=F37_loop (f:=f) h41 f 0 (by omega) (by omega) (fun j hj=>by omega)
    simp only [List.take_zero] at this
    have e0:sumM []=0:=rfl
    rw [e0] at this
    rcases this with ⟨h1,h2⟩ | ⟨h1,h2⟩
    · by_cases hs:sumM l≤100000000
      · exact .inl ⟨⟨h1,hs⟩,by simpa [hs] using h2⟩
      · exact .inr ⟨fun k=>hs k.2,by simpa [hs] using h2⟩
    · exact .inr ⟨fun k=>h1 k.1,by simpa using h2⟩
theorem F100_73 (f:Nat) (l:List Part):F100 f l=F37 f l:=by
  unfold F100 F37
  have:∀n y z,F100_l1 f l n y z=F37_l1 f l n y z:=by
    intro n
    induction n with
    | zero=>intro y z; rfl
    | succ n ih =>
      intro y z
      have ih':F100_l1 f l n=F37_l1 f l n:=funext fun y=>funext fun z=>ih y z
      simp only [F100_l1,F37_l1,ih',F100_j1,F37_j1,F48_eq,F60_eq]
  rw [this]
theorem mass_le {l:List Part} (h:HeapOk l):0≤sumM l∧sumM l≤100000000:=⟨(sumM_bound h.2.1).1,h.2.2.2⟩
theorem sumM_take_le {l:List Part} (h:∀p∈l,PartOk p) (i:Nat):0≤sumM (l.take i)∧sumM (l.take i)≤sumM l:=by
  have e:l=l.take i ++ l.drop i:=(List.take_append_drop i l).symm
  have h1:=sumM_bound (l:=l.take i) fun p hp=>h p (List.mem_of_mem_take hp)
  have h2:=sumM_bound (l:=l.drop i) fun p hp=>h p (List.mem_of_mem_drop hp)
  have h3:sumM l=sumM (l.take i) + sumM (l.drop i):=by rw [← sumM_app,List.take_append_drop]
  omega
theorem F38_loop {l:List Part} (h:HeapOk l):∀n i,i≤l.length→l.length - i<n→F38_l1 l n (sumM (l.take i)) (i:Int)=some (sumM l)
  | 0,i,_,hn=>by omega
  | n + 1,i,hi,hn=>by
    have h40:=h.1
    rcases Nat.lt_or_ge i l.length with hlt | hge
    · have h1:=sumM_take_le h.2.1 (i + 1)
      have h2:=mass_le h
      rw [sumM_take hlt] at h1
      simp only [F38_l1,lt_len,hlt,decide_true,cond_true,getI_nat hlt,Option.bind_some]
      rw [succ_w (by omega),w64_id (by omega) (by omega), ← sumM_take hlt]
      exact F38_loop h n (i + 1) (by omega) (by omega)
    · have:i=l.length:=by omega
      subst this
      simp [F38_l1]
theorem F38_eq {f:Nat} {l:List Part} (h:HeapOk l) (hf:40<f):F38 f l=some (sumM l):=by
  have:=F38_loop h f 0 (by omega) (by have:=h.1; omega)
  simpa [F38,sumM] using this
theorem F82_90 (f:Nat) (l:List Part):F82 f l=F38 f l:=by
  unfold F82 F38
  have:∀n y z,F82_l1 l n y z=F38_l1 l n y z:=by
    intro n
    induction n with
    | zero=>intro y z; rfl
    | succ n ih =>
      intro y z
      have ih':F82_l1 l n=F38_l1 l n:=funext fun y=>funext fun z=>ih y z
      simp only [F82_l1,F38_l1,ih']
  rw [this]
theorem sumH_take {l:List (List Part)} {i:Nat} (hi:i<l.length):sumH (l.take (i + 1))=sumH (l.take i) + sumM l[i]:=by
  rw [List.take_succ_eq_append_getElem hi,sumH_app]
  simp [sumH]
theorem sumH_bound:∀ {l:List (List Part)},(∀h∈l,HeapOk h)→0≤sumH l∧sumH l≤100000000 * l.length
  | [],_=>by simp [sumH]
  | p::l,h=>by
    have ih:=sumH_bound (l:=l) fun q hq=>h q (List.mem_cons_of_mem _ hq)
    have hp:=mass_le (h p (by simp))
    simp only [sumH,List.map_cons,List.sum_cons,List.length_cons] at ih ⊢
    omega
theorem F41_loop {f:Nat} {l:List (List Part)} (hl:l.length≤4) (h:∀x∈l,HeapOk x) (hf:40<f):∀n i,i≤l.length→l.length - i<n→F41_l1 f l n (sumH (l.take i)) (i:Int)=some (sumH l)
  | 0,i,_,hn=>by omega
  | n + 1,i,hi,hn=>by
    rcases Nat.lt_or_ge i l.length with hlt | hge
    · have h1:=sumH_bound (l:=l.take (i + 1)) fun x hx=>h x (List.mem_of_mem_take hx)
      have h2:(l.take (i + 1)).length≤4:=by rw [List.length_take]; omega
      rw [sumH_take hlt] at h1
      simp only [F41_l1,lt_len,hlt,decide_true,cond_true,getI_nat hlt,Option.bind_some,F38_eq (h _ (List.getElem_mem _)) hf]
      rw [succ_w (by omega),w64_id (by omega) (by omega), ← sumH_take hlt]
      exact F41_loop hl h hf n (i + 1) (by omega) (by omega)
    · have:i=l.length:=by omega
      subst this
      simp [F41_l1]
theorem F41_eq {f:Nat} {l:List (List Part)} (hl:l.length≤4) (h:∀x∈l,HeapOk x) (hf:40<f):F41 f l=some (sumH l):=by
  have:=F41_loop hl h hf f 0 (by omega) (by omega)
  simpa [F41,sumH] using this
theorem F69_75 (f:Nat) (l:List (List Part)):F69 f l=F41 f l:=by
  unfold F69 F41
  have:∀n y z,F69_l1 f l n y z=F41_l1 f l n y z:=by
    intro n
    induction n with
    | zero=>intro y z; rfl
    | succ n ih =>
      intro y z
      have ih':F69_l1 f l n=F41_l1 f l n:=funext fun y=>funext fun z=>ih y z
      simp only [F69_l1,F41_l1,ih',F82_90]
  rw [this]
end Go.Proofs.YtlmgjjmighajdaaGreat
set_option linter.unusedSimpArgs false
set_option linter.unusedVariables false
namespace Go.Proofs.YtlmgjjmighajdaaGreat
open Go.Sl Go.Sx
def Has (l:List Lot) (id:Int):Prop:=∃x∈l,x.id=id
instance (l:List Lot) (x:Int):Decidable (Has l x):=inferInstanceAs (Decidable (∃y∈l,y.id=x))
theorem F74_eq (f:Nat) (l:Lot) (x:Int):F74 f l.id l.owner l.grade l.wet x=some (if l.id<x then -1 else if l.id > x then 1 else 0):=by
  unfold F74 F75 F92
  by_cases h1:l.id<x <;> by_cases h2:l.id > x <;> simp [h1,h2]
theorem half_w {a b:Nat} (h:a + b<4000000000):w64 (Int.fdiv (IntKind.wrap .u64 (w64 ((a:Int) + (b:Int)))) 2)=(((a + b) / 2:Nat):Int):=by
  rw [w64_id (n:=(a:Int) + b) (by omega) (by omega)]
  have e1:IntKind.wrap .u64 ((a:Int) + b)=(a:Int) + b:=by
    unfold IntKind.wrap
    simp [IntKind.bits,IntKind.signed]
    omega
  rw [e1]
  have e2:Int.fdiv ((a:Int) + b) 2=(((a + b) / 2:Nat):Int):=by
    rw [Int.fdiv_eq_ediv_of_nonneg _ (by decide)]
    omega
  rw [e2,w64_id (by omega) (by omega)]
theorem F42_loop {f:Nat} {l:List Lot} (hl:l.length≤40) (hs:l.Pairwise fun a b=>a.id<b.id) (x:Int):∀n i j,i≤j→j≤l.length→j - i<n →
    (∀k (h:k<l.length),k<i→l[k].id<x)→(∀k (h:k<l.length),j≤k→¬ l[k].id<x) →
    ∃p:Nat,p≤l.length∧(∀k (h:k<l.length),k<p→l[k].id<x)∧(∀k (h:k<l.length),p≤k→¬ l[k].id<x) ∧
      F42_l1 f l x n (i:Int) (j:Int)=some ((p:Int),decide (∃h:p<l.length,l[p].id=x))
  | 0,i,j,_,_,hn,_,_=>by omega
  | n + 1,i,j,hij,hj,hn,h1,h2=>by
    rcases Nat.lt_or_ge i j with hlt | hge
    · have hm:(i + j) / 2<l.length:=by omega
      have hm1:i≤(i + j) / 2:=by omega
      have hm2:(i + j) / 2<j:=by omega
      simp only [F42_l1,lt_len,hlt,decide_true,cond_true,half_w (a:=i) (b:=j) (by omega),getI_nat hm,Option.bind_some,F74_eq]
      by_cases hx:l[(i + j) / 2].id<x
      · simp only [hx,if_true]
        have e:decide ((-1:Int)<0)=true:=rfl
        rw [e,cond_true,succ_w (by omega)]
        refine F42_loop hl hs x n ((i + j) / 2 + 1) j (by omega) hj (by omega) (fun k hk hki=>?_) h2
        rcases Nat.lt_or_ge k ((i + j) / 2) with h | h
        · have:=pairs_at hs hk hm h; omega
        · have:k=(i + j) / 2:=by omega
          subst this; exact hx
      · have e:decide ((if l[(i + j) / 2].id<x then (-1:Int) else if l[(i + j) / 2].id > x then 1 else 0)<0)=false:=by
          rw [if_neg hx]; split <;> rfl
        rw [e,cond_false]
        refine F42_loop hl hs x n i ((i + j) / 2) (by omega) (by omega) (by omega) h1 (fun k hk hki=>?_)
        rcases Nat.lt_or_ge ((i + j) / 2) k with h | h
        · have:=pairs_at hs hm hk h; omega
        · have:k=(i + j) / 2:=by omega
          subst this; exact hx
    · have:i=j:=by omega
      subst this
      refine ⟨i,hj,h1,h2,?_⟩
      simp only [F42_l1,lt_len,Nat.lt_irrefl,decide_false,cond_false]
      by_cases hi:i<l.length
      · simp only [hi,decide_true,cond_true,getI_nat hi,Option.bind_some,F74_eq,F42_j1]
        have hx:=h2 i hi (Nat.le_refl _)
        congr 2
        rw [if_neg hx]
        by_cases hg:l[i].id > x
        · have:¬ l[i].id=x:=by omega
          simp [hg,this]
        · have:l[i].id=x:=by omega
          simp [this]
      · simp [hi,F42_j1]
theorem F42_eq {f:Nat} {l:List Lot} (h:LotsOk l) (x:Int) (hf:40<f) :
    ∃p:Nat,F42 f l x=some ((p:Int),decide (Has l x))∧(Has l x→∃h:p<l.length,l[p].id=x):=by
  obtain ⟨p,hp,h1,h2,e⟩:=F42_loop (f:=f) h.1 h.2.2 x f 0 l.length (by omega) (by omega) (by have:=h.1; omega) (fun k _ hk=>by omega) (fun k hk hk2=>by omega)
  have key:Has l x↔∃h:p<l.length,l[p].id=x:=by
    constructor
    · rintro ⟨y,hy,rfl⟩
      obtain ⟨j,hj,rfl⟩:=List.getElem_of_mem hy
      rcases Nat.lt_trichotomy j p with hjp | hjp | hjp
      · have:=h1 j hj hjp; omega
      · subst hjp; exact ⟨hj,rfl⟩
      · have hpl:p<l.length:=by omega
        have:=pairs_at h.2.2 hpl hj hjp
        have:=h2 p hpl (Nat.le_refl _)
        omega
    · rintro ⟨hp,e⟩
      exact ⟨l[p],List.getElem_mem _,e⟩
  refine ⟨p,?_,key.1⟩
  unfold F42
  have e0:(0:Int)=((0:Nat):Int):=rfl
  rw [e0,e]
  congr 2
  exact decide_eq_decide.2 key.symm
theorem F64_loop {l:List Lot} (hl:l.length≤40) (x:Int):∀n i,i≤l.length→l.length - i<n→(∀k (h:k<l.length),k<i→l[k].id≠x) →
    (∃p:Nat,(∃h:p<l.length,l[p].id=x∧∀k (h:k<l.length),k<p→l[k].id≠x)∧F64_l1 l x n (i:Int)=some (p:Int))∨(¬ Has l x∧F64_l1 l x n (i:Int)=some (-1))
  | 0,i,_,hn,_=>by omega
  | n + 1,i,hi,hn,hd=>by
    rcases Nat.lt_or_ge i l.length with hlt | hge
    · simp only [F64_l1,lt_len,hlt,decide_true,cond_true,getI_nat hlt,Option.bind_some]
      by_cases hx:l[i].id=x
      · exact .inl ⟨i,⟨hlt,hx,fun k hk hki=>hd k hk hki⟩,by simp [hx]⟩
      · have e:(l[i].id == x)=false:=by simpa using hx
        rw [e,cond_false,succ_w (by omega)]
        exact F64_loop hl x n (i + 1) (by omega) (by omega) fun k hk hki=>by
          rcases Nat.lt_or_ge k i with h | h
          · exact hd k hk h
          · have:k=i:=by omega
            subst this; exact hx
    · have:i=l.length:=by omega
      subst this
      refine .inr ⟨fun ⟨y,hy,e⟩=>?_,by simp [F64_l1]⟩
      obtain ⟨j,hj,rfl⟩:=List.getElem_of_mem hy
      exact hd j hj hj e
theorem F64_eq {f:Nat} {l:List Lot} (hl:l.length≤40) (x:Int) (hf:40<f) :
    (∃p:Nat,(∃h:p<l.length,l[p].id=x)∧Has l x∧F64 f l x=some (p:Int))∨(¬ Has l x∧F64 f l x=some (-1)):=by
  rcases F64_loop hl x f 0 (by omega) (by omega) (fun k _ hk=>by omega) with ⟨p,⟨hp,e,_⟩,h⟩ | h
  · exact .inl ⟨p,⟨hp,e⟩,⟨l[p],List.getElem_mem _,e⟩,by simpa [F64] using h⟩
  · exact .inr ⟨h.1,by simpa [F64] using h.2⟩
structure GoodHeap (lots:List Lot) (h:List Part):Prop where
  ok:HeapOk h
  ne:h≠[]
  lots:∀p∈h,Has lots p.lot
structure GoodHold (lots:List Lot) (l:List (List Part)):Prop where
  len:l.length≤4
  heaps:∀h∈l,GoodHeap lots h
  sum:sumH l≤100000000
theorem F80_l3_eq {f:Nat} {k1:Int→Option Int} {lots:List Lot} (hl:LotsOk lots) {hold:List (List Part)} {i:Nat} (hi:i<hold.length) (hp:hold[i].length≤40) (hf:40<f) :
    ((∀q∈hold[i],Has lots q.lot)∧F80_l3 f k1 lots hold (i:Int) f 0=k1 (w64 ((i:Int) + 1)))∨((¬ ∀q∈hold[i],Has lots q.lot)∧F80_l3 f k1 lots hold (i:Int) f 0=some 62):=by
  have key:=loop_all0 (L:=F80_l3 f k1 lots hold (i:Int)) (len:=hold[i].length) (good:=fun j=>∀h:j<hold[i].length,Has lots hold[i][j].lot) (no:=some 62) (yes:=k1 (w64 ((i:Int) + 1))) (fun n j hj=>by
    simp only [F80_l3,getI_nat hi,Option.bind_some,lt_len,hj,decide_true,cond_true,getI_nat hj]
    rcases F64_eq (f:=f) hl.1 hold[i][j].lot hf with ⟨q,_,hh,e⟩ | ⟨hh,e⟩
    · refine .inl ⟨fun _=>hh,?_⟩
      have h0:¬ (q:Int)<0:=by omega
      simp only [e,Option.bind_some,h0,decide_false,cond_false]; rw [succ_w (by omega)]
    · exact .inr ⟨fun k=>hh (k trivial),by simp [e]⟩) (fun n=>by simp [F80_l3,getI_nat hi]) (n:=f) (by omega)
  have iff:(∀j,j<hold[i].length→∀h:j<hold[i].length,Has lots hold[i][j].lot)↔∀q∈hold[i],Has lots q.lot:=by
    constructor
    · intro k q hq; obtain ⟨j,hj,rfl⟩:=List.getElem_of_mem hq; exact k j hj hj
    · intro k j hj _; exact k _ (List.getElem_mem _)
  rw [iff] at key
  exact key
theorem allMem {α:Type} {l:List α} {r:α→Prop}:(∀j,j<l.length→∀h:j<l.length,r l[j])↔∀x∈l,r x:=by
  constructor
  · intro k q hq; obtain ⟨j,hj,rfl⟩:=List.getElem_of_mem hq; exact k j hj hj
  · intro k j hj _; exact k _ (List.getElem_mem _)
end Go.Proofs.YtlmgjjmighajdaaGreat
set_option linter.unusedSimpArgs false
set_option linter.unusedVariables false
namespace Go.Proofs.YtlmgjjmighajdaaGreat
open Go.Sl Go.Sx
section
variable {α : Type} (lt : α → α → Bool)
def insRev (x:α):List α→List α
  | []=>[x]
  | y::r=>bif lt x y then y::insRev x r else x::y::r
def sortRev (l:List α):List α:=l.foldl (fun r x=>insRev lt x r) []
theorem insRev_perm (x:α):∀r:List α,(insRev lt x r).Perm (x::r)
  | []=>List.Perm.refl _
  | y::r=>by
    unfold insRev
    cases lt x y with
    | true=>exact ((insRev_perm x r).cons y).trans (List.Perm.swap x y r)
    | false=>exact List.Perm.refl _
theorem sortRev_perm_aux:∀(l r:List α),(l.foldl (fun r x=>insRev lt x r) r).Perm (l ++ r)
  | [],r=>List.Perm.refl _
  | x::l,r=>by
    refine (sortRev_perm_aux l (insRev lt x r)).trans ?_
    refine ((insRev_perm lt x r).append_left l).trans ?_
    exact List.perm_middle
theorem sortRev_perm (l:List α):(sortRev lt l).Perm l:=by
  have:=sortRev_perm_aux lt l []
  rwa [List.append_nil] at this
end
theorem insRev_sorted {α:Type} {lt:α→α→Bool} {bf:α→α→Prop} (tr:∀a b c,bf a b→bf b c→bf a c) {x:α}:∀ {r:List α},r.Pairwise (fun a b=>bf b a)→(∀y∈r,lt x y=true→bf x y)→(∀y∈r,lt x y=false→bf y x) →
    (insRev lt x r).Pairwise (fun a b=>bf b a)
  | [],_,_,_=>List.pairwise_singleton _ _
  | y::r,hp,h1,h2=>by
    have hp':=List.pairwise_cons.1 hp
    unfold insRev
    cases e:lt x y with
    | true =>
      simp only [cond_true]
      refine List.pairwise_cons.2 ⟨fun z hz=>?_,insRev_sorted tr hp'.2 (fun z hz=>h1 z (List.mem_cons_of_mem _ hz)) (fun z hz=>h2 z (List.mem_cons_of_mem _ hz))⟩
      rcases List.mem_cons.1 ((insRev_perm lt x r).mem_iff.1 hz) with rfl | hz
      · exact h1 y (by simp) e
      · exact hp'.1 z hz
    | false =>
      simp only [cond_false]
      refine List.pairwise_cons.2 ⟨fun z hz=>?_,hp⟩
      have hy:=h2 y (by simp) e
      rcases List.mem_cons.1 hz with rfl | hz
      · exact hy
      · exact tr _ _ _ (hp'.1 z hz) hy
theorem take_iff {α:Type} [DecidableEq α] {bf:α→α→Prop} [DecidableRel bf] (irr:∀a,¬ bf a a) (asy:∀a b,bf a b→¬ bf b a):∀ {l:List α} {k:Nat} {x:α},l.Pairwise bf→x∈l→(x∈l.take k↔l.countP (fun y=>decide (bf y x))<k)
  | [],k,x,_,hx=>by cases hx
  | y::l,0,x,_,_=>by simp
  | y::l,k + 1,x,hp,hx=>by
    have hp':=List.pairwise_cons.1 hp
    by_cases e:x=y
    · subst e
      have hz:(x::l).countP (fun z=>decide (bf z x))=0:=by
        rw [List.countP_eq_zero]
        intro z hz
        simp only [decide_eq_true_eq]
        rcases List.mem_cons.1 hz with rfl | hz
        · exact irr _
        · exact asy _ _ (hp'.1 z hz)
      rw [hz]
      simp
    · have hxl:x∈l:=by rcases List.mem_cons.1 hx with h | h; exact absurd h e; exact h
      have hb:bf y x:=hp'.1 x hxl
      have ih:=take_iff irr asy (k:=k) hp'.2 hxl
      rw [List.take_succ_cons,List.mem_cons,List.countP_cons_of_pos (by simpa using hb)]
      constructor
      · rintro (h | h)
        · exact absurd h e
        · have:=ih.1 h; omega
      · intro h
        exact .inr (ih.2 (by omega))
def rem_ (m s:Int) (a:List Int) (i:Int):Int:=(m * a.getD i.toNat 0) % s
def ahead (m s:Int) (a:List Int) (i j:Int):Prop:=rem_ m s a i > rem_ m s a j∨(rem_ m s a i=rem_ m s a j∧i<j)
instance (m s:Int) (a:List Int):DecidableRel (ahead m s a):=fun i j=>inferInstanceAs (Decidable (_∨_))
theorem ahead_irr (m s:Int) (a:List Int) (i:Int):¬ ahead m s a i i:=by unfold ahead; omega
theorem ahead_asy (m s:Int) (a:List Int) (i j:Int) (h:ahead m s a i j):¬ ahead m s a j i:=by unfold ahead at *; omega
theorem ahead_tr (m s:Int) (a:List Int) (i j k:Int) (h:ahead m s a i j) (h':ahead m s a j k):ahead m s a i k:=by unfold ahead at *; omega
def less (m s:Int) (a:List Int) (i j:Int):Bool:=decide (rem_ m s a i > rem_ m s a j)
def places (n:Nat):List Int:=(List.range n).map fun i:Nat=>(i:Int)
def orderS (m s:Int) (a:List Int):List Int:=(sortRev (less m s a) (places a.length)).reverse
theorem sortRev_aux (m s:Int) (a:List Int):∀(l r:List Int),(∀y∈r,∀x∈l,y<x)→l.Pairwise (· < ·)→r.Pairwise (fun x y=>ahead m s a y x) →
    (l.foldl (fun r x=>insRev (less m s a) x r) r).Pairwise (fun x y=>ahead m s a y x)
  | [],r,_,_,h=>h
  | x::l,r,h1,h2,h3=>by
    have h2':=List.pairwise_cons.1 h2
    refine sortRev_aux m s a l _ (fun y hy z hz=>?_) h2'.2 (insRev_sorted (ahead_tr m s a) h3 (fun y hy e=>?_) (fun y hy e=>?_))
    · rcases List.mem_cons.1 ((insRev_perm _ x r).mem_iff.1 hy) with rfl | hy
      · exact h2'.1 z hz
      · exact h1 y hy z (List.mem_cons_of_mem _ hz)
    · have:=of_decide_eq_true e
      exact .inl this
    · have e':=of_decide_eq_false e
      have:=h1 y hy x (by simp)
      unfold ahead
      omega
theorem places_rising (n:Nat):(places n).Pairwise (· < ·):=by
  unfold places
  rw [List.pairwise_map]
  exact List.pairwise_lt_range.imp fun h=>by omega
theorem mem_places {n:Nat} {x:Int}:x∈places n↔0≤x∧x<n:=by
  unfold places
  simp only [List.mem_map,List.mem_range]
  constructor
  · rintro ⟨i,hi,rfl⟩; omega
  · rintro ⟨h1,h2⟩; exact ⟨x.toNat,by omega,by omega⟩
theorem orderS_sorted (m s:Int) (a:List Int):(orderS m s a).Pairwise (ahead m s a):=by
  unfold orderS
  rw [List.pairwise_reverse]
  exact sortRev_aux m s a _ [] (fun y hy=>by cases hy) (places_rising _) List.Pairwise.nil
theorem orderS_perm (m s:Int) (a:List Int):(orderS m s a).Perm (places a.length):=(List.reverse_perm _).trans (sortRev_perm _ _)
def rank (m s:Int) (a:List Int) (i:Int):Nat:=(places a.length).countP fun j=>decide (ahead m s a j i)
theorem first_iff (m s:Int) (a:List Int) {i:Int} (hi:i∈places a.length) (k:Nat):i∈(orderS m s a).take k↔rank m s a i<k:=by
  have hp:=orderS_perm m s a
  rw [take_iff (ahead_irr m s a) (ahead_asy m s a) (orderS_sorted m s a) (hp.mem_iff.2 hi),hp.countP_eq]
  rfl
end Go.Proofs.YtlmgjjmighajdaaGreat
set_option linter.unusedSimpArgs false
set_option linter.unusedVariables false
namespace Go.Proofs.YtlmgjjmighajdaaGreat
open Go.Sl Go.Sx
theorem sum_nonneg:∀ {a:List Int},(∀x∈a,0≤x)→0≤a.sum
  | [],_=>by simp
  | x::a,h=>by have:=sum_nonneg (a:=a) fun y hy=>h y (List.mem_cons_of_mem _ hy); have:=h x (by simp); simp only [List.sum_cons]; omega
theorem le_sum:∀ {a:List Int},(∀x∈a,0≤x)→∀x∈a,x≤a.sum
  | [],_,x,hx=>by cases hx
  | y::a,h,x,hx=>by
    have h0:=h y (by simp)
    have h1:=sum_nonneg (a:=a) fun z hz=>h z (List.mem_cons_of_mem _ hz)
    simp only [List.sum_cons]
    rcases List.mem_cons.1 hx with rfl | hx
    · omega
    · have:=le_sum (a:=a) (fun z hz=>h z (List.mem_cons_of_mem _ hz)) x hx; omega
structure DealOk (m:Int) (a:List Int):Prop where
  nn:∀x∈a,0≤x
  s0:0<a.sum
  s1:a.sum≤100000000
  m0:0≤m
  m1:m≤100000000
  len:a.length<20
def baseS (m:Int) (a:List Int) (i:Nat):Int:=m * a.getD i 0 / a.sum
def baseL (m:Int) (a:List Int):List Int:=a.map fun x=>m * x / a.sum
def leftS (m:Int) (a:List Int):Int:=m - (baseL m a).sum
def dealS (m:Int) (a:List Int):List Int:=(List.range a.length).map fun i=>baseS m a i + (if rank m a.sum a (i:Int)<(leftS m a).toNat then 1 else 0)
theorem div_sum (m s:Int) (hs:s≠0):∀b:List Int,s * (b.map fun x=>m * x / s).sum + (b.map fun x=>m * x % s).sum=m * b.sum
  | []=>by simp
  | x::b=>by
    have ih:=div_sum m s hs b
    have e:=Int.mul_ediv_add_emod (m * x) s
    simp only [List.map_cons,List.sum_cons]
    grind
theorem rem_sum {m s:Int} (hs:0<s):∀b:List Int,0≤(b.map fun x=>m * x % s).sum∧(b.map fun x=>m * x % s).sum≤(s - 1) * b.length
  | []=>by simp
  | x::b=>by
    have ih:=rem_sum (m:=m) hs b
    have h1:=Int.emod_nonneg (m * x) (show s≠0 by omega)
    have h2:=Int.emod_lt_of_pos (m * x) hs
    simp only [List.map_cons,List.sum_cons,List.length_cons]
    have e:(s - 1) * ((b.length + 1:Nat):Int)=(s - 1) * b.length + (s - 1):=by push_cast; grind
    omega
theorem left_bounds {m:Int} {a:List Int} (h:DealOk m a):0≤leftS m a∧leftS m a≤a.length∧a.sum * leftS m a=(a.map fun x=>m * x % a.sum).sum:=by
  have h1:=div_sum m a.sum (by have:=h.s0; omega) a
  have h2:=rem_sum (m:=m) h.s0 a
  have e:a.sum * leftS m a=(a.map fun x=>m * x % a.sum).sum:=by unfold leftS baseL; grind
  have hs:=h.s0
  refine ⟨?_,?_,e⟩
  · rcases Int.lt_or_le (leftS m a) 0 with hl | hl
    · have:a.sum * leftS m a<0:=Int.mul_neg_of_pos_of_neg hs hl
      omega
    · exact hl
  · rcases Int.lt_or_le (a.length:Int) (leftS m a) with hl | hl
    · have h3:a.sum * a.length<a.sum * leftS m a:=Int.mul_lt_mul_of_pos_left hl hs
      have h4:(a.sum - 1) * a.length≤a.sum * a.length:=Int.mul_le_mul_of_nonneg_right (by omega) (by omega)
      omega
    · exact hl
theorem getD_mem {a:List Int} {i:Nat} (h:i<a.length):a.getD i 0=a[i]:=by simp [h]
theorem base_bounds {m:Int} {a:List Int} (h:DealOk m a) {i:Nat} (hi:i<a.length):0≤baseS m a i∧baseS m a i≤m:=by
  have h0:=h.nn _ (List.getElem_mem hi)
  have h1:=le_sum h.nn _ (List.getElem_mem hi)
  unfold baseS
  rw [getD_mem hi]
  have hm:=h.m0
  have hs:=h.s0
  refine ⟨Int.ediv_nonneg (Int.mul_nonneg hm h0) (by omega),?_⟩
  refine Int.ediv_le_of_le_mul hs ?_
  exact Int.mul_le_mul_of_nonneg_left h1 hm
theorem prod_bounds {m:Int} {a:List Int} (h:DealOk m a) {i:Nat} (hi:i<a.length):0≤m * a[i]∧m * a[i]≤10000000000000000:=by
  have h0:=h.nn _ (List.getElem_mem hi)
  have h1:=le_sum h.nn _ (List.getElem_mem hi)
  have:=h.s1; have:=h.m0; have:=h.m1
  refine ⟨Int.mul_nonneg h.m0 h0,?_⟩
  have:m * a[i]≤100000000 * 100000000:=Int.mul_le_mul (by omega) (by omega) h0 (by omega)
  omega
theorem F75_eq (f:Nat) (x y:Int):F75 f x y=some (if x<y then -1 else if x > y then 1 else 0):=by
  unfold F75 F92
  by_cases h1:x<y <;> by_cases h2:x > y <;> simp [h1,h2]
theorem nzS {n:Int} (h:n≠0):nz n=some ():=by unfold nz; rw [if_pos h]
theorem tmod_eq {m:Int} {a:List Int} (h:DealOk m a) {i:Nat} (hi:i<a.length):Int.tmod (w64 (m * a[i])) a.sum=rem_ m a.sum a (i:Int):=by
  have hp:=prod_bounds h hi
  rw [w64_id (by omega) (by omega),Int.tmod_eq_emod_of_nonneg hp.1]
  unfold rem_
  have e:((i:Int)).toNat=i:=by omega
  rw [e,getD_mem hi]
theorem setI_mid {pre post:List Int} {x y:Int} {j:Int} (hj:j=pre.length):setI (pre ++ x::post) j y=some (pre ++ y::post):=by
  subst hj
  unfold setI
  have h1:(0:Int)≤pre.length∧(pre.length:Int)<(pre ++ x::post).length:=by simp; omega
  rw [if_pos h1]
  simp
theorem getI_mid {pre post:List Int} {x:Int} {j:Int} (hj:j=pre.length):getI (pre ++ x::post) j=some x:=by
  subst hj
  unfold getI
  rw [if_pos (by omega)]
  simp
def Good (n:Nat) (l:List Int):Prop:=∀x∈l,0≤x∧x<n
theorem F70_l7_eq {f:Nat} {k4:List Int→Int→Option (List Int)} {m:Int} {a:List Int} (h:DealOk m a) (i:Int) (x:Int):∀n (r tl:List Int),Good a.length (x::r)→r.length<n→r.length<100 →
    F70_l7 f k4 m a a.sum 0 i n (r.reverse ++ x::tl) (r.length:Int)=k4 ((insRev (less m a.sum a) x r).reverse ++ tl) (w64 (i + 1))
  | 0,r,tl,_,hn,_=>by omega
  | n + 1,[],tl,hg,hn,hl=>by simp [F70_l7,F70_j3,insRev]
  | n + 1,y::r,tl,hg,hn,hl=>by
    have hx:=hg x (by simp)
    have hy:=hg y (by simp)
    have hxl:x.toNat<a.length:=by omega
    have hyl:y.toNat<a.length:=by omega
    have ex:getI a x=some a[x.toNat]:=by have:=getI_nat hxl; rwa [Int.toNat_of_nonneg hx.1] at this
    have ey:getI a y=some a[y.toNat]:=by have:=getI_nat hyl; rwa [Int.toNat_of_nonneg hy.1] at this
    have hs:a.sum≠0:=by have:=h.s0; omega
    have hpos:decide (((y::r).length:Int) > 0)=true:=by simp
    have hlen:(((y::r).length:Nat):Int)=(r.reverse ++ [y]).length:=by simp
    have hpred:w64 (((y::r).length:Int) - 1)=(r.reverse.length:Nat):=by rw [pred_w (by omega) (by simp)]; simp
    have e0:(y::r).reverse ++ x::tl=(r.reverse ++ [y]) ++ x::tl:=by simp
    have e1:(y::r).reverse ++ x::tl=r.reverse ++ y::(x::tl):=by simp
    have g1:getI ((y::r).reverse ++ x::tl) ((y::r).length:Int)=some x:=by rw [e0]; exact getI_mid hlen
    have g2:getI ((y::r).reverse ++ x::tl) (w64 (((y::r).length:Int) - 1))=some y:=by rw [e1]; exact getI_mid hpred
    have t1:=tmod_eq h hxl
    have t2:=tmod_eq h hyl
    rw [Int.toNat_of_nonneg hx.1] at t1
    rw [Int.toNat_of_nonneg hy.1] at t2
    simp only [F70_l7,hpos,cond_true,g1,g2,Option.bind_some,ex,ey,nzS hs,t1,t2,F75_eq,F70_j3]
    by_cases hl2:rem_ m a.sum a y<rem_ m a.sum a x
    · have hc:decide ((if rem_ m a.sum a y<rem_ m a.sum a x then (-1:Int) else if rem_ m a.sum a y > rem_ m a.sum a x then 1 else 0)<0)=true:=by rw [if_pos hl2]; rfl
      have hless:less m a.sum a x y=true:=by unfold less; simpa using hl2
      have s1:setI ((y::r).reverse ++ x::tl) ((y::r).length:Int) y=some ((r.reverse ++ [y]) ++ y::tl):=by rw [e0]; exact setI_mid hlen
      have e2:(r.reverse ++ [y]) ++ y::tl=r.reverse ++ y::(y::tl):=by simp
      have g3:getI ((r.reverse ++ [y]) ++ y::tl) (w64 (((y::r).length:Int) - 1))=some y:=by rw [e2]; exact getI_mid hpred
      have s2:setI ((r.reverse ++ [y]) ++ y::tl) (w64 (((y::r).length:Int) - 1)) x=some (r.reverse ++ x::(y::tl)):=by rw [e2]; exact setI_mid hpred
      rw [hc]
      simp only [cond_true,s1,Option.bind_some,g3,s2]
      have ih:=F70_l7_eq (f:=f) (k4:=k4) h i x n r (y::tl) (fun z hz=>hg z (by rcases List.mem_cons.1 hz with e | e; simp [e]; simp [e])) (by simp at hn; omega) (by simp at hl; omega)
      have e3:((r.reverse.length:Nat):Int)=(r.length:Int):=by simp
      rw [hpred,e3,ih]
      simp [insRev,hless]
    · have hc:decide ((if rem_ m a.sum a y<rem_ m a.sum a x then (-1:Int) else if rem_ m a.sum a y > rem_ m a.sum a x then 1 else 0)<0)=false:=by rw [if_neg hl2]; split <;> rfl
      have hless:less m a.sum a x y=false:=by unfold less; simpa using hl2
      rw [hc]
      simp [insRev,hless]
theorem insRev_len {α:Type} (lt:α→α→Bool) (x:α) (r:List α):(insRev lt x r).length=r.length + 1:=by rw [(insRev_perm lt x r).length_eq]; rfl
theorem F70_l6_eq {f:Nat} {m:Int} {a:List Int} (h:DealOk m a) (hf:100<f) (y17 y13:List Int) (y18:Int) (hy:y13.length=a.length):∀n (r tl:List Int),Good a.length (r ++ tl)→r.length + tl.length=a.length→tl.length<n →
    F70_l6 f m a a.sum y17 y13 y18 0 n (r.reverse ++ tl) (r.length:Int)=F70_l8 f y17 y13 y18 ((tl.foldl (fun r x=>insRev (less m a.sum a) x r) r).reverse) f 20
  | 0,r,tl,_,_,hn=>by omega
  | n + 1,r,[],hg,hl,hn=>by
    have hlt:decide ((r.length:Int)<(y13.length:Int))=false:=by simpa using (show (y13.length:Int)≤r.length by simp at hl; omega)
    simp only [F70_l6,hlt,cond_false,List.append_nil,List.foldl_nil]
  | n + 1,r,x::tl,hg,hl,hn=>by
    have hlen:=h.len
    have hlt:decide ((r.length:Int)<(y13.length:Int))=true:=by simpa using (show (r.length:Int)<y13.length by simp at hl; omega)
    simp only [F70_l6,hlt,cond_true]
    rw [F70_l7_eq (f:=f) h (r.length:Int) x f r tl (fun z hz=>hg z (by rcases List.mem_cons.1 hz with e | e; simp [e]; simp [e])) (by simp at hl; omega) (by simp at hl; omega)]
    have e:w64 ((r.length:Int) + 1)=((insRev (less m a.sum a) x r).length:Int):=by rw [succ_w (by simp at hl; omega),insRev_len]
    rw [e,F70_l6_eq h hf y17 y13 y18 hy n (insRev (less m a.sum a) x r) tl (fun z hz=>hg z (by
      rcases List.mem_append.1 hz with hz | hz
      · rcases List.mem_cons.1 ((insRev_perm _ x r).mem_iff.1 hz) with e | e
        · simp [e]
        · simp [e]
      · simp [hz])) (by rw [insRev_len]; simp at hl; omega) (by simp at hn; omega)]
    rfl
theorem good_places (n:Nat):Good n (places n):=fun x hx=>mem_places.1 hx
theorem sorted_places {f:Nat} {m:Int} {a:List Int} (h:DealOk m a) (hf:100<f) (y17:List Int) (y18:Int) :
    F70_l3 f m a a.sum y17 (places a.length) y18 f (places a.length) 0 20=F70_l8 f y17 (places a.length) y18 (orderS m a.sum a) f 20:=by
  have hlen:=h.len
  obtain ⟨n,rfl⟩:∃n,f=n + 1:=⟨f - 1,by omega⟩
  have hpl:(places a.length).length=a.length:=by simp [places]
  have h20:decide ((20:Int)≤((places a.length).length:Int))=false:=by rw [hpl]; simpa using (show (a.length:Int)<20 by omega)
  simp only [F70_l3,h20,cond_false]
  have e1:w64 ((0:Int) + 1)=1:=rfl
  rw [e1]
  rcases hp:places a.length with _ | ⟨x,tl⟩
  · -- no numbers at all
    have:a.length=0:=by rw [← hpl,hp]; rfl
    have:a=[]:=List.eq_nil_of_length_eq_zero this
    have:=h.s0
    simp_all
  · have hg:Good a.length (x::tl):=hp ▸ good_places a.length
    have hl2:tl.length + 1=a.length:=by rw [← hpl,hp]; rfl
    have:=F70_l6_eq (f:=n + 1) h hf y17 (x::tl) y18 (by simpa using hl2) (n + 1) [x] tl (by simpa using hg) (by simp; omega) (by omega)
    simp only [List.reverse_cons,List.reverse_nil,List.nil_append,List.length_cons,List.length_nil,List.singleton_append] at this
    have e2:((0 + 1:Nat):Int)=1:=rfl
    rw [e2] at this
    rw [this]
    unfold orderS sortRev
    rw [hp]
    rfl
end Go.Proofs.YtlmgjjmighajdaaGreat
set_option linter.unusedSimpArgs false
set_option linter.unusedVariables false
namespace Go.Proofs.YtlmgjjmighajdaaGreat
open Go.Sl Go.Sx
theorem baseL_len (m:Int) (a:List Int):(baseL m a).length=a.length:=by simp [baseL]
theorem places_len (n:Nat):(places n).length=n:=by simp [places]
theorem baseL_at {m:Int} {a:List Int} {i:Nat} (h:i<a.length):(baseL m a)[i]'(by rw [baseL_len]; exact h)=baseS m a i:=by
  unfold baseL baseS
  rw [List.getElem_map,getD_mem h]
theorem places_at {n i:Nat} (h:i<n):(places n)[i]'(by rw [places_len]; exact h)=(i:Int):=by simp [places]
theorem sum_take_bound {m:Int} (hm:0≤m):∀ {l:List Int},(∀x∈l,0≤x∧x≤m)→0≤l.sum∧l.sum≤m * l.length
  | [],_=>by simp
  | x::l,h=>by
    have ih:=sum_take_bound hm (l:=l) fun y hy=>h y (List.mem_cons_of_mem _ hy)
    have hx:=h x (by simp)
    simp only [List.sum_cons,List.length_cons]
    have e:m * ((l.length + 1:Nat):Int)=m * l.length + m:=by push_cast; grind
    omega
theorem base_mem {m:Int} {a:List Int} (h:DealOk m a):∀x∈baseL m a,0≤x∧x≤m:=fun x hx=>by
  obtain ⟨i,hi,rfl⟩:=List.getElem_of_mem hx
  rw [baseL_len] at hi
  rw [baseL_at hi]
  exact base_bounds h hi
theorem F70_l2_eq {f:Nat} {m:Int} {a:List Int} (h:DealOk m a):∀k i n,i + k=a.length→k<n →
    F70_l2 f m a a.sum n ((baseL m a).take i ++ List.replicate k 0) ((places a.length).take i ++ List.replicate k 0) (m - ((baseL m a).take i).sum) (i:Int)=F70_l3 f m a a.sum (baseL m a) (places a.length) (leftS m a) f (places a.length) 0 20
  | _,_,0,_,hn=>by omega
  | 0,i,n + 1,hi,_=>by
    have hlt:decide ((i:Int)<(a.length:Int))=false:=by simpa using (show (a.length:Int)≤i by omega)
    simp only [F70_l2,hlt,cond_false,List.replicate_zero,List.append_nil]
    rw [List.take_of_length_le (by rw [baseL_len]; omega),List.take_of_length_le (by rw [places_len]; omega)]
    rfl
  | k + 1,i,n + 1,hi,hn=>by
    have hia:i<a.length:=by omega
    have hb:=base_bounds h hia
    have hp:=prod_bounds h hia
    have hlen:=h.len
    have hs:a.sum≠0:=by have:=h.s0; omega
    have hm1:=h.m1
    have hm0:=h.m0
    have l1:((baseL m a).take i).length=i:=by rw [List.length_take,baseL_len]; omega
    have l2:((places a.length).take i).length=i:=by rw [List.length_take,places_len]; omega
    have eb:w64 (Int.tdiv (w64 (m * a[i])) a.sum)=baseS m a i:=by
      have e3:w64 (m * a[i])=m * a[i]:=w64_id (by omega) (by omega)
      rw [e3,Int.tdiv_eq_ediv_of_nonneg hp.1]
      have e2:m * a[i] / a.sum=baseS m a i:=by unfold baseS; rw [getD_mem hia]
      rw [e2,w64_id (by omega) (by omega)]
    have hsum:=sum_take_bound h.m0 (l:=(baseL m a).take i) fun x hx=>base_mem h x (List.mem_of_mem_take hx)
    rw [l1] at hsum
    have hmi:m * (i:Int)≤100000000 * 20:=Int.mul_le_mul hm1 (by omega) (by omega) (by omega)
    have s1:setI ((baseL m a).take i ++ 0::List.replicate k 0) (i:Int) (baseS m a i)=some ((baseL m a).take i ++ baseS m a i::List.replicate k 0):=setI_mid (by rw [l1])
    have s2:setI ((places a.length).take i ++ 0::List.replicate k 0) (i:Int) (i:Int)=some ((places a.length).take i ++ (i:Int)::List.replicate k 0):=setI_mid (by rw [l2])
    have g1:getI ((baseL m a).take i ++ 0::List.replicate k 0) (i:Int)=some 0:=getI_mid (by rw [l1])
    have g2:getI ((places a.length).take i ++ 0::List.replicate k 0) (i:Int)=some 0:=getI_mid (by rw [l2])
    have g3:getI ((baseL m a).take i ++ baseS m a i::List.replicate k 0) (i:Int)=some (baseS m a i):=getI_mid (by rw [l1])
    have t1:(baseL m a).take (i + 1)=(baseL m a).take i ++ [baseS m a i]:=by
      rw [List.take_succ_eq_append_getElem (by rw [baseL_len]; exact hia),baseL_at hia]
    have t2:(places a.length).take (i + 1)=(places a.length).take i ++ [(i:Int)]:=by
      rw [List.take_succ_eq_append_getElem (by rw [places_len]; exact hia),places_at hia]
    simp only [F70_l2,lt_len,hia,decide_true,cond_true,getI_nat hia,Option.bind_some,nzS hs,List.replicate_succ,g1,eb,s1,g2,s2,g3]
    have ih:=F70_l2_eq (f:=f) h k (i + 1) n (by omega) (by omega)
    rw [t1,t2,sum_app] at ih
    simp only [List.append_assoc,List.singleton_append,List.sum_cons,List.sum_nil,Int.add_zero] at ih
    rw [succ_w (by omega),w64_id (by omega) (by omega)]
    have e:m - ((baseL m a).take i).sum - baseS m a i=m - (((baseL m a).take i).sum + baseS m a i):=by omega
    rw [e]
    exact ih
def outS (m:Int) (a D:List Int):List Int:=(List.range a.length).map fun i:Nat=>baseS m a i + (if (i:Int)∈D then 1 else 0)
theorem outS_len (m:Int) (a D:List Int):(outS m a D).length=a.length:=by simp [outS]
theorem outS_at {m:Int} {a D:List Int} {i:Nat} (h:i<a.length):(outS m a D)[i]'(by rw [outS_len]; exact h)=baseS m a i + (if (i:Int)∈D then 1 else 0):=by simp [outS]
theorem outS_nil (m:Int) (a:List Int):outS m a []=baseL m a:=by
  refine List.ext_getElem (by rw [outS_len,baseL_len]) fun i h1 h2=>?_
  rw [outS_len] at h1
  rw [outS_at h1,baseL_at h1]
  simp
theorem outS_set {m:Int} {a D:List Int} {p:Int} (hp:p∈places a.length) (hD:p∉D):getI (outS m a D) p=some (baseS m a p.toNat)∧setI (outS m a D) p (baseS m a p.toNat + 1)=some (outS m a (D ++ [p])):=by
  have hb:=mem_places.1 hp
  have hi:p.toNat<a.length:=by omega
  have hpn:((p.toNat:Nat):Int)=p:=Int.toNat_of_nonneg hb.1
  constructor
  · have:=getI_nat (xs:=outS m a D) (i:=p.toNat) (by rw [outS_len]; exact hi)
    rw [hpn] at this
    rw [this,outS_at hi,hpn,if_neg hD,Int.add_zero]
  · unfold setI
    rw [if_pos ⟨hb.1,by rw [outS_len]; exact hb.2⟩]
    congr 1
    refine List.ext_getElem (by simp [outS]) fun i h1 h2=>?_
    rw [outS_len] at h2
    rw [outS_at h2]
    by_cases e:p.toNat=i
    · subst e
      rw [List.getElem_set_self,hpn]
      simp
    · rw [List.getElem_set_ne e,outS_at h2]
      have:(i:Int)≠p:=fun k=>e (by omega)
      simp [this]
theorem F70_l10_eq {m:Int} {a d5:List Int} (h:DealOk m a) (hd:∀x∈d5,x∈places a.length) (hn:d5.Nodup) (hl:d5.length≤20):∀n j,j≤d5.length→d5.length - j<n→F70_l10 d5 n (outS m a (d5.take j)) (j:Int)=some (outS m a d5)
  | 0,j,_,hn=>by omega
  | n + 1,j,hj,hn'=>by
    rcases Nat.lt_or_ge j d5.length with hlt | hge
    · have hp:=hd _ (List.getElem_mem hlt)
      have hnot:d5[j]∉d5.take j:=fun hm=>by
        obtain ⟨i,hi,e⟩:=List.getElem_of_mem hm
        rw [List.getElem_take] at e
        rw [List.length_take] at hi
        have:=(List.getElem_inj hn).1 e
        omega
      obtain ⟨g,st⟩:=outS_set (m:=m) (D:=d5.take j) hp hnot
      have hb:=mem_places.1 hp
      have hbb:=base_bounds h (i:=d5[j].toNat) (by omega)
      have hm1:=h.m1
      simp only [F70_l10,lt_len,hlt,decide_true,cond_true,getI_nat hlt,Option.bind_some,g]
      rw [w64_id (n:=baseS m a d5[j].toNat + 1) (by omega) (by omega),st]
      simp only [Option.bind_some]
      rw [succ_w (by omega), ← List.take_succ_eq_append_getElem hlt]
      exact F70_l10_eq h hd hn hl n (j + 1) (by omega) (by omega)
    · have:j=d5.length:=by omega
      subst this
      simp [F70_l10]
theorem orderS_len (m s:Int) (a:List Int):(orderS m s a).length=a.length:=by rw [(orderS_perm m s a).length_eq,places_len]
theorem outS_deal (m:Int) (a:List Int):outS m a ((orderS m a.sum a).take (leftS m a).toNat)=dealS m a:=by
  refine List.ext_getElem (by simp [outS,dealS]) fun i h1 h2=>?_
  rw [outS_len] at h1
  have e2:(dealS m a)[i]=baseS m a i + (if rank m a.sum a (i:Int)<(leftS m a).toNat then 1 else 0):=by simp [dealS]
  rw [outS_at h1,e2]
  congr 1
  have hp:(i:Int)∈places a.length:=mem_places.2 ⟨by omega,by omega⟩
  have:=first_iff m a.sum a hp (leftS m a).toNat
  by_cases hr:rank m a.sum a (i:Int)<(leftS m a).toNat
  · rw [if_pos (this.2 hr),if_pos hr]
  · rw [if_neg fun k=>hr (this.1 k),if_neg hr]
theorem F70_l1_eq {f:Nat} {m:Int} {a:List Int} (hnn:∀x∈a,0≤x) (hs:a.sum≤100000000) (hl:a.length<20):∀n i,i≤a.length→a.length - i<n→F70_l1 f m a n (a.take i).sum (i:Int)=F70_j1 f m a a.sum (List.replicate a.length 0)
  | 0,i,_,hn=>by omega
  | n + 1,i,hi,hn=>by
    rcases Nat.lt_or_ge i a.length with hlt | hge
    · have e:(a.take (i + 1)).sum=(a.take i).sum + a[i]:=by rw [List.take_succ_eq_append_getElem hlt,sum_app]; simp
      have b1:=sum_nonneg (a:=a.take (i + 1)) fun x hx=>hnn x (List.mem_of_mem_take hx)
      have b2:a.sum=(a.take (i + 1)).sum + (a.drop (i + 1)).sum:=by rw [← sum_app,List.take_append_drop]
      have b3:=sum_nonneg (a:=a.drop (i + 1)) fun x hx=>hnn x (List.mem_of_mem_drop hx)
      simp only [F70_l1,lt_len,hlt,decide_true,cond_true,getI_nat hlt,Option.bind_some]
      rw [succ_w (by omega), ← e,w64_id (by omega) (by omega)]
      exact F70_l1_eq hnn hs hl n (i + 1) (by omega) (by omega)
    · have:i=a.length:=by omega
      subst this
      have hmk:mkC (a.length:Int) (0:Int)=some (List.replicate a.length 0):=by unfold mkC; rw [if_pos (by omega)]; simp
      simp [F70_l1,hmk]
theorem F70_eq {f:Nat} {m:Int} {a:List Int} (h:DealOk m a) (hf:100<f):F70 f m a=some (dealS m a):=by
  have hlen:=h.len
  unfold F70
  have e1:=F70_l1_eq (f:=f) (m:=m) h.nn h.s1 h.len f 0 (by omega) (by omega)
  simp only [List.take_zero,List.sum_nil] at e1
  have e0:((0:Nat):Int)=0:=rfl
  rw [e0] at e1
  rw [e1]
  unfold F70_j1
  have hs:(a.sum == 0)=false:=by simpa using (show ¬ a.sum=0 by have:=h.s0; omega)
  rw [hs,cond_false]
  have e2:=F70_l2_eq (f:=f) h a.length 0 f (by omega) (by omega)
  simp only [List.take_zero,List.sum_nil,List.nil_append,Int.sub_zero] at e2
  rw [e0] at e2
  rw [e2,sorted_places h hf]
  obtain ⟨hb0,hb1,_⟩:=left_bounds h
  have hpl:(places a.length).length=a.length:=places_len _
  obtain ⟨n,rfl⟩:∃n,f=n + 1:=⟨f - 1,by omega⟩
  have h20:decide ((20:Int)<((places a.length).length:Int))=false:=by rw [hpl]; simpa using (show (a.length:Int)≤20 by omega)
  simp only [F70_l8,h20,cond_false]
  have hsub:subI (orderS m a.sum a) 0 (leftS m a)=some ((orderS m a.sum a).take (leftS m a).toNat):=by
    unfold subI
    rw [if_pos ⟨by omega,hb0,by rw [orderS_len]; exact hb1⟩]
    simp
  rw [hsub]
  simp only [Option.bind_some]
  have hperm:=orderS_perm m a.sum a
  have hnod:(orderS m a.sum a).Nodup:=hperm.nodup_iff.2 ((places_rising _).imp fun h=>by omega)
  have e3:=F70_l10_eq h (d5:=(orderS m a.sum a).take (leftS m a).toNat) (fun x hx=>hperm.mem_iff.1 (List.mem_of_mem_take hx)) (hnod.sublist (List.take_sublist _ _)) (by rw [List.length_take,orderS_len]; omega) (n + 1) 0 (by omega) (by rw [List.length_take,orderS_len]; omega)
  rw [List.take_zero,outS_nil] at e3
  rw [e0] at e3
  rw [e3,outS_deal]
end Go.Proofs.YtlmgjjmighajdaaGreat
set_option linter.unusedSimpArgs false
set_option linter.unusedVariables false
namespace Go.Proofs.YtlmgjjmighajdaaGreat
open Go.Sl Go.Sx
theorem rank_at (m s:Int) (a:List Int) {p:Nat} (hp:p<(orderS m s a).length):rank m s a (orderS m s a)[p]=p:=by
  have hm:(orderS m s a)[p]∈places a.length:=(orderS_perm m s a).mem_iff.1 (List.getElem_mem hp)
  have key:∀k,rank m s a (orderS m s a)[p]<k↔p<k:=fun k=>by
    rw [← first_iff m s a hm k]
    constructor
    · intro h
      obtain ⟨q,hq,e⟩:=List.getElem_of_mem h
      rw [List.length_take] at hq
      rw [List.getElem_take] at e
      rcases Nat.lt_trichotomy q p with h1 | h1 | h1
      · have:=pairs_at (orderS_sorted m s a) (by omega) hp h1
        rw [e] at this; exact absurd this (ahead_irr _ _ _ _)
      · omega
      · have:=pairs_at (orderS_sorted m s a) hp (by omega) h1
        rw [e] at this; exact absurd this (ahead_irr _ _ _ _)
    · intro h
      rw [List.mem_take_iff_getElem]
      exact ⟨p,by omega,rfl⟩
  have h1:=(key p).1
  have h2:=(key (p + 1)).2 (by omega)
  rcases Nat.lt_or_ge (rank m s a (orderS m s a)[p]) p with h | h
  · exact absurd (h1 h) (by omega)
  · omega
theorem rank_pos (m s:Int) (a:List Int) {i:Nat} (hi:i<a.length):∃h:rank m s a (i:Int)<(orderS m s a).length,(orderS m s a)[rank m s a (i:Int)]=(i:Int):=by
  have hm:(i:Int)∈orderS m s a:=(orderS_perm m s a).mem_iff.2 (mem_places.2 (by omega))
  obtain ⟨p,hp,e⟩:=List.getElem_of_mem hm
  have:=rank_at m s a hp
  rw [e] at this
  subst this
  exact ⟨hp,e⟩
theorem rank_lt {m s:Int} {a:List Int} {i j:Nat} (hi:i<a.length) (hj:j<a.length) (h:ahead m s a (i:Int) (j:Int)):rank m s a (i:Int)<rank m s a (j:Int):=by
  obtain ⟨h1,e1⟩:=rank_pos m s a hi
  obtain ⟨h2,e2⟩:=rank_pos m s a hj
  rcases Nat.lt_trichotomy (rank m s a (i:Int)) (rank m s a (j:Int)) with k | k | k
  · exact k
  · have:(i:Int)=j:=by
      rw [← e1, ← e2]
      simp only [k]
    rw [this] at h
    exact absurd h (ahead_irr _ _ _ _)
  · have:=pairs_at (orderS_sorted m s a) h2 h1 k
    rw [e1,e2] at this
    exact absurd h (ahead_asy _ _ _ _ _ this)
theorem ahead_tot {m s:Int} {a:List Int} {i j:Int} (h:i≠j):ahead m s a i j∨ahead m s a j i:=by unfold ahead; omega
theorem rank_inj {m s:Int} {a:List Int} {i j:Nat} (hi:i<a.length) (hj:j<a.length) (h:rank m s a (i:Int)=rank m s a (j:Int)):i=j:=by
  by_cases e:(i:Int)=j
  · omega
  · rcases ahead_tot (m:=m) (s:=s) (a:=a) e with k | k
    · have:=rank_lt hi hj k; omega
    · have:=rank_lt hj hi k; omega
def givenS (m s:Int) (a:List Int) (t:Nat):List Bool:=(List.range a.length).map fun i:Nat=>decide (rank m s a (i:Int)<t)
def outT (m:Int) (a:List Int) (t:Nat):List Int:=(List.range a.length).map fun i=>baseS m a i + (if rank m a.sum a (i:Int)<t then 1 else 0)
theorem given_at {m s:Int} {a:List Int} {t i:Nat} (hi:i<a.length):getI (givenS m s a t) (i:Int)=some (decide (rank m s a (i:Int)<t)):=by
  rw [getI_nat (by simp [givenS,hi])]; simp [givenS]
theorem out_at {m:Int} {a:List Int} {t i:Nat} (hi:i<a.length):getI (outT m a t) (i:Int)=some (baseS m a i + (if rank m a.sum a (i:Int)<t then 1 else 0)):=by
  rw [getI_nat (by simp [outT,hi])]; simp [outT]
theorem given_next {m s:Int} {a:List Int} {t b:Nat} (hb:b<a.length) (hr:rank m s a (b:Int)=t):setI (givenS m s a t) (b:Int) true=some (givenS m s a (t + 1)):=by
  unfold setI
  rw [if_pos (by simp [givenS]; omega)]
  congr 1
  refine List.ext_getElem (by simp [givenS]) fun i h1 h2=>?_
  have hi:i<a.length:=by simpa [givenS] using h2
  rw [List.getElem_set]
  simp only [givenS,List.getElem_map,List.getElem_range,Int.toNat_natCast]
  by_cases e:b=i
  · subst e; simp [hr]
  · rw [if_neg e]
    have:rank m s a (i:Int)≠t:=fun k=>e (rank_inj hb hi (hr.trans k.symm))
    by_cases k:rank m s a (i:Int)<t
    · have:rank m s a (i:Int)<t + 1:=by omega
      simp [k,this]
    · have:¬ rank m s a (i:Int)<t + 1:=by omega
      simp [k,this]
theorem out_next {m:Int} {a:List Int} {t b:Nat} (hb:b<a.length) (hr:rank m a.sum a (b:Int)=t):setI (outT m a t) (b:Int) (baseS m a b + 1)=some (outT m a (t + 1)):=by
  unfold setI
  rw [if_pos (by simp [outT]; omega)]
  congr 1
  refine List.ext_getElem (by simp [outT]) fun i h1 h2=>?_
  have hi:i<a.length:=by simpa [outT] using h2
  rw [List.getElem_set]
  simp only [outT,List.getElem_map,List.getElem_range,Int.toNat_natCast]
  by_cases e:b=i
  · subst e; simp [hr]
  · rw [if_neg e]
    have:rank m a.sum a (i:Int)≠t:=fun k=>e (rank_inj hb hi (hr.trans k.symm))
    by_cases k:rank m a.sum a (i:Int)<t
    · have:rank m a.sum a (i:Int)<t + 1:=by omega
      simp [k,this]
    · have:¬ rank m a.sum a (i:Int)<t + 1:=by omega
      simp [k,this]
def best (m:Int) (a:List Int) (t j:Nat) (y:Int):Prop:=(y= -1∧∀i,i<j→rank m a.sum a (i:Int)<t) ∨
  (∃b:Nat,y=(b:Int)∧b<j∧t≤rank m a.sum a (b:Int)∧∀i:Nat,i<j→t≤rank m a.sum a (i:Int)→i≠b→ahead m a.sum a (b:Int) (i:Int))
theorem F84_l4_eq {m:Int} {a:List Int} (h:DealOk m a) {t:Nat} (ht:t<a.length) (k2:List Bool→List Int→Int→Option (List Int)) (y8:Int):∀n j y,j≤a.length→a.length - j<n→best m a t j y →
    F84_l4 k2 m a a.sum (givenS m a.sum a t) (outT m a t) y8 n y (j:Int)=k2 (givenS m a.sum a (t + 1)) (outT m a (t + 1)) (w64 (y8 - 1))
  | 0,j,y,_,hn,_=>by omega
  | n + 1,j,y,hj,hn,hb=>by
    have hlen:=h.len
    have hs0:=h.s0
    rcases Nat.lt_or_ge j a.length with hlt | hge
    · simp only [F84_l4,lt_len,hlt,decide_true,cond_true,given_at hlt,Option.bind_some]
      by_cases hg:rank m a.sum a (j:Int)<t
      · simp only [hg,decide_true,Bool.not_true,cond_false,F84_j2,F84_j1]
        rw [succ_w (by omega)]
        refine F84_l4_eq h ht k2 y8 n (j + 1) y hlt (by omega) ?_
        rcases hb with ⟨e,k⟩ | ⟨b,e,hbj,hbt,k⟩
        · exact .inl ⟨e,fun i hi=>by
            rcases Nat.lt_or_ge i j with h1 | h1
            · exact k i h1
            · have:i=j:=by omega
              subst this; exact hg⟩
        · exact .inr ⟨b,e,by omega,hbt,fun i hi hit hib=>by
            rcases Nat.lt_or_ge i j with h1 | h1
            · exact k i h1 hit hib
            · have:i=j:=by omega
              subst this; omega⟩
      · simp only [hg,decide_false,Bool.not_false,cond_true]
        rcases hb with ⟨e,k⟩ | ⟨b,e,hbj,hbt,k⟩
        · subst e
          simp only [show decide ((-1:Int)<0)=true from rfl,cond_true,F84_j2,F84_j1]
          rw [succ_w (by omega)]
          refine F84_l4_eq h ht k2 y8 n (j + 1) _ hlt (by omega) (.inr ⟨j,rfl,by omega,by omega,fun i hi hit hij=>?_⟩)
          have:=k i (by omega)
          omega
        · subst e
          have h0:decide ((b:Int)<0)=false:=by simp
          have hbl:b<a.length:=by omega
          simp only [h0,cond_false,getI_nat hlt,getI_nat hbl,Option.bind_some,nzS (show a.sum≠0 by omega),tmod_eq h hlt,tmod_eq h hbl]
          by_cases hc:rem_ m a.sum a (j:Int) > rem_ m a.sum a (b:Int)
          · simp only [hc,decide_true,F84_j2,cond_true,F84_j1]
            rw [succ_w (by omega)]
            refine F84_l4_eq h ht k2 y8 n (j + 1) _ hlt (by omega) (.inr ⟨j,rfl,by omega,by omega,fun i hi hit hij=>?_⟩)
            have hjb:ahead m a.sum a (j:Int) (b:Int):= .inl hc
            by_cases e:i=b
            · subst e; exact hjb
            · exact ahead_tr _ _ _ _ _ _ hjb (k i (by omega) hit e)
          · simp only [hc,decide_false,F84_j2,cond_false,F84_j1]
            rw [succ_w (by omega)]
            refine F84_l4_eq h ht k2 y8 n (j + 1) _ hlt (by omega) (.inr ⟨b,rfl,by omega,hbt,fun i hi hit hib=>?_⟩)
            rcases Nat.lt_or_ge i j with h1 | h1
            · exact k i h1 hit hib
            · have:i=j:=by omega
              subst this
              unfold ahead
              omega
    · have hj':j=a.length:=by omega
      subst hj'
      have hto:t<(orderS m a.sum a).length:=by rw [orderS_len]; exact ht
      have hom:=(orderS_perm m a.sum a).mem_iff.1 (List.getElem_mem hto)
      obtain ⟨o0,o1⟩:=mem_places.1 hom
      have hro:=rank_at m a.sum a hto
      generalize hoe:(orderS m a.sum a)[t]=o at *
      obtain ⟨o',rfl⟩:∃k:Nat,o=(k:Int):=⟨o.toNat,by omega⟩
      have ho:o'<a.length:=by omega
      rcases hb with ⟨e,k⟩ | ⟨b,e,hbj,hbt,k⟩
      · have:=k o' ho; omega
      · subst e
        have hbr:rank m a.sum a (b:Int)=t:=by
          by_cases e:o'=b
          · subst e; exact hro
          · have:=rank_lt hbj ho (k o' ho (by omega) e)
            omega
        have hbase:=base_bounds h hbj
        have hm1:=h.m1
        simp only [F84_l4,lt_len,Nat.lt_irrefl,decide_false,cond_false,given_at hbj,Option.bind_some,given_next hbj hbr,out_at hbj,hbr,if_false,Int.add_zero]
        rw [w64_id (n:=baseS m a b + 1) (by omega) (by omega),out_next hbj hbr]
        rfl
theorem F84_l3_eq {f:Nat} {m:Int} {a:List Int} (h:DealOk m a) (hf:200≤f):∀n t,t≤(leftS m a).toNat→(leftS m a).toNat - t<n→(leftS m a).toNat<a.length∨leftS m a=0 →
    F84_l3 f m a a.sum n (givenS m a.sum a t) (outT m a t) (leftS m a - t)=some (dealS m a)
  | 0,t,_,hn,_=>by omega
  | n + 1,t,ht,hn,hl=>by
    have hlb:=left_bounds h
    have hlen:=h.len
    by_cases hz:t=(leftS m a).toNat
    · have:decide (leftS m a - (t:Int) > 0)=false:=decide_eq_false (by omega)
      rw [F84_l3,this,cond_false,hz]
      rfl
    · have:decide (leftS m a - (t:Int) > 0)=true:=decide_eq_true (by omega)
      rw [F84_l3,this]
      simp only [cond_true]
      have hta:t<a.length:=by omega
      have e4:=F84_l4_eq h hta (F84_l3 f m a a.sum n) (leftS m a - (t:Int)) f 0 (-1) (by omega) (by omega) (.inl ⟨rfl,fun i hi=>by omega⟩)
      have e0:((0:Nat):Int)=0:=rfl
      rw [e0] at e4
      rw [e4]
      rw [w64_id (by omega) (by omega)]
      have e:leftS m a - (t:Int) - 1=leftS m a - ((t + 1:Nat):Int):=by omega
      rw [e]
      exact F84_l3_eq h hf n (t + 1) (by omega) (by omega) hl
theorem left_lt {m:Int} {a:List Int} (h:DealOk m a):leftS m a<a.length:=by
  have h1:=left_bounds h
  have h2:=rem_sum (m:=m) h.s0 a
  have hs:=h.s0
  have hn:0<a.length:=by
    rcases Nat.eq_zero_or_pos a.length with e | e
    · have:=List.eq_nil_of_length_eq_zero e
      subst this; simp at hs
    · exact e
  by_cases k:leftS m a<a.length
  · exact k
  · have k:(a.length:Int)≤leftS m a:=by omega
    have h3:a.sum * (a.length:Int)≤a.sum * leftS m a:=Int.mul_le_mul_of_nonneg_left k (by omega)
    have h4:(a.sum - 1) * (a.length:Int)=a.sum * a.length - a.length:=by rw [Int.sub_mul]; omega
    omega
theorem take_sum_le {a:List Int} (h:∀x∈a,0≤x) (i:Nat):0≤(a.take i).sum∧(a.take i).sum≤a.sum:=by
  have e:a=a.take i ++ a.drop i:=(List.take_append_drop i a).symm
  have h1:=sum_nonneg (a:=a.take i) fun x hx=>h x (List.mem_of_mem_take hx)
  have h2:=sum_nonneg (a:=a.drop i) fun x hx=>h x (List.mem_of_mem_drop hx)
  have h3:a.sum=(a.take i).sum + (a.drop i).sum:=by
    have:=congrArg List.sum e
    rw [sum_app] at this
    exact this
  omega
theorem take_sum {a:List Int} {i:Nat} (hi:i<a.length):(a.take (i + 1)).sum=(a.take i).sum + a[i]:=by
  rw [List.take_succ_eq_append_getElem hi,sum_app]; simp
theorem from_st {ρ:Type} {T:Nat→Nat→Option ρ} {len n:Nat} {out:Option ρ} (hn:len<n) (h:∀n i,i<len→T (n + 1) i=T n (i + 1)) (he:∀n,T (n + 1) len=out):T n 0=out:=by
  have key:∀n i,i≤len→len - i<n→T n i=out:=by
    intro n
    induction n with
    | zero=>intro i _ hn; omega
    | succ n ih =>
      intro i hi hn
      rcases Nat.lt_or_ge i len with hlt | hge
      · rw [h n i hlt]; exact ih (i + 1) hlt (by omega)
      · have:i=len:=by omega
        subst this; exact he n
  exact key n 0 (by omega) (by omega)
theorem F84_eq {f:Nat} {m:Int} {a:List Int} (h:DealOk m a) (hf:200≤f):F84 f m a=some (dealS m a):=by
  have hlen:=h.len
  have hs0:=h.s0
  have hs1:=h.s1
  have hm0:=h.m0
  have hm1:=h.m1
  have hll:=left_lt h
  have hlb:=left_bounds h
  have hb:∀i,0≤((baseL m a).take i).sum∧((baseL m a).take i).sum≤(baseL m a).sum:=fun i=>take_sum_le (a:=baseL m a) (fun x hx=>by
    obtain ⟨k,hk,rfl⟩:=List.getElem_of_mem hx
    rw [baseL_len] at hk
    rw [baseL_at hk]
    exact (base_bounds h hk).1) i
  have hbs:(baseL m a).sum=m - leftS m a:=by unfold leftS; omega
  unfold F84
  have key1:=from_st (T:=fun n i=>F84_l1 f m a n (a.take i).sum (i:Int)) (len:=a.length) (n:=f) (out:=F84_l2 f m a a.sum f [] m 0) (by omega)
    (fun n i hi=>by
      have hx:=h.nn _ (List.getElem_mem hi)
      have h1:=take_sum_le h.nn (i + 1)
      rw [take_sum hi] at h1
      have h2:=take_sum_le h.nn i
      simp only [F84_l1,lt_len,hi,decide_true,cond_true,getI_nat hi,Option.bind_some]
      rw [succ_w (by omega),w64_id (by omega) (by omega),take_sum hi])
    (fun n=>by simp [F84_l1])
  have e1:F84_l1 f m a f 0 0=F84_l2 f m a a.sum f [] m 0:=by simpa using key1
  rw [e1]
  have key2:=from_st (T:=fun n i=>F84_l2 f m a a.sum n ((baseL m a).take i) (m - ((baseL m a).take i).sum) (i:Int)) (len:=a.length) (n:=f) (out:=F84_l3 f m a a.sum f (List.replicate a.length false) (baseL m a) (leftS m a)) (by omega)
    (fun n i hi=>by
      have hp:=prod_bounds h hi
      have hbb:=base_bounds h hi
      have hi':i<(baseL m a).length:=by rw [baseL_len]; exact hi
      have e2:Int.tdiv (w64 (m * a[i])) a.sum=baseS m a i:=by
        rw [w64_id (by omega) (by omega),Int.tdiv_eq_ediv_of_nonneg hp.1]
        unfold baseS
        rw [getD_mem hi]
      have h1:=hb (i + 1)
      have h0:=hb i
      rw [take_sum hi',baseL_at hi] at h1
      simp only [F84_l2,lt_len,hi,decide_true,cond_true,getI_nat hi,Option.bind_some,nzS (show a.sum≠0 by omega),e2]
      rw [w64_id (n:=baseS m a i) (by omega) (by omega)]
      have e3:appC ((baseL m a).take i) [baseS m a i]=some ((baseL m a).take (i + 1)):=by
        unfold appC
        rw [if_pos (by simp; omega),List.take_succ_eq_append_getElem hi',baseL_at hi]
      rw [e3]
      simp only [Option.bind_some]
      rw [succ_w (by omega),w64_id (by omega) (by omega),take_sum hi',baseL_at hi]
      congr 1
      omega)
    (fun n=>by
      have e4:mkC ((a.length:Nat):Int) false=some (List.replicate a.length false):=by
        unfold mkC
        rw [if_pos (by omega)]; simp
      have e5:(baseL m a).take a.length=baseL m a:=List.take_of_length_le (by rw [baseL_len]; omega)
      simp only [F84_l2,lt_len,Nat.lt_irrefl,decide_false,cond_false,e4,Option.bind_some,e5]
      rw [hbs]
      congr 1
      omega)
  have e2:F84_l2 f m a a.sum f [] m 0=F84_l3 f m a a.sum f (List.replicate a.length false) (baseL m a) (leftS m a):=by simpa using key2
  rw [e2]
  have e3:=F84_l3_eq h hf f 0 (by omega) (by omega) (.inl (by omega))
  have e4:givenS m a.sum a 0=List.replicate a.length false:=by
    refine List.ext_getElem (by simp [givenS]) fun i h1 h2=>?_
    simp [givenS]
  have e5:outT m a 0=baseL m a:=by
    refine List.ext_getElem (by simp [outT,baseL]) fun i h1 h2=>?_
    have hi:i<a.length:=by simpa [outT] using h1
    rw [baseL_at hi]
    simp [outT]
  rw [e4,e5] at e3
  simpa using e3
end Go.Proofs.YtlmgjjmighajdaaGreat
set_option linter.unusedSimpArgs false
set_option linter.unusedVariables false
namespace Go.Proofs.YtlmgjjmighajdaaGreat
open Go.Sl Go.Sx
def mergeP:List Part→List Part→List Part
  | [],b=>b
  | p::a,[]=>p::a
  | p::a,q::b=>if p.lot<q.lot then p::mergeP a (q::b) else if q.lot<p.lot then q::mergeP (p::a) b else ⟨p.lot,p.mass + q.mass⟩::mergeP a b
termination_by a b=>a.length + b.length
theorem merge_nil (a:List Part):mergeP a []=a:=by cases a <;> simp [mergeP]
theorem nil_merge (a:List Part):mergeP [] a=a:=by simp [mergeP]
theorem merge_lt {p q:Part} {a b:List Part} (h:p.lot<q.lot):mergeP (p::a) (q::b)=p::mergeP a (q::b):=by simp [mergeP,h]
theorem merge_gt {p q:Part} {a b:List Part} (h:q.lot<p.lot):mergeP (p::a) (q::b)=q::mergeP (p::a) b:=by
  have h1:¬ p.lot<q.lot:=by omega
  simp [mergeP,h,h1]
theorem merge_eq {p q:Part} {a b:List Part} (h:p.lot=q.lot):mergeP (p::a) (q::b)=⟨p.lot,p.mass + q.mass⟩::mergeP a b:=by
  have h1:¬ p.lot<q.lot:=by omega
  have h2:¬ q.lot<p.lot:=by omega
  simp [mergeP,h1,h2]
theorem drop_cons {α:Type} {l:List α} {i:Nat} (h:i<l.length):l.drop i=l[i]::l.drop (i + 1):=List.drop_eq_getElem_cons h
theorem F117_loop {a b:List Part} (ha:HeapOk a) (hb:HeapOk b):∀n (out:List Part) i k,i≤a.length→k≤b.length→(a.length - i) + (b.length - k)<n→out.length + (a.length - i) + (b.length - k)≤100 →
    F117_l1 a b n out (i:Int) (k:Int)=some (out ++ mergeP (a.drop i) (b.drop k))
  | 0,out,i,k,_,_,hn,_=>by omega
  | n + 1,out,i,k,hi,hk,hn,ho=>by
    have la:=ha.1
    have lb:=hb.1
    have app:∀x:Part,appC out [x]=some (out ++ [x]):=fun x=>by unfold appC; rw [if_pos (by simp only [List.length_cons,List.length_nil]; omega)]
    have eqk:∀ {x y:Nat},((x:Int) == (y:Int))=decide (x=y):=fun {x y}=>by
      by_cases h:x=y
      · simp [h]
      · have:¬ (x:Int)=y:=by omega
        simp [h,this]
    simp only [F117_l1,F117_j1,F117_j2,F117_j3,lt_len,eqk]
    rcases Nat.lt_or_ge i a.length with hia | hia
    · have h1:a.drop i=a[i]::a.drop (i + 1):=drop_cons hia
      have pa:=ha.2.1 _ (List.getElem_mem hia)
      rcases Nat.lt_or_ge k b.length with hkb | hkb
      · have h2:b.drop k=b[k]::b.drop (k + 1):=drop_cons hkb
        have pb:=hb.2.1 _ (List.getElem_mem hkb)
        have n1:¬ k=b.length:=by omega
        have n2:¬ i=a.length:=by omega
        simp only [hia,hkb,n1,n2,decide_true,decide_false,cond_true,cond_false,getI_nat hia,getI_nat hkb,Option.bind_some,app,succ_w (i:=i) (by omega),succ_w (i:=k) (by omega)]
        rcases Int.lt_trichotomy a[i].lot b[k].lot with e | e | e
        · have e':¬ b[k].lot<a[i].lot:=by omega
          simp only [e,e',decide_true,decide_false,cond_true,cond_false]
          rw [F117_loop ha hb n (out ++ [a[i]]) (i + 1) k (by omega) hk (by omega) (by simp only [List.length_append,List.length_cons,List.length_nil]; omega),h1,h2,merge_lt e, ← h2,List.append_assoc]
          rfl
        · have e1:¬ a[i].lot<b[k].lot:=by omega
          have e2:¬ b[k].lot<a[i].lot:=by omega
          have:=pa.m0; have:=pa.m1; have:=pb.m0; have:=pb.m1
          simp only [e1,e2,decide_true,decide_false,cond_true,cond_false,w64_id (n:=a[i].mass + b[k].mass) (by omega) (by omega)]
          rw [F117_loop ha hb n (out ++ [(⟨a[i].lot,a[i].mass + b[k].mass⟩:Part)]) (i + 1) (k + 1) (by omega) (by omega) (by omega) (by simp only [List.length_append,List.length_cons,List.length_nil]; omega),h1,h2,merge_eq e,List.append_assoc]
          rfl
        · have e1:¬ a[i].lot<b[k].lot:=by omega
          simp only [e,e1,decide_true,decide_false,cond_true,cond_false]
          rw [F117_loop ha hb n (out ++ [b[k]]) i (k + 1) hi (by omega) (by omega) (by simp only [List.length_append,List.length_cons,List.length_nil]; omega),h1,h2,merge_gt e, ← h1,List.append_assoc]
          rfl
      · have n1:k=b.length:=by omega
        simp only [hia,n1,decide_true,cond_true,getI_nat hia,Option.bind_some,app,succ_w (i:=i) (by omega)]
        have:=F117_loop ha hb n (out ++ [a[i]]) (i + 1) k (by omega) hk (by omega) (by simp only [List.length_append,List.length_cons,List.length_nil]; omega)
        rw [n1] at this
        rw [this,h1,List.drop_length,merge_nil,merge_nil,List.append_assoc]
        rfl
    · have n2:i=a.length:=by omega
      have n2':¬ i<a.length:=by omega
      rcases Nat.lt_or_ge k b.length with hkb | hkb
      · have h2:b.drop k=b[k]::b.drop (k + 1):=drop_cons hkb
        have n1:¬ k=b.length:=by omega
        simp only [n2',hkb,n1,decide_true,decide_false,cond_true,cond_false,n2,getI_nat hkb,Option.bind_some,app,succ_w (i:=k) (by omega),Nat.lt_irrefl]
        have:=F117_loop ha hb n (out ++ [b[k]]) i (k + 1) hi (by omega) (by omega) (by simp only [List.length_append,List.length_cons,List.length_nil]; omega)
        rw [n2] at this
        rw [this,h2,List.drop_length,nil_merge,nil_merge,List.append_assoc]
        rfl
      · have n1:k=b.length:=by omega
        simp [n1,n2,nil_merge]
theorem F117_eq {f:Nat} {a b:List Part} (ha:HeapOk a) (hb:HeapOk b) (hf:90<f):F117 f a b=some (mergeP a b):=by
  have:=F117_loop ha hb f [] 0 0 (by omega) (by omega) (by have:=ha.1; have:=hb.1; omega) (by have:=ha.1; have:=hb.1; simp; omega)
  simpa [F117] using this
end Go.Proofs.YtlmgjjmighajdaaGreat
set_option linter.unusedSimpArgs false
set_option linter.unusedVariables false
namespace Go.Proofs.YtlmgjjmighajdaaGreat
open Go.Sl Go.Sx
def takenL:List Part→List Int→List Part
  | p::h,n::d=>(if n > 0 then [⟨p.lot,n⟩] else []) ++ takenL h d
  | _,_=>[]
def leftL:List Part→List Int→List Part
  | p::h,n::d=>(if n<p.mass then [⟨p.lot,p.mass - n⟩] else []) ++ leftL h d
  | _,_=>[]
def massesL (h:List Part):List Int:=h.map (·.mass)
def dealH (m:Int) (h:List Part):List Int:=if h=[] then [] else dealS m (massesL h)
theorem dealS_len (m:Int) (a:List Int):(dealS m a).length=a.length:=by simp [dealS]
theorem dealH_len (m:Int) (h:List Part):(dealH m h).length=h.length:=by
  unfold dealH
  split
  · rename_i e; rw [e]; rfl
  · rw [dealS_len]; simp [massesL]
theorem sum_masses (h:List Part):(massesL h).sum=sumM h:=rfl
theorem heap_pos {h:List Part} (hk:HeapOk h) (hne:h≠[]):0<sumM h:=by
  cases h with
  | nil=>exact absurd rfl hne
  | cons p h =>
    have hp:=(hk.2.1 p (by simp)).m0
    have:=(sumM_bound (l:=h) fun q hq=>hk.2.1 q (List.mem_cons_of_mem _ hq)).1
    simp only [sumM,List.map_cons,List.sum_cons] at this ⊢
    omega
theorem dealOk_heap {h:List Part} {m:Int} (hk:HeapOk h) (hne:h≠[]) (hm0:0≤m) (hm:m≤sumM h) (hl:h.length<20):DealOk m (massesL h) where
  nn x hx:=by obtain ⟨p,hp,rfl⟩:=List.mem_map.1 hx; have:=(hk.2.1 p hp).m0; omega
  s0:=by rw [sum_masses]; exact heap_pos hk hne
  s1:=by rw [sum_masses]; exact hk.2.2.2
  m0:=hm0
  m1:=by have:=hk.2.2.2; omega
  len:=by simpa [massesL] using hl
theorem F70_nil (f:Nat) (hf:0<f) (m:Int):F70 f m []=some []:=by
  obtain ⟨n,rfl⟩:∃n,f=n + 1:=⟨f - 1,by omega⟩
  simp [F70,F70_l1,F70_j1,mkC]
theorem F70_heap {f:Nat} {h:List Part} {m:Int} (hk:HeapOk h) (hm0:0≤m) (hm:m≤sumM h) (hl:h.length<20) (hf:100<f):F70 f m (massesL h)=some (dealH m h):=by
  unfold dealH
  split
  · rename_i e; subst e; exact F70_nil f (by omega) m
  · rename_i e; exact F70_eq (dealOk_heap hk e hm0 hm hl) hf
theorem deal_bounds {a:List Int} {m:Int} (h:DealOk m a) {i:Nat} (hi:i<a.length):0≤(dealS m a)[i]'(by rw [dealS_len]; exact hi)∧(dealS m a)[i]'(by rw [dealS_len]; exact hi)≤100000001:=by
  have hb:=base_bounds h hi
  have hm:=h.m1
  have e:(dealS m a)[i]'(by rw [dealS_len]; exact hi)=baseS m a i + (if rank m a.sum a (i:Int)<(leftS m a).toNat then 1 else 0):=by simp [dealS]
  rw [e]
  split <;> omega
theorem dealH_bounds {h:List Part} {m:Int} (hk:HeapOk h) (hm0:0≤m) (hm:m≤sumM h) (hl:h.length<20):∀x∈dealH m h,0≤x∧x≤100000001:=fun x hx=>by
  unfold dealH at hx
  split at hx
  · cases hx
  · rename_i e
    obtain ⟨i,hi,rfl⟩:=List.getElem_of_mem hx
    rw [dealS_len] at hi
    exact deal_bounds (dealOk_heap hk e hm0 hm hl) hi
theorem F39_l2_eq {h:List Part} {d:List Int} (hd:d.length=h.length) (hl:h.length<20) (hk:∀p∈h,PartOk p) (hb:∀x∈d,0≤x∧x≤100000001):∀n i (tk lf:List Part),i≤h.length→h.length - i<n→tk.length + (h.length - i)≤40→lf.length + (h.length - i)≤40 →
    F39_l2 h d n tk lf (i:Int)=some (tk ++ takenL (h.drop i) (d.drop i),lf ++ leftL (h.drop i) (d.drop i))
  | 0,i,_,_,_,hn,_,_=>by omega
  | n + 1,i,tk,lf,hi,hn,h1,h2=>by
    rcases Nat.lt_or_ge i h.length with hlt | hge
    · have hid:i<d.length:=by omega
      have app:∀(l:List Part) (x:Part),l.length≤60→appC l [x]=some (l ++ [x]):=fun l x hl=>by unfold appC; rw [if_pos (by simp only [List.length_cons,List.length_nil]; omega)]
      have hp:=hk _ (List.getElem_mem hlt)
      have hx:=hb _ (List.getElem_mem hid)
      have e1:h.drop i=h[i]::h.drop (i + 1):=drop_cons hlt
      have e2:d.drop i=d[i]::d.drop (i + 1):=drop_cons hid
      have:=hp.m0; have:=hp.m1
      have hw:w64 (h[i].mass - d[i])=h[i].mass - d[i]:=w64_id (by omega) (by omega)
      have lt2:decide ((i:Int)<(d.length:Int))=true:=by simpa using (show (i:Int)<d.length by omega)
      simp only [F39_l2,F39_j1,F39_j2,lt2,cond_true,getI_nat hlt,getI_nat hid,Option.bind_some,hw,succ_w (i:=i) (by omega)]
      rw [e1,e2]
      simp only [takenL,leftL]
      by_cases c1:d[i] > 0 <;> by_cases c2:d[i]<h[i].mass
      · simp only [c1,c2,decide_true,cond_true,app tk _ (by omega),app lf _ (by omega),Option.bind_some,if_true]
        rw [F39_l2_eq hd hl hk hb n (i + 1) _ _ (by omega) (by omega) (by simp only [List.length_append,List.length_cons,List.length_nil]; omega) (by simp only [List.length_append,List.length_cons,List.length_nil]; omega)]
        simp only [List.append_assoc]
      · simp only [c1,c2,decide_true,decide_false,cond_true,cond_false,app tk _ (by omega),Option.bind_some,if_true,if_false]
        rw [F39_l2_eq hd hl hk hb n (i + 1) _ _ (by omega) (by omega) (by simp only [List.length_append,List.length_cons,List.length_nil]; omega) (by omega)]
        simp only [List.append_assoc,List.nil_append]
      · simp only [c1,c2,decide_true,decide_false,cond_true,cond_false,app lf _ (by omega),Option.bind_some,if_true,if_false]
        rw [F39_l2_eq hd hl hk hb n (i + 1) _ _ (by omega) (by omega) (by omega) (by simp only [List.length_append,List.length_cons,List.length_nil]; omega)]
        simp only [List.append_assoc,List.nil_append]
      · simp only [c1,c2,decide_false,cond_false,if_false]
        rw [F39_l2_eq hd hl hk hb n (i + 1) _ _ (by omega) (by omega) (by omega) (by omega)]
        simp only [List.nil_append]
    · have:i=h.length:=by omega
      subst this
      have lt2:decide ((h.length:Int)<(d.length:Int))=false:=by simp [hd]
      simp only [F39_l2,lt2,cond_false,List.drop_length]
      simp [takenL,leftL]
theorem F39_l1_eq {f:Nat} {h:List Part} (m:Int) (hl:h.length≤40):∀n i,i≤h.length→h.length - i<n→F39_l1 f h m n (massesL (h.take i)) (i:Int)=((F70 f m (massesL h)).bind fun r=>F39_l2 h r f [] [] 0)
  | 0,i,_,hn=>by omega
  | n + 1,i,hi,hn=>by
    rcases Nat.lt_or_ge i h.length with hlt | hge
    · have app:appC (massesL (h.take i)) [h[i].mass]=some (massesL (h.take (i + 1))):=by
        unfold appC
        rw [if_pos (by simp [massesL]; omega),List.take_succ_eq_append_getElem hlt]
        unfold massesL
        rw [List.map_append]; rfl
      simp only [F39_l1,lt_len,hlt,decide_true,cond_true,getI_nat hlt,Option.bind_some,app,succ_w (i:=i) (by omega)]
      exact F39_l1_eq m hl n (i + 1) (by omega) (by omega)
    · have:i=h.length:=by omega
      subst this
      simp [F39_l1]
theorem F39_eq {f:Nat} {h:List Part} {m:Int} (hk:HeapOk h) (hm0:0≤m) (hm:m≤sumM h) (hl:h.length<20) (hf:100<f):F39 f h m=some (takenL h (dealH m h),leftL h (dealH m h)):=by
  unfold F39
  have e1:=F39_l1_eq (f:=f) (h:=h) m (by omega) f 0 (by omega) (by omega)
  have e0:((0:Nat):Int)=0:=rfl
  rw [e0] at e1
  have e2:massesL (h.take 0)=[]:=rfl
  rw [e2] at e1
  rw [e1,F70_heap hk hm0 hm hl hf]
  simp only [Option.bind_some]
  have e3:=F39_l2_eq (dealH_len m h) hl hk.2.1 (dealH_bounds hk hm0 hm hl) f 0 [] [] (by omega) (by omega) (by simp; omega) (by simp; omega)
  rw [e0] at e3
  rw [e3]
  simp
end Go.Proofs.YtlmgjjmighajdaaGreat
set_option linter.unusedSimpArgs false
set_option linter.unusedVariables false
namespace Go.Proofs.YtlmgjjmighajdaaGreat
open Go.Sl Go.Sx
theorem F59_80 (f:Nat) (a b:List Part):F59 f a b=F117 f a b:=by
  unfold F59 F117
  have:∀n y i k,F59_l1 a b n y i k=F117_l1 a b n y i k:=by
    intro n
    induction n with
    | zero=>intro y i k; rfl
    | succ n ih =>
      intro y i k
      have e:F59_l1 a b n=F117_l1 a b n:=by funext y i k; exact ih y i k
      simp only [F59_l1,F117_l1,e]
      rfl
  exact this ..
theorem F59_eq {f:Nat} {a b:List Part} (ha:HeapOk a) (hb:HeapOk b) (hf:90<f):F59 f a b=some (mergeP a b):=by rw [F59_80,F117_eq ha hb hf]
theorem F102_eq {f:Nat} {h:List Part} (hl:h.length≤40) (hf:40<f):F102 f h=some (massesL h):=by
  unfold F102
  have key:=from_st (T:=fun n i=>F102_l1 h n (massesL (h.take i)) (i:Int)) (len:=h.length) (n:=f) (out:=some (massesL h)) (by omega)
    (fun n i hi=>by
      have app:appC (massesL (h.take i)) [h[i].mass]=some (massesL (h.take (i + 1))):=by
        unfold appC
        rw [if_pos (by simp [massesL]; omega),List.take_succ_eq_append_getElem hi]
        unfold massesL
        rw [List.map_append]; rfl
      simp only [F102_l1,lt_len,hi,decide_true,cond_true,getI_nat hi,Option.bind_some,app]
      rw [succ_w (by omega)])
    (fun n=>by simp [F102_l1])
  simpa [massesL] using key
theorem F83_l1_eq {h:List Part} {d:List Int} (hd:d.length=h.length) (hl:h.length<20) (hk:∀p∈h,PartOk p) (hb:∀x∈d,0≤x∧x≤100000001):∀n i (tk lf:List Part),i≤h.length→h.length - i<n→tk.length + (h.length - i)≤40→lf.length + (h.length - i)≤40 →
    F83_l1 h d n tk lf (i:Int)=some (tk ++ takenL (h.drop i) (d.drop i),lf ++ leftL (h.drop i) (d.drop i))
  | 0,i,_,_,_,hn,_,_=>by omega
  | n + 1,i,tk,lf,hi,hn,h1,h2=>by
    rcases Nat.lt_or_ge i h.length with hlt | hge
    · have hid:i<d.length:=by omega
      have app:∀(l:List Part) (x:Part),l.length≤60→appC l [x]=some (l ++ [x]):=fun l x hl=>by unfold appC; rw [if_pos (by simp only [List.length_cons,List.length_nil]; omega)]
      have hp:=hk _ (List.getElem_mem hlt)
      have hx:=hb _ (List.getElem_mem hid)
      have e1:h.drop i=h[i]::h.drop (i + 1):=drop_cons hlt
      have e2:d.drop i=d[i]::d.drop (i + 1):=drop_cons hid
      have:=hp.m0; have:=hp.m1
      have hw:w64 (h[i].mass - d[i])=h[i].mass - d[i]:=w64_id (by omega) (by omega)
      simp only [F83_l1,F83_j1,F83_j2,lt_len,hlt,decide_true,cond_true,getI_nat hlt,getI_nat hid,Option.bind_some,hw,succ_w (i:=i) (by omega)]
      rw [e1,e2]
      simp only [takenL,leftL]
      have gt:(h[i].mass > d[i])=(d[i]<h[i].mass):=rfl
      simp only [gt]
      by_cases c1:d[i] > 0 <;> by_cases c2:d[i]<h[i].mass
      · simp only [c1,c2,decide_true,cond_true,app tk _ (by omega),app lf _ (by omega),Option.bind_some,if_true]
        rw [F83_l1_eq hd hl hk hb n (i + 1) _ _ (by omega) (by omega) (by simp only [List.length_append,List.length_cons,List.length_nil]; omega) (by simp only [List.length_append,List.length_cons,List.length_nil]; omega)]
        simp only [List.append_assoc]
      · simp only [c1,c2,decide_true,decide_false,cond_true,cond_false,app tk _ (by omega),Option.bind_some,if_true,if_false]
        rw [F83_l1_eq hd hl hk hb n (i + 1) _ _ (by omega) (by omega) (by simp only [List.length_append,List.length_cons,List.length_nil]; omega) (by omega)]
        simp only [List.append_assoc,List.nil_append]
      · simp only [c1,c2,decide_true,decide_false,cond_true,cond_false,app lf _ (by omega),Option.bind_some,if_true,if_false]
        rw [F83_l1_eq hd hl hk hb n (i + 1) _ _ (by omega) (by omega) (by omega) (by simp only [List.length_append,List.length_cons,List.length_nil]; omega)]
        simp only [List.append_assoc,List.nil_append]
      · simp only [c1,c2,decide_false,cond_false,if_false]
        rw [F83_l1_eq hd hl hk hb n (i + 1) _ _ (by omega) (by omega) (by omega) (by omega)]
        simp only [List.nil_append]
    · have:i=h.length:=by omega
      subst this
      simp only [F83_l1,lt_len,Nat.lt_irrefl,decide_false,cond_false,List.drop_length]
      simp [takenL,leftL]
theorem deal_zero {a:List Int} (h:∀x∈a,0≤x):dealS 0 a=List.replicate a.length 0:=by
  have hb:baseL 0 a=List.replicate a.length 0:=by
    refine List.ext_getElem (by simp [baseL]) fun i h1 h2=>?_
    simp [baseL]
  have hl:leftS 0 a=0:=by
    unfold leftS
    rw [hb]
    have:∀n:Nat,(List.replicate n (0:Int)).sum=0:=fun n=>by
      induction n with
      | zero=>rfl
      | succ n ih=>rw [List.replicate_succ,List.sum_cons,ih]; rfl
    rw [this]; rfl
  refine List.ext_getElem (by simp [dealS]) fun i h1 h2=>?_
  simp [dealS,hl,baseS]
theorem dealH_zero {h:List Part} (hk:HeapOk h):dealH 0 h=List.replicate h.length 0:=by
  unfold dealH
  split
  · rename_i e; subst e; rfl
  · rw [deal_zero fun x hx=>by obtain ⟨p,hp,rfl⟩:=List.mem_map.1 hx; have:=(hk.2.1 p hp).m0; omega]
    simp [massesL]
theorem taken_zero:∀h:List Part,takenL h (List.replicate h.length 0)=[]
  | []=>rfl
  | p::h=>by
    show takenL (p::h) (0::List.replicate h.length 0)=[]
    simp only [takenL]
    rw [taken_zero h]; rfl
theorem left_zero:∀ {h:List Part},(∀p∈h,PartOk p)→leftL h (List.replicate h.length 0)=h
  | [],_=>rfl
  | p::h,hk=>by
    show leftL (p::h) (0::List.replicate h.length 0)=p::h
    simp only [leftL]
    rw [left_zero fun q hq=>hk q (List.mem_cons_of_mem _ hq)]
    have:=(hk p (by simp)).m0
    rw [if_pos (by omega)]
    simp
theorem F83_eq {f:Nat} {h:List Part} {m:Int} (hk:HeapOk h) (hm0:0≤m) (hm:m≤sumM h) (hl:h.length<20) (hf:200≤f):F83 f h m=some (takenL h (dealH m h),leftL h (dealH m h)):=by
  unfold F83
  by_cases h0:m=0
  · subst h0
    have:appC [] h=some h:=by unfold appC; rw [if_pos (by simp; omega)]; rfl
    rw [dealH_zero hk,taken_zero,left_zero hk.2.1]
    simp [this]
  · have h0':(m == 0)=false:=by simpa using h0
    have hne:h≠[]:=fun e=>by subst e; simp [sumM] at hm; omega
    rw [h0',cond_false,F102_eq (by omega) (by omega)]
    simp only [Option.bind_some]
    rw [F84_eq (dealOk_heap hk hne hm0 hm hl) hf]
    simp only [Option.bind_some]
    have hd:dealS m (massesL h)=dealH m h:=by unfold dealH; rw [if_neg hne]
    rw [hd]
    have:=F83_l1_eq (dealH_len m h) hl hk.2.1 (dealH_bounds hk hm0 hm hl) f 0 [] [] (by omega) (by omega) (by simp; omega) (by simp; omega)
    simpa using this
end Go.Proofs.YtlmgjjmighajdaaGreat
