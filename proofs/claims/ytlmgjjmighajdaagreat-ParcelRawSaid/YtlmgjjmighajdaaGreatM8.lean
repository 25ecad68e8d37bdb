/-
  A part of the walk and of the plain law of one given statement. No condition.
-/
import Derived.Test.YtlmgjjmighajdaaGreatM6
set_option linter.unusedVariables false
set_option linter.unusedSimpArgs false
namespace Go.Proofs.YtlmgjjmighajdaaGreat
open Go.Sl Go.Sx
def F25_j1 (k1:(List Int)→(List Lot)→(List (List (List Part)))→Int→Option (List Lot×List (List (List Part))×List Int×Int)) (y1:Int) (y2:List Int) (y3:List Lot) (y4:List (List (List Part))):Option (List Lot×List (List (List Part))×List Int×Int) :=
  (k1 y2 y3 y4 (w64 (y1 + (1:Int))))
def F25_j2 (k1:(List Int)→(List Lot)→(List (List (List Part)))→Int→Option (List Lot×List (List (List Part))×List Int×Int)) (y5:List Int) (y6:List Lot) (y7:List (List (List Part))) (y1:Int) (y8:Int) (y9:List Lot) (y10:List (List (List Part))):Option (List Lot×List (List (List Part))×List Int×Int) :=
  (cond (y8 != (0:Int)) ((appC y5 ([y1])).bind fun d1=>(F25_j1 k1 y1 d1 y6 y7)) (F25_j1 k1 y1 y5 y9 y10))
def F25_l1 (fuel:Nat) (x1:List Deed) (x2:Int):Nat→(List Int)→(List Lot)→(List (List (List Part)))→Int→Option (List Lot×List (List (List Part))×List Int×Int)
  | 0,_,_,_,_=>none
  | n1 + 1,y5,y6,y7,y1 =>
    let k1:(List Int)→(List Lot)→(List (List (List Part)))→Int→Option (List Lot×List (List (List Part))×List Int×Int):=F25_l1 fuel x1 x2 n1
    (cond (decide (y1<(x1.length:Int))) (cond (y1 == x2) (F25_j1 k1 y1 y5 y6 y7) ((getI x1 y1).bind fun p1=>((F22 fuel y6 y7 p1.kind p1.lot p1.frm p1.to p1.mass).bind fun r1=>(F25_j2 k1 y5 y6 y7 y1 r1.2.2.2 r1.1 r1.2.1)))) (some (y6,y7,y5,0)))
def F25 (fuel:Nat) (x0:List Lot) (x1:List Deed) (x2:Int):Option (List Lot×List (List (List Part))×List Int×Int) :=
  ((F21 fuel x0).bind fun r2=>(cond (r2 != (0:Int)) (some ([],[[],[],[],[],[],[],[],[],[]],[],60)) (cond (decide ((x1.length:Int) > (60:Int))) (some ([],[[],[],[],[],[],[],[],[],[]],[],2)) ((F60 fuel x2 0 (w64 ((x1.length:Int) - (1:Int)))).bind fun r3=>(cond (!r3) (some ([],[[],[],[],[],[],[],[],[],[]],[],1)) ((appC ([]) x0).bind fun d2=>(F25_l1 fuel x1 x2 fuel ([]) d2 ([[],[],[],[],[],[],[],[],[]]) 0)))))))
set_option maxRecDepth 100000 in
theorem f25_ok (fuel:Nat) (x0:List Lot) (x1:List Deed) (x2:Int) (r:List Lot×List (List (List Part))×List Int×Int) (hr:F25 fuel x0 x1 x2=some r) (h:Zone) (L:List Atom) (w:World) (hS:St h L w) (o_x0:Option Addr) (c_x0:Nat) (hx_x0:SliceR LotT h o_x0 c_x0 x0) (o_x1:Option Addr) (c_x1:Nat) (hx_x1:SliceR DeedT h o_x1 c_x1 x1) :
    Calls Tryz.prog 25 #[.slice o_x0 x0.length c_x0, .slice o_x1 x1.length c_x1,vI x2] w fun e w'=>∃v,e= .returned v∧(∃h',∃o0:Option Addr,∃c0:Nat,∃v1_0:Value,∃v1_1:Value,∃v1_2:Value,∃v1_3:Value,∃v1_4:Value,∃v1_5:Value,∃v1_6:Value,∃v1_7:Value,∃v1_8:Value,∃o2:Option Addr,∃c2:Nat,Zone.le h h'∧v= .tuple #[.agg #[.slice o0 r.1.length c0,v1_0,v1_1,v1_2,v1_3,v1_4,v1_5,v1_6,v1_7,v1_8], .slice o2 r.2.2.1.length c2,vI r.2.2.2]∧St h' L w'∧SliceR LotT h' o0 c0 r.1∧(Ty.arr 9 (Ty.slice (Ty.slice PartT))).rep h' [v1_0,v1_1,v1_2,v1_3,v1_4,v1_5,v1_6,v1_7,v1_8] r.2.1∧SliceR Ty.int h' o2 c2 r.2.2.1):=by
 refine calls_intro (N:=62) Tryz.func25 (by kernel_rfl) fun a hf=>c_sr (c_box [N0,N0,N0,N0,N0,N0,N0,N0,N0,N0] 29 hS hf fun b1 m o k f=>tv (c_t [] [0,1,2,6] f .nil fun q g=>(c_seq (c_sr (c_n 1 [] [0,1,2,6,15] g .nil fun t l=>?_)))))
 obtain ⟨g,f,F⟩:=bind_some hr
 refine c_call l (f21_ok fuel x0 g f h _ _ k o_x0 c_x0 hx_x0) ?_
 rintro k l m ⟨y,k2,rfl,z⟩ f
 refine tv (c_t [] [0,1,2,6,17] f .nil fun f o=>c_if (g != (0:Int)) o (fun m=>?_) (fun m=>?_))
 ·have p:=cond_t m F
  refine c_sr (c_n 1 [] [6,18] o .nil fun q g=>(c_st 0 [N0,N0,N0,N0,N0,N0,N0,N0,N0,N0] z g rfl fun t u f k=>tv (c_t [] [6,7,8] k .nil fun x l=>(c_ret (r_then (c_rt [N0,N0,N0,N0,N0,N0,N0,N0,N0,N0] (.tuple #[.agg #[N0,N0,N0,N0,N0,N0,N0,N0,N0,N0],N0,vI 60]) l (.cell (f.bx 0 0 rfl rfl) (.cell (f.bx 0 1 rfl rfl) (.cell (f.bx 0 2 rfl rfl) (.cell (f.bx 0 3 rfl rfl) (.cell (f.bx 0 4 rfl rfl) (.cell (f.bx 0 5 rfl rfl) (.cell (f.bx 0 6 rfl rfl) (.cell (f.bx 0 7 rfl rfl) (.cell (f.bx 0 8 rfl rfl) (.cell (f.bx 0 9 rfl rfl) .nil)))))))))) ?_))))))
  obtain rfl:=some_eq p
  exact ⟨_,rfl,y,none,0,N0,N0,N0,N0,N0,N0,N0,N0,N0,none,0,k2,rfl,(St.drop 1 f),SliceR.nil' _ _,⟨rfl,(Rows.cons (c:=[_]) (sliceRep (SliceR.nil' _ _)) (Rows.cons (c:=[_]) (sliceRep (SliceR.nil' _ _)) (Rows.cons (c:=[_]) (sliceRep (SliceR.nil' _ _)) (Rows.cons (c:=[_]) (sliceRep (SliceR.nil' _ _)) (Rows.cons (c:=[_]) (sliceRep (SliceR.nil' _ _)) (Rows.cons (c:=[_]) (sliceRep (SliceR.nil' _ _)) (Rows.cons (c:=[_]) (sliceRep (SliceR.nil' _ _)) (Rows.cons (c:=[_]) (sliceRep (SliceR.nil' _ _)) (Rows.cons (c:=[_]) (sliceRep (SliceR.nil' _ _)) rfl)))))))))⟩,SliceR.nil' _ _⟩
 have F:=cond_f m F
 refine c_skip (n_then (c_seq (c_sq [] [0,1,2,6,21] o .nil fun f o=>(c_if (decide ((x1.length:Int) > (60:Int))) o (fun m=>?_) (fun m=>?_)))))
 ·have p:=cond_t m F
  refine c_sr (c_n 1 [] [6,22] o .nil fun q g=>(c_st 0 [N0,N0,N0,N0,N0,N0,N0,N0,N0,N0] z g rfl fun t u f k=>tv (c_t [] [6,7,8] k .nil fun x l=>(c_ret (r_then (c_rt [N0,N0,N0,N0,N0,N0,N0,N0,N0,N0] (.tuple #[.agg #[N0,N0,N0,N0,N0,N0,N0,N0,N0,N0],N0,vI 2]) l (.cell (f.bx 0 0 rfl rfl) (.cell (f.bx 0 1 rfl rfl) (.cell (f.bx 0 2 rfl rfl) (.cell (f.bx 0 3 rfl rfl) (.cell (f.bx 0 4 rfl rfl) (.cell (f.bx 0 5 rfl rfl) (.cell (f.bx 0 6 rfl rfl) (.cell (f.bx 0 7 rfl rfl) (.cell (f.bx 0 8 rfl rfl) (.cell (f.bx 0 9 rfl rfl) .nil)))))))))) ?_))))))
  obtain rfl:=some_eq p
  exact ⟨_,rfl,y,none,0,N0,N0,N0,N0,N0,N0,N0,N0,N0,none,0,k2,rfl,(St.drop 1 f),SliceR.nil' _ _,⟨rfl,(Rows.cons (c:=[_]) (sliceRep (SliceR.nil' _ _)) (Rows.cons (c:=[_]) (sliceRep (SliceR.nil' _ _)) (Rows.cons (c:=[_]) (sliceRep (SliceR.nil' _ _)) (Rows.cons (c:=[_]) (sliceRep (SliceR.nil' _ _)) (Rows.cons (c:=[_]) (sliceRep (SliceR.nil' _ _)) (Rows.cons (c:=[_]) (sliceRep (SliceR.nil' _ _)) (Rows.cons (c:=[_]) (sliceRep (SliceR.nil' _ _)) (Rows.cons (c:=[_]) (sliceRep (SliceR.nil' _ _)) (Rows.cons (c:=[_]) (sliceRep (SliceR.nil' _ _)) rfl)))))))))⟩,SliceR.nil' _ _⟩
 have p:=cond_f m F
 refine c_skip (n_then (c_seq (c_sr (c_n 4 [] [0,1,2,6,23,26] o .nil fun f g=>?_))))
 obtain ⟨k,f,F⟩:=bind_some p
 refine c_call g (f60_ok fuel x2 0 (w64 ((x1.length:Int) - (1:Int))) k f y _ _ z ) ?_
 rintro g l m ⟨z,k3,rfl,y⟩ f
 refine tv (c_t [] [0,1,2,6,28] f .nil fun f o=>c_if (!k) o (fun m=>?_) (fun m=>?_))
 ·have p:=cond_t m F
  refine c_sr (c_n 1 [] [6,29] o .nil fun q g=>(c_st 0 [N0,N0,N0,N0,N0,N0,N0,N0,N0,N0] y g rfl fun t u f k=>tv (c_t [] [6,7,8] k .nil fun x l=>(c_ret (r_then (c_rt [N0,N0,N0,N0,N0,N0,N0,N0,N0,N0] (.tuple #[.agg #[N0,N0,N0,N0,N0,N0,N0,N0,N0,N0],N0,vI 1]) l (.cell (f.bx 0 0 rfl rfl) (.cell (f.bx 0 1 rfl rfl) (.cell (f.bx 0 2 rfl rfl) (.cell (f.bx 0 3 rfl rfl) (.cell (f.bx 0 4 rfl rfl) (.cell (f.bx 0 5 rfl rfl) (.cell (f.bx 0 6 rfl rfl) (.cell (f.bx 0 7 rfl rfl) (.cell (f.bx 0 8 rfl rfl) (.cell (f.bx 0 9 rfl rfl) .nil)))))))))) ?_))))))
  obtain rfl:=some_eq p
  exact ⟨_,rfl,z,none,0,N0,N0,N0,N0,N0,N0,N0,N0,N0,none,0,(zt k2 k3),rfl,(St.drop 1 f),SliceR.nil' _ _,⟨rfl,(Rows.cons (c:=[_]) (sliceRep (SliceR.nil' _ _)) (Rows.cons (c:=[_]) (sliceRep (SliceR.nil' _ _)) (Rows.cons (c:=[_]) (sliceRep (SliceR.nil' _ _)) (Rows.cons (c:=[_]) (sliceRep (SliceR.nil' _ _)) (Rows.cons (c:=[_]) (sliceRep (SliceR.nil' _ _)) (Rows.cons (c:=[_]) (sliceRep (SliceR.nil' _ _)) (Rows.cons (c:=[_]) (sliceRep (SliceR.nil' _ _)) (Rows.cons (c:=[_]) (sliceRep (SliceR.nil' _ _)) (Rows.cons (c:=[_]) (sliceRep (SliceR.nil' _ _)) rfl)))))))))⟩,SliceR.nil' _ _⟩
 have p:=cond_f m F
 refine c_skip (n_then (c_sr (p_box (i:=0) (d:=(some 30)) (cs:=[]) (T:=43) (v:=fun f=> .slice (some ⟨f,0,none⟩) 0 0) y o (fun b=>by kernel_rfl) fun f l m g k=>tv ?_)))
 have f:=g.ownBox (T:=LotT) (E:=43) (n:=0) (xs:=[]) (i:=0) rfl rfl rfl (by decide)
 refine c_n 1 [] [1,2,6,30,31] k .nil fun g k=>?_
 obtain ⟨t,g,p⟩:=bind_some p
 refine p_append (T:=LotT) (i:=2) (j:=0) (d:=some 32) (o2:=o_x0) (c2:=c_x0) (ys:=x0) el22 f k rfl (by kernel_rfl) (SliceR.src (SliceR.mono (zt k2 k3) hx_x0) f) g fun o q k l g f=>tv (c_n 1 [] [1,2,6,33] f .nil fun k f=>c_box [N0,N0,N0,N0,N0,N0,N0,N0,N0,N0] 29 g f fun Z k l f g=>tv (c_st 0 [sL o t q,N0,N0,N0,N0,N0,N0,N0,N0,N0] f g rfl fun k l g f=>tv (c_dt (c_sq [] [1,2,6,9,10] f .nil fun k f=>(c_seq (c_sq [] [1,2,6,9,10,11] f .nil fun l m=>(c_block 0 ?_)))))))
 obtain ⟨f,k4,g,k⟩:=g.share (j:=1) rfl
 have g:=g.ownNil Ty.int 3
 refine c_loop (fun n a w=>∃z4:Zone,∃V:List Int,∃Y:List Lot,∃y7:List (List (List Part)),∃U:Int,∃W:Option Addr,∃X:Nat,∃e3:Option Addr,∃q3:Nat,∃v3:Value,∃v4:Value,∃v5:Value,∃v6:Value,∃v7:Value,∃v8:Value,∃v9:Value,∃a0:Value,∃a1:Value,Zone.le f z4∧Fr a 62 [(1,sL o_x1 x1 c_x1),(2,vI x2),(6,pB b1 0),(9,pB Z 0),(10,sL W V X),(11,vI U)]∧St z4 (ownS Ty.int 3 W X V::box Z [sL e3 Y q3,v3,v4,v5,v6,v7,v8,v9,a0,a1] 29::emp::box b1 [N0,N0,N0,N0,N0,N0,N0,N0,N0,N0] 29::L) w∧SliceR LotT z4 e3 q3 Y∧(Ty.arr 9 (Ty.slice (Ty.slice PartT))).rep z4 [v3,v4,v5,v6,v7,v8,v9,a0,a1] y7∧(F25_l1 fuel x1 x2 n V Y y7 U)=some r) fuel ⟨f,[],t,[[],[],[],[],[],[],[],[],[]],0,none,0,o,q,(N0),(N0),(N0),(N0),(N0),(N0),(N0),(N0),(N0),zr,m.to,g,k,⟨rfl,(Rows.cons (c:=[_]) (sliceRep (SliceR.nil' _ _)) (Rows.cons (c:=[_]) (sliceRep (SliceR.nil' _ _)) (Rows.cons (c:=[_]) (sliceRep (SliceR.nil' _ _)) (Rows.cons (c:=[_]) (sliceRep (SliceR.nil' _ _)) (Rows.cons (c:=[_]) (sliceRep (SliceR.nil' _ _)) (Rows.cons (c:=[_]) (sliceRep (SliceR.nil' _ _)) (Rows.cons (c:=[_]) (sliceRep (SliceR.nil' _ _)) (Rows.cons (c:=[_]) (sliceRep (SliceR.nil' _ _)) (Rows.cons (c:=[_]) (sliceRep (SliceR.nil' _ _)) rfl)))))))))⟩,p⟩ ?_
 rintro f g k ⟨z4,V,Y,y7,U,W,X,e3,q3,v3,v4,v5,v6,v7,v8,v9,a0,a1,k5,l,a3,af,a4,av⟩
 cases f with
 | zero=>cases av
 | succ n1 =>
 refine c_seq (c_sq [] [1,2,6,9,10,11,37] l .nil fun f au=>(c_if (decide (U<(x1.length:Int))) au (fun ar=>?_) (fun ar=>?_)))
 ·have F:=cond_t ar av
  refine c_skip (n_then (c_mid (fun a w=>∃z5:Zone,∃y2:List Int,∃y3:List Lot,∃y4:List (List (List Part)),∃e4:Option Addr,∃q4:Nat,∃e5:Option Addr,∃q5:Nat,∃ai:Value,∃aj:Value,∃ak:Value,∃al:Value,∃am:Value,∃an:Value,∃ao:Value,∃ap:Value,∃aq:Value,Zone.le z4 z5∧Fr a 62 [(1,sL o_x1 x1 c_x1),(2,vI x2),(6,pB b1 0),(9,pB Z 0),(10,sL e4 y2 q4),(11,vI U)]∧St z5 (ownS Ty.int 3 e4 q4 y2::box Z [sL e5 y3 q5,ai,aj,ak,al,am,an,ao,ap,aq] 29::emp::box b1 [N0,N0,N0,N0,N0,N0,N0,N0,N0,N0] 29::L) w∧SliceR LotT z5 e5 q5 y3∧(Ty.arr 9 (Ty.slice (Ty.slice PartT))).rep z5 [ai,aj,ak,al,am,an,ao,ap,aq] y4∧(F25_j1 (F25_l1 fuel x1 x2 n1) U y2 y3 y4)=some r) ?_ ?_))
  ·skip
   refine c_block 1 (c_seq (c_sq [] [1,2,6,9,10,11,42] au .nil fun g q=>(c_if (U == x2) q (fun f=>?_) (fun f=>?_))))
   ·have p:=cond_t f F
    refine c_exit 1 (x_then (x_block (n_then (⟨z4,V,Y,y7,W,X,e3,q3,v3,v4,v5,v6,v7,v8,v9,a0,a1,zr,q.to,a3,af,(Ty.mono _ zr a4),p⟩))))
   have p:=cond_f f F
   refine c_skip (n_then (c_mid (fun a w=>∃z6:Zone,∃y8:Int,∃y9:List Lot,∃ah:List (List (List Part)),∃b4:Nat,∃e6:Option Addr,∃q6:Nat,∃a6:Value,∃a7:Value,∃a8:Value,∃a9:Value,∃aa:Value,∃ab:Value,∃ac:Value,∃ad:Value,∃ae:Value,Zone.le z4 z6∧Fr a 62 [(1,sL o_x1 x1 c_x1),(2,vI x2),(6,pB b1 0),(9,pB Z 0),(10,sL W V X),(11,vI U),(12,pB b4 0),(14,vI y8)]∧St z6 (box b4 [sL e6 y9 q6,a6,a7,a8,a9,aa,ab,ac,ad,ae] 29::ownS Ty.int 3 W X V::box Z [sL e3 Y q3,v3,v4,v5,v6,v7,v8,v9,a0,a1] 29::emp::box b1 [N0,N0,N0,N0,N0,N0,N0,N0,N0,N0] 29::L) w∧SliceR LotT z6 e6 q6 y9∧(Ty.arr 9 (Ty.slice (Ty.slice PartT))).rep z6 [a6,a7,a8,a9,aa,ab,ac,ad,ae] ah∧(F25_j2 (F25_l1 fuel x1 x2 n1) V Y y7 U y8 y9 ah)=some r) ?_ ?_))
   ·skip
    have a5:=a3.drew
    have m:=Sub.of zr a5
    refine w_regB (by kernel_rfl) [5,12,13] (Sub z4 (ownS Ty.int 3 W X V::box Z [sL e3 Y q3,v3,v4,v5,v6,v7,v8,v9,a0,a1] 29::emp::box b1 [N0,N0,N0,N0,N0,N0,N0,N0,N0,N0] 29::L)) (by kernel_rfl) (k_seg' 10 [(0,true),(1,true),(2,true),(3,true),(4,true)] (by kernel_rfl) (by kernel_rfl) (At.start m) (by kernel_rfl) ?_)
    obtain ⟨M,f,F⟩:=bind_some p
    obtain ⟨g,k,l,o,rfl,f⟩:=SliceR.getI (SliceR.mono (zt (zt (zt k2 k3) k4) k5) hx_x1) f
    refine c_S 5 [sL e3 Y q3,v3,v4,v5,v6,v7,v8,v9,a0,a1, .pointer (some g),vI M.kind,vI M.lot,vI M.frm,vI M.to,vI M.mass] [1,2,6,9,10,11,44,48] m q (fun _ s=>(.cell (s.bx 1 0 rfl rfl) (.cell (s.bx 1 1 rfl rfl) (.cell (s.bx 1 2 rfl rfl) (.cell (s.bx 1 3 rfl rfl) (.cell (s.bx 1 4 rfl rfl) (.cell (s.bx 1 5 rfl rfl) (.cell (s.bx 1 6 rfl rfl) (.cell (s.bx 1 7 rfl rfl) (.cell (s.bx 1 8 rfl rfl) (.cell (s.bx 1 9 rfl rfl) (.prop k (.prop l (.cell (s.cell (f 0 _ rfl)) (.cell (s.cell (f 1 _ rfl)) (.cell (s.cell (f 2 _ rfl)) (.cell (s.cell (f 3 _ rfl)) (.cell (s.cell (f 4 _ rfl)) .nil)))))))))))))))))) .nil fun f ag=>c_done ?_
    intro f
    refine k_any' 9 [5,10,11] (by kernel_rfl) f (by kernel_rfl) (by kernel_rfl) ((all_cons ?_ (all_cons ?_ (all_cons ?_ all_nil))))
    ·skip
     obtain ⟨k,f,p⟩:=bind_some F
     refine c_call ag (f22_ok fuel Y y7 M.kind M.lot M.frm M.to M.mass k f z4 _ _ a5 e3 q3 af v3 v4 v5 v6 v7 v8 v9 a0 a1 (Ty.mono _ zr a4)) ?_
     rintro f g l ⟨R,u,x,y,z,A,B,C,D,G,H,I,O,P,t,rfl,Q,S,K,m⟩ o
     refine ⟨fun e=>absurd e (by decide),?_⟩
     refine c_done ?_
     intro f
     refine k_seg' 5 [(6,true),(7,true),(8,true),(9,true)] (by kernel_rfl) (by kernel_rfl) f (by kernel_rfl) (p_qP 4 [] [(1,sL o_x1 x1 c_x1),(2,vI x2),(6,pB b1 0),(9,pB Z 0),(10,sL W V X),(11,vI U),(50, .agg #[sL u k.1 x,y,z,A,B,C,D,G,H,I]),(51, .agg #[sL O k.2.2.1 P]),(52,vI k.2.2.2)] [] o (by kernel_rfl) (fun _=> .nil) fun f J=>c_done ?_)
     intro f
     refine k_any' 4 [10,11] (by kernel_rfl) f (by kernel_rfl) (by kernel_rfl) ((all_cons ?_ (all_cons ?_ all_nil)))
     ·skip
      refine c_box [N0,N0,N0,N0,N0,N0,N0,N0,N0,N0] 29 Q J fun q f l g m=>⟨fun _=>Sub.of t (St.drop 1 g),?_⟩
      refine c_done ?_
      intro f
      refine k_seg' 0 [(11,false),(12,false),(13,false),(14,true)] (by kernel_rfl) (by kernel_rfl) f (by kernel_rfl) (c_box [N0] 49 g m fun g l m f o=>⟨fun _=>Sub.of t (St.drop 2 f),?_⟩)
      have g:=Sub.of t (St.drop 2 f)
      have g:=oneCells_of (Ty.one _ (Ty.mono _ zr K))
      refine p_store_eq (i:=12) (j:=1) (b:=q) (off:=0) (vs:=[sL u k.1 x,y,z,A,B,C,D,G,H,I]) (cs':=[sL u k.1 x,y,z,A,B,C,D,G,H,I]) f o rfl (by kernel_rfl) g rfl fun l m f g=>⟨fun e=>absurd e (by decide),?_⟩
      refine c_st 0 [sL O k.2.2.1 P] f g rfl fun g l m f=>⟨fun e=>absurd e (by decide),?_⟩
      refine p_qP 1 [] [(1,sL o_x1 x1 c_x1),(2,vI x2),(6,pB b1 0),(9,pB Z 0),(10,sL W V X),(11,vI U),(12,pB q 0),(14,vI k.2.2.2)] [] f (by kernel_rfl) (fun _=> .nil) fun f g=>c_done ?_
      intro f
      refine k_done' (by kernel_rfl) (by kernel_rfl) (n_then (⟨R,k.2.2.2,k.1,k.2.1,q,u,x,y,z,A,B,C,D,G,H,I,t,g.to,(St.pick 2 [1] m (by kernel_rfl)),S,(Ty.mono _ zr K),p⟩))
     skip
     refine c_box [N0] 49 Q J fun f l m g o=>⟨fun _=>Sub.of t (St.drop 1 g),?_⟩
     refine c_done ?_
     intro f
     refine k_seg' 0 [(10,false),(12,false),(13,false),(14,true)] (by kernel_rfl) (by kernel_rfl) f (by kernel_rfl) (c_box [N0,N0,N0,N0,N0,N0,N0,N0,N0,N0] 29 g o fun o g l f m=>⟨fun _=>Sub.of t (St.drop 2 f),?_⟩)
     have g:=Sub.of t (St.drop 2 f)
     have g:=oneCells_of (Ty.one _ (Ty.mono _ zr K))
     refine p_store_eq (i:=12) (j:=0) (b:=o) (off:=0) (vs:=[sL u k.1 x,y,z,A,B,C,D,G,H,I]) (cs':=[sL u k.1 x,y,z,A,B,C,D,G,H,I]) f m rfl (by kernel_rfl) g rfl fun l m f g=>⟨fun e=>absurd e (by decide),?_⟩
     refine c_st 1 [sL O k.2.2.1 P] f g rfl fun g l m f=>⟨fun e=>absurd e (by decide),?_⟩
     refine p_qP 1 [] [(1,sL o_x1 x1 c_x1),(2,vI x2),(6,pB b1 0),(9,pB Z 0),(10,sL W V X),(11,vI U),(12,pB o 0),(14,vI k.2.2.2)] [] f (by kernel_rfl) (fun _=> .nil) fun f g=>c_done ?_
     intro f
     refine k_done' (by kernel_rfl) (by kernel_rfl) (n_then (⟨R,k.2.2.2,k.1,k.2.1,o,u,x,y,z,A,B,C,D,G,H,I,t,g.to,(St.pick 2 [0] m (by kernel_rfl)),S,(Ty.mono _ zr K),p⟩))
    ·skip
     refine c_box [N0,N0,N0,N0,N0,N0,N0,N0,N0,N0] 29 a5 ag fun O f g Q a2=>⟨fun _=>Sub.of zr (St.drop 1 Q),?_⟩
     refine c_done ?_
     intro f
     have g:=Sub.of zr (St.drop 1 Q)
     refine k_seg' 9 [] (by kernel_rfl) (by kernel_rfl) f (by kernel_rfl) (c_done ?_)
     intro f
     refine k_any' 8 [5,11] (by kernel_rfl) f (by kernel_rfl) (by kernel_rfl) ((all_cons ?_ (all_cons ?_ all_nil)))
     ·skip
      obtain ⟨g,f,p⟩:=bind_some F
      refine c_call a2 (f22_ok fuel Y y7 M.kind M.lot M.frm M.to M.mass g f z4 _ _ Q e3 q3 af v3 v4 v5 v6 v7 v8 v9 a0 a1 (Ty.mono _ zr a4)) ?_
      rintro f k l ⟨R,q,t,u,x,y,z,A,B,C,D,G,H,I,K,rfl,J,S,P,m⟩ o
      refine ⟨fun e=>absurd e (by decide),?_⟩
      refine c_done ?_
      intro f
      refine k_seg' 0 [(6,true),(7,true),(8,true),(9,true),(11,false),(12,false),(13,false),(14,true)] (by kernel_rfl) (by kernel_rfl) f (by kernel_rfl) (p_qP 4 [] [(1,sL o_x1 x1 c_x1),(2,vI x2),(6,pB b1 0),(9,pB Z 0),(10,sL W V X),(11,vI U),(12,pB O 0),(50, .agg #[sL q g.1 t,u,x,y,z,A,B,C,D,G]),(51, .agg #[sL H g.2.2.1 I]),(52,vI g.2.2.2)] [] o (by kernel_rfl) (fun _=> .nil) fun k f=>c_box [N0] 49 J f fun k l m f o=>⟨fun _=>Sub.of K (St.drop 2 f),?_⟩)
      have k:=Sub.of K (St.drop 2 f)
      have k:=oneCells_of (Ty.one _ (Ty.mono _ zr P))
      refine p_store_eq (i:=12) (j:=1) (b:=O) (off:=0) (vs:=[sL q g.1 t,u,x,y,z,A,B,C,D,G]) (cs':=[sL q g.1 t,u,x,y,z,A,B,C,D,G]) f o rfl (by kernel_rfl) k rfl fun l m f k=>⟨fun e=>absurd e (by decide),?_⟩
      refine c_st 0 [sL H g.2.2.1 I] f k rfl fun k l m f=>⟨fun e=>absurd e (by decide),?_⟩
      refine p_qP 1 [] [(1,sL o_x1 x1 c_x1),(2,vI x2),(6,pB b1 0),(9,pB Z 0),(10,sL W V X),(11,vI U),(12,pB O 0),(14,vI g.2.2.2)] [] f (by kernel_rfl) (fun _=> .nil) fun f k=>c_done ?_
      intro f
      refine k_done' (by kernel_rfl) (by kernel_rfl) (n_then (⟨R,g.2.2.2,g.1,g.2.1,O,q,t,u,x,y,z,A,B,C,D,G,K,k.to,(St.pick 2 [1] m (by kernel_rfl)),S,(Ty.mono _ zr P),p⟩))
     skip
     refine c_box [N0] 49 Q a2 fun P f g k l=>⟨fun _=>Sub.of zr (St.drop 2 k),?_⟩
     refine c_done ?_
     intro f
     have g:=Sub.of zr (St.drop 2 k)
     refine k_seg' 0 [(5,false),(6,true),(7,true),(8,true),(9,true),(12,false),(13,false),(14,true)] (by kernel_rfl) (by kernel_rfl) f (by kernel_rfl) ?_
     obtain ⟨f,g,p⟩:=bind_some F
     refine c_call l (f22_ok fuel Y y7 M.kind M.lot M.frm M.to M.mass f g z4 _ _ k e3 q3 af v3 v4 v5 v6 v7 v8 v9 a0 a1 (Ty.mono _ zr a4)) ?_
     rintro k G H ⟨Q,o,q,t,u,x,y,z,A,B,C,D,l,m,R,rfl,J,S,K,I⟩ g
     refine ⟨fun e=>absurd e (by decide),?_⟩
     refine p_qP 4 [] [(1,sL o_x1 x1 c_x1),(2,vI x2),(6,pB b1 0),(9,pB Z 0),(10,sL W V X),(11,vI U),(12,pB O 0),(13,pB P 0),(50, .agg #[sL o f.1 q,t,u,x,y,z,A,B,C,D]),(51, .agg #[sL l f.2.2.1 m]),(52,vI f.2.2.2)] [] g (by kernel_rfl) (fun _=> .nil) fun g k=>?_
     have g:=oneCells_of (Ty.one _ (Ty.mono _ zr K))
     refine p_store_eq (i:=12) (j:=1) (b:=O) (off:=0) (vs:=[sL o f.1 q,t,u,x,y,z,A,B,C,D]) (cs':=[sL o f.1 q,t,u,x,y,z,A,B,C,D]) J k rfl (by kernel_rfl) g rfl fun G H g k=>⟨fun e=>absurd e (by decide),?_⟩
     refine c_st 0 [sL l f.2.2.1 m] g k rfl fun k l m g=>⟨fun e=>absurd e (by decide),?_⟩
     refine p_qP 1 [] [(1,sL o_x1 x1 c_x1),(2,vI x2),(6,pB b1 0),(9,pB Z 0),(10,sL W V X),(11,vI U),(12,pB O 0),(14,vI f.2.2.2)] [] g (by kernel_rfl) (fun _=> .nil) fun g k=>c_done ?_
     intro g
     refine k_done' (by kernel_rfl) (by kernel_rfl) (n_then (⟨Q,f.2.2.2,f.1,f.2.1,O,o,q,t,u,x,y,z,A,B,C,D,R,k.to,(St.pick 2 [1] m (by kernel_rfl)),S,(Ty.mono _ zr K),p⟩))
    skip
    refine c_box [N0] 49 a5 ag fun a2 f g P S=>⟨fun _=>Sub.of zr (St.drop 1 P),?_⟩
    refine c_done ?_
    intro f
    have g:=Sub.of zr (St.drop 1 P)
    refine k_seg' 9 [] (by kernel_rfl) (by kernel_rfl) f (by kernel_rfl) (c_done ?_)
    intro f
    refine k_any' 8 [5,10] (by kernel_rfl) f (by kernel_rfl) (by kernel_rfl) ((all_cons ?_ (all_cons ?_ all_nil)))
    ·skip
     obtain ⟨g,f,p⟩:=bind_some F
     refine c_call S (f22_ok fuel Y y7 M.kind M.lot M.frm M.to M.mass g f z4 _ _ P e3 q3 af v3 v4 v5 v6 v7 v8 v9 a0 a1 (Ty.mono _ zr a4)) ?_
     rintro f k l ⟨Q,q,t,u,x,y,z,A,B,C,D,G,H,I,K,rfl,J,R,O,m⟩ o
     refine ⟨fun e=>absurd e (by decide),?_⟩
     refine c_done ?_
     intro f
     refine k_seg' 0 [(6,true),(7,true),(8,true),(9,true),(10,false),(12,false),(13,false),(14,true)] (by kernel_rfl) (by kernel_rfl) f (by kernel_rfl) (p_qP 4 [] [(1,sL o_x1 x1 c_x1),(2,vI x2),(6,pB b1 0),(9,pB Z 0),(10,sL W V X),(11,vI U),(13,pB a2 0),(50, .agg #[sL q g.1 t,u,x,y,z,A,B,C,D,G]),(51, .agg #[sL H g.2.2.1 I]),(52,vI g.2.2.2)] [] o (by kernel_rfl) (fun _=> .nil) fun k f=>c_box [N0,N0,N0,N0,N0,N0,N0,N0,N0,N0] 29 J f fun o k l f m=>⟨fun _=>Sub.of K (St.drop 2 f),?_⟩)
     have k:=Sub.of K (St.drop 2 f)
     have k:=oneCells_of (Ty.one _ (Ty.mono _ zr O))
     refine p_store_eq (i:=12) (j:=0) (b:=o) (off:=0) (vs:=[sL q g.1 t,u,x,y,z,A,B,C,D,G]) (cs':=[sL q g.1 t,u,x,y,z,A,B,C,D,G]) f m rfl (by kernel_rfl) k rfl fun l m f k=>⟨fun e=>absurd e (by decide),?_⟩
     refine c_st 1 [sL H g.2.2.1 I] f k rfl fun k l m f=>⟨fun e=>absurd e (by decide),?_⟩
     refine p_qP 1 [] [(1,sL o_x1 x1 c_x1),(2,vI x2),(6,pB b1 0),(9,pB Z 0),(10,sL W V X),(11,vI U),(12,pB o 0),(14,vI g.2.2.2)] [] f (by kernel_rfl) (fun _=> .nil) fun f k=>c_done ?_
     intro f
     refine k_done' (by kernel_rfl) (by kernel_rfl) (n_then (⟨Q,g.2.2.2,g.1,g.2.1,o,q,t,u,x,y,z,A,B,C,D,G,K,k.to,(St.pick 2 [0] m (by kernel_rfl)),R,(Ty.mono _ zr O),p⟩))
    skip
    refine c_box [N0,N0,N0,N0,N0,N0,N0,N0,N0,N0] 29 P S fun K f g k l=>⟨fun _=>Sub.of zr (St.drop 2 k),?_⟩
    refine c_done ?_
    intro f
    have g:=Sub.of zr (St.drop 2 k)
    refine k_seg' 0 [(5,false),(6,true),(7,true),(8,true),(9,true),(12,false),(13,false),(14,true)] (by kernel_rfl) (by kernel_rfl) f (by kernel_rfl) ?_
    obtain ⟨f,g,p⟩:=bind_some F
    refine c_call l (f22_ok fuel Y y7 M.kind M.lot M.frm M.to M.mass f g z4 _ _ k e3 q3 af v3 v4 v5 v6 v7 v8 v9 a0 a1 (Ty.mono _ zr a4)) ?_
    rintro k G H ⟨O,o,q,t,u,x,y,z,A,B,C,D,l,m,P,rfl,J,Q,M,I⟩ g
    refine ⟨fun e=>absurd e (by decide),?_⟩
    refine p_qP 4 [] [(1,sL o_x1 x1 c_x1),(2,vI x2),(6,pB b1 0),(9,pB Z 0),(10,sL W V X),(11,vI U),(12,pB K 0),(13,pB a2 0),(50, .agg #[sL o f.1 q,t,u,x,y,z,A,B,C,D]),(51, .agg #[sL l f.2.2.1 m]),(52,vI f.2.2.2)] [] g (by kernel_rfl) (fun _=> .nil) fun g k=>?_
    have g:=oneCells_of (Ty.one _ (Ty.mono _ zr M))
    refine p_store_eq (i:=12) (j:=0) (b:=K) (off:=0) (vs:=[sL o f.1 q,t,u,x,y,z,A,B,C,D]) (cs':=[sL o f.1 q,t,u,x,y,z,A,B,C,D]) J k rfl (by kernel_rfl) g rfl fun G H g k=>⟨fun e=>absurd e (by decide),?_⟩
    refine c_st 1 [sL l f.2.2.1 m] g k rfl fun k l m g=>⟨fun e=>absurd e (by decide),?_⟩
    refine p_qP 1 [] [(1,sL o_x1 x1 c_x1),(2,vI x2),(6,pB b1 0),(9,pB Z 0),(10,sL W V X),(11,vI U),(12,pB K 0),(14,vI f.2.2.2)] [] g (by kernel_rfl) (fun _=> .nil) fun g k=>c_done ?_
    intro g
    refine k_done' (by kernel_rfl) (by kernel_rfl) (n_then (⟨O,f.2.2.2,f.1,f.2.1,K,o,q,t,u,x,y,z,A,B,C,D,P,k.to,(St.pick 2 [0] m (by kernel_rfl)),Q,(Ty.mono _ zr M),p⟩))
   rintro k l ⟨z6,y8,y9,ah,b4,e6,q6,a6,a7,a8,a9,aa,ab,ac,ad,ae,z,g,f,B,A,F⟩
   refine c_sq [] [1,2,6,9,10,11,12,54] g .nil fun g x=>c_if (y8 != (0:Int)) x (fun m=>?_) (fun m=>?_)
   ·have p:=cond_t m F
    refine c_reg (c_n 2 [] [1,2,6,9,11,55,56] x .nil fun o g=>(p_box (i:=2) (d:=(some 57)) (cs:=[vI U]) (T:=3) (v:=fun k=> .slice (some ⟨k,0,none⟩) 1 1) f g (fun b=>by kernel_rfl) fun k q t l u=>tv ?_))
    have g:=l.ownBox (T:=Ty.int) (E:=3) (n:=1) (xs:=[U]) (i:=0) rfl (Rows.cons (c:=[vI U]) rfl rfl) rfl (by decide)
    obtain ⟨y,l,p⟩:=bind_some p
    refine p_append (T:=Ty.int) (i:=3) (j:=2) (d:=some 58) (o2:=(some ⟨k,0,none⟩)) (c2:=1) (ys:=([U])) el76 g u rfl (by kernel_rfl) (g.ownSrc (j:=0) rfl) l fun k l o q t g=>tv (c_z [] [1,2,6,9,10,11] g .nil fun o g=>n_block (n_then (⟨z6,y,Y,y7,k,l,e3,q3,v3,v4,v5,v6,v7,v8,v9,a0,a1,z,g.to,(St.drop 2 t),(SliceR.mono z af),(Ty.mono _ z a4),p⟩)))
   have p:=cond_f m F
   refine c_reg (c_n 1 [sL e6 y9 q6,a6,a7,a8,a9,aa,ab,ac,ad,ae] [1,2,6,9,10,11,59] x (.cell (f.bx 0 0 rfl rfl) (.cell (f.bx 0 1 rfl rfl) (.cell (f.bx 0 2 rfl rfl) (.cell (f.bx 0 3 rfl rfl) (.cell (f.bx 0 4 rfl rfl) (.cell (f.bx 0 5 rfl rfl) (.cell (f.bx 0 6 rfl rfl) (.cell (f.bx 0 7 rfl rfl) (.cell (f.bx 0 8 rfl rfl) (.cell (f.bx 0 9 rfl rfl) .nil)))))))))) fun g k=>?_)
   have g:=oneCells_of (Ty.one _ (Ty.mono _ zr A))
   refine p_store_eq (i:=1) (j:=2) (b:=Z) (off:=0) (vs:=[sL e6 y9 q6,a6,a7,a8,a9,aa,ab,ac,ad,ae]) (cs':=[sL e6 y9 q6,a6,a7,a8,a9,aa,ab,ac,ad,ae]) f k rfl (by kernel_rfl) g rfl fun k l f g=>tv (c_done (n_block (n_then (⟨z6,V,y9,ah,W,X,e6,q6,a6,a7,a8,a9,aa,ab,ac,ad,ae,z,g.to,(St.drop 1 f),B,(Ty.mono _ zr A),p⟩))))
  rintro g k ⟨z5,y2,y3,y4,e4,q4,e5,q5,ai,aj,ak,al,am,an,ao,ap,aq,l,f,m,o,q,p⟩
  refine c_q [] [1,2,6,9,10,11] f .nil fun g f=>n_then (⟨n1,Nat.lt_succ_self n1,z5,y2,y3,y4,(w64 (U + (1:Int))),e4,q4,e5,q5,ai,aj,ak,al,am,an,ao,ap,aq,(zt k5 l),f.to,m,o,(Ty.mono _ zr q),p⟩)
 have p:=cond_f ar av
 refine c_exit 0 (x_then (x_then (x_block (n_then (c_sr (c_n 2 [sL e3 Y q3,v3,v4,v5,v6,v7,v8,v9,a0,a1] [6,60,61] au (.cell (a3.bx 1 0 rfl rfl) (.cell (a3.bx 1 1 rfl rfl) (.cell (a3.bx 1 2 rfl rfl) (.cell (a3.bx 1 3 rfl rfl) (.cell (a3.bx 1 4 rfl rfl) (.cell (a3.bx 1 5 rfl rfl) (.cell (a3.bx 1 6 rfl rfl) (.cell (a3.bx 1 7 rfl rfl) (.cell (a3.bx 1 8 rfl rfl) (.cell (a3.bx 1 9 rfl rfl) .nil)))))))))) fun f g=>?_))))))
 have f:=oneCells_of (Ty.one _ (Ty.mono _ zr a4))
 refine p_store_eq (i:=2) (j:=3) (b:=b1) (off:=0) (vs:=[sL e3 Y q3,v3,v4,v5,v6,v7,v8,v9,a0,a1]) (cs':=[sL e3 Y q3,v3,v4,v5,v6,v7,v8,v9,a0,a1]) a3 g rfl (by kernel_rfl) f rfl fun g k l f=>tv (c_t [] [6,7,8] f .nil fun f k=>c_ret ?_)
 obtain ⟨l,g,f,m⟩:=l.share (j:=0) rfl
 refine c_rt [sL e3 Y q3,v3,v4,v5,v6,v7,v8,v9,a0,a1] (.tuple #[.agg #[sL e3 Y q3,v3,v4,v5,v6,v7,v8,v9,a0,a1],sL W V X,vI 0]) k (.cell (f.bx 3 0 rfl rfl) (.cell (f.bx 3 1 rfl rfl) (.cell (f.bx 3 2 rfl rfl) (.cell (f.bx 3 3 rfl rfl) (.cell (f.bx 3 4 rfl rfl) (.cell (f.bx 3 5 rfl rfl) (.cell (f.bx 3 6 rfl rfl) (.cell (f.bx 3 7 rfl rfl) (.cell (f.bx 3 8 rfl rfl) (.cell (f.bx 3 9 rfl rfl) .nil)))))))))) ?_
 obtain rfl:=some_eq p
 exact ⟨_,rfl,l,e3,q3,v3,v4,v5,v6,v7,v8,v9,a0,a1,W,X,(zt (zt (zt (zt k2 k3) k4) k5) g),rfl,(St.drop 4 f),(SliceR.mono g af),(Ty.mono _ g a4),m⟩
def F61 (fuel:Nat) (x0:List Deed):Option (List Deed) :=
  ((appC ([]) x0).bind fun d1=>(some (d1)))
set_option maxRecDepth 100000 in
theorem f61_ok (fuel:Nat) (x0:List Deed) (r:List Deed) (hr:F61 fuel x0=some r) (h:Zone) (L:List Atom) (w:World) (hS:St h L w) (o_x0:Option Addr) (c_x0:Nat) (hx_x0:SliceR DeedT h o_x0 c_x0 x0) :
    Calls Tryz.prog 61 #[.slice o_x0 x0.length c_x0] w fun e w'=>∃v,e= .returned v∧(∃h',∃o0:Option Addr,∃c0:Nat,Zone.le h h'∧v= .slice o0 r.length c0∧St h' (ownS DeedT 74 o0 c0 r::L) w'):=by
 cases o_x0 with
 | none =>
  obtain ⟨c,f⟩:=hx_x0.hnil rfl
  subst c f
  have hr:some ([]:List Deed)=some r:=by simpa [F61,appC] using hr
  refine calls_intro (N:=8) Tryz.func61 (by kernel_rfl) fun a hf=>c_sq [] [0] hf .nil fun l c=>c_seq (c_sq [] [0,4] c .nil fun m f=>(w_if_true f (by kernel_rfl) (c_sq [] [2] f .nil fun p k=>(c_ret (r_then ?_)))))
  have g:=hS.ownNil DeedT 74
  refine c_rt [] (N0) k .nil ?_
  obtain rfl:=some_eq hr
  exact ⟨_,rfl,h,none,0,zr,rfl,(St.pick 1 [0] g (by kernel_rfl))⟩
 | some oa =>
  refine calls_intro (N:=8) Tryz.func61 (by kernel_rfl) fun a hf=>c_sq [] [0] hf .nil fun l c=>c_seq (c_sq [] [0,4] c .nil fun m f=>(w_if_false f (by kernel_rfl) (c_skip (n_then (c_sr (p_box (i:=0) (d:=(some 5)) (cs:=[]) (T:=74) (v:=fun c=> .slice (some ⟨c,0,none⟩) 0 0) hS f (fun b=>by kernel_rfl) fun c f p g k=>tv ?_))))))
  have c:=g.ownBox (T:=DeedT) (E:=74) (n:=0) (xs:=[]) (i:=0) rfl rfl rfl (by decide)
  refine c_n 1 [] [5,6] k .nil fun f g=>?_
  obtain ⟨k,f,o⟩:=bind_some hr
  refine p_append (T:=DeedT) (i:=2) (j:=0) (d:=some 7) (o2:=(some oa)) (c2:=c_x0) (ys:=x0) el23 c g rfl (by kernel_rfl) (SliceR.src hx_x0 c) f fun f g l m p c=>tv (c_t [] [2] c .nil fun l c=>c_ret (c_rt [] (sL f k g) c .nil ?_))
  obtain rfl:=some_eq o
  exact ⟨_,rfl,h,f,g,zr,rfl,(St.pick 1 [0] p (by kernel_rfl))⟩
def F87_l1 (x0:List Part) (x1:List Part):Nat→Int→Option (Bool)
  | 0,_=>none
  | n1 + 1,y1 =>
    let k1:Int→Option (Bool):=F87_l1 x0 x1 n1
    (cond (decide (y1<(x0.length:Int))) ((getI x0 y1).bind fun p1=>((getI x1 y1).bind fun p2=>(cond (!((p1.lot == p2.lot) && ((p1.mass == p2.mass) && true))) (some (false)) (k1 (w64 (y1 + (1:Int))))))) (some (true)))
def F87 (fuel:Nat) (x0:List Part) (x1:List Part):Option (Bool) :=
  (cond ((x0.length:Int) != (x1.length:Int)) (some (false)) (F87_l1 x0 x1 fuel 0))
set_option maxRecDepth 100000 in
theorem f87_ok (fuel:Nat) (x0:List Part) (x1:List Part) (r:Bool) (hr:F87 fuel x0 x1=some r) (h:Zone) (L:List Atom) (w:World) (hS:St h L w) (o_x0:Option Addr) (c_x0:Nat) (hx_x0:SliceR PartT h o_x0 c_x0 x0) (o_x1:Option Addr) (c_x1:Nat) (hx_x1:SliceR PartT h o_x1 c_x1 x1) :
    Calls Tryz.prog 87 #[.slice o_x0 x0.length c_x0, .slice o_x1 x1.length c_x1] w fun e w'=>∃v,e= .returned v∧(∃h',Zone.le h h'∧v= .bool r∧St h' L w'):=by
 refine calls_intro (N:=26) Tryz.func87 (by kernel_rfl) fun a hf=>c_sq [] [0,1] hf .nil fun c b=>c_seq (c_sq [] [0,1,10] b .nil fun b d=>(c_if ((x0.length:Int) != (x1.length:Int)) d (fun c=>?_) (fun c=>?_)))
 ·have f:=cond_t c hr
  refine c_sq [] [4] d .nil fun g b=>c_ret (r_then (c_rt [] (.bool false) b .nil ?_))
  obtain rfl:=some_eq f
  exact ⟨_,rfl,h,zr,rfl,hS⟩
 have f:=cond_f c hr
 refine c_skip (n_then (c_seq (c_sq [] [0,1,12,13] d .nil fun c b=>(c_block 0 (c_loop (fun n a w=>∃t:Zone,∃u:Int,Zone.le h t∧Fr a 26 [(0,sL o_x0 x0 c_x0),(1,sL o_x1 x1 c_x1),(12,vI (x0.length:Int)),(13,vI u)]∧St t (L) w∧(F87_l1 x0 x1 n u)=some r) fuel ⟨h,0,zr,b.to,hS,f⟩ ?_)))))
 rintro b c d ⟨t,u,y,g,D,B⟩
 cases b with
 | zero=>cases B
 | succ C =>
 refine c_sq [] [0,1,12,13,14] g .nil fun b A=>c_seq (c_if (decide (u<(x0.length:Int))) A (fun z=>?_) (fun z=>?_))
 ·have f:=cond_t z B
  refine c_skip (n_then (c_seq (c_block 1 (c_sq [] [0,1,5,12,13] A .nil fun b x=>?_))))
  have l:=D.drew
  obtain ⟨d,b,f⟩:=bind_some f
  obtain ⟨m,o,p,b,rfl,g⟩:=SliceR.getI (SliceR.mono y hx_x0) b
  obtain ⟨b,c,s⟩:=bind_some f
  obtain ⟨i,j,k,q,rfl,c⟩:=SliceR.getI (SliceR.mono y hx_x1) c
  refine c_sqD [(0,true),(1,true),(2,true),(3,true),(4,true),(5,true),(6,true),(7,true),(8,true)] [] [.pointer (some m),vI d.lot,vI d.mass, .pointer (some i),vI b.lot,vI b.mass] [0,1,12,13,24] x (.prop o (.prop p (.cell (l.cell (g 0 _ rfl)) (.cell (l.cell (g 1 _ rfl)) (.prop j (.prop k (.cell (l.cell (c 0 _ rfl)) (.cell (l.cell (c 1 _ rfl)) .nil)))))))) .nil fun c g=>c_if (!((d.lot == b.lot) && ((d.mass == b.mass) && true))) g (fun c=>?_) (fun c=>?_)
  ·have f:=cond_t c s
   refine c_sq [] [4] g .nil fun d b=>c_ret (r_block (r_then (r_then (r_block (r_then (c_rt [] (.bool false) b .nil ?_))))))
   obtain rfl:=some_eq f
   exact ⟨_,rfl,t,y,rfl,l⟩
  have f:=cond_f c s
  refine c_skip (n_block (n_then (c_q [] [0,1,12,13] g .nil fun c b=>(n_then (⟨C,Nat.lt_succ_self C,t,(w64 (u + (1:Int))),y,b.to,l,f⟩)))))
 have f:=cond_f z B
 refine c_exit 0 (x_then (x_then (x_block (n_then (c_sq [] [4] A .nil fun c b=>(c_ret (c_rt [] (.bool true) b .nil ?_)))))))
 obtain rfl:=some_eq f
 exact ⟨_,rfl,t,y,rfl,D⟩
def F86 (fuel:Nat) (x0:List Part) (x1:List Part):Option (Bool) :=
  ((F87 fuel x0 x1).bind fun r1=>(some (r1)))
set_option maxRecDepth 100000 in
theorem f86_ok (fuel:Nat) (x0:List Part) (x1:List Part) (r:Bool) (hr:F86 fuel x0 x1=some r) (h:Zone) (L:List Atom) (w:World) (hS:St h L w) (o_x0:Option Addr) (c_x0:Nat) (hx_x0:SliceR PartT h o_x0 c_x0 x0) (o_x1:Option Addr) (c_x1:Nat) (hx_x1:SliceR PartT h o_x1 c_x1 x1) :
    Calls Tryz.prog 86 #[.agg #[.slice o_x0 x0.length c_x0], .agg #[.slice o_x1 x1.length c_x1]] w fun e w'=>∃v,e= .returned v∧(∃h',Zone.le h h'∧v= .bool r∧St h' L w'):=by
 refine calls_intro (N:=10) Tryz.func86 (by kernel_rfl) fun a hf=>c_sr (c_box [sL o_x0 x0 c_x0] 49 hS hf fun j k l c d=>tv (c_box [sL o_x1 x1 c_x1] 49 c d fun m n o b f=>tv (c_t [] [2,3] f .nil fun p g=>(c_sr (c_n 4 [sL o_x0 x0 c_x0,sL o_x1 x1 c_x1] [6,8] g (.cell (b.bx 1 0 rfl rfl) (.cell (b.bx 0 0 rfl rfl) .nil)) fun q i=>?_)))))
 obtain ⟨d,c,s⟩:=bind_some hr
 refine c_call i (f87_ok fuel x0 x1 d c h _ _ b o_x0 c_x0 hx_x0 o_x1 c_x1 hx_x1) ?_
 rintro c f g ⟨i,j,rfl,k⟩ b
 refine tv (c_t [] [4] b .nil fun c b=>c_ret (c_rt [] (.bool d) b .nil ?_))
 obtain rfl:=some_eq s
 exact ⟨_,rfl,i,j,rfl,(St.drop 2 k)⟩
def F88_l1 (x0:List Lot) (x1:List Lot):Nat→Int→Option (Bool)
  | 0,_=>none
  | n1 + 1,y1 =>
    let k1:Int→Option (Bool):=F88_l1 x0 x1 n1
    (cond (decide (y1<(x0.length:Int))) ((getI x0 y1).bind fun p1=>((getI x1 y1).bind fun p2=>(cond (!((p1.id == p2.id) && ((p1.owner == p2.owner) && ((p1.grade == p2.grade) && ((p1.wet == p2.wet) && true))))) (some (false)) (k1 (w64 (y1 + (1:Int))))))) (some (true)))
def F88 (fuel:Nat) (x0:List Lot) (x1:List Lot):Option (Bool) :=
  (cond ((x0.length:Int) != (x1.length:Int)) (some (false)) (F88_l1 x0 x1 fuel 0))
set_option maxRecDepth 100000 in
theorem f88_ok (fuel:Nat) (x0:List Lot) (x1:List Lot) (r:Bool) (hr:F88 fuel x0 x1=some r) (h:Zone) (L:List Atom) (w:World) (hS:St h L w) (o_x0:Option Addr) (c_x0:Nat) (hx_x0:SliceR LotT h o_x0 c_x0 x0) (o_x1:Option Addr) (c_x1:Nat) (hx_x1:SliceR LotT h o_x1 c_x1 x1) :
    Calls Tryz.prog 88 #[.slice o_x0 x0.length c_x0, .slice o_x1 x1.length c_x1] w fun e w'=>∃v,e= .returned v∧(∃h',Zone.le h h'∧v= .bool r∧St h' L w'):=by
 refine calls_intro (N:=26) Tryz.func88 (by kernel_rfl) fun a hf=>c_sq [] [0,1] hf .nil fun c b=>c_seq (c_sq [] [0,1,10] b .nil fun b d=>(c_if ((x0.length:Int) != (x1.length:Int)) d (fun c=>?_) (fun c=>?_)))
 ·have i:=cond_t c hr
  refine c_sq [] [4] d .nil fun f b=>c_ret (r_then (c_rt [] (.bool false) b .nil ?_))
  obtain rfl:=some_eq i
  exact ⟨_,rfl,h,zr,rfl,hS⟩
 have i:=cond_f c hr
 refine c_skip (n_then (c_seq (c_sq [] [0,1,12,13] d .nil fun c b=>(c_block 0 (c_loop (fun n a w=>∃t:Zone,∃u:Int,Zone.le h t∧Fr a 26 [(0,sL o_x0 x0 c_x0),(1,sL o_x1 x1 c_x1),(12,vI (x0.length:Int)),(13,vI u)]∧St t (L) w∧(F88_l1 x0 x1 n u)=some r) fuel ⟨h,0,zr,b.to,hS,i⟩ ?_)))))
 rintro b c d ⟨t,u,y,f,D,B⟩
 cases b with
 | zero=>cases B
 | succ C =>
 refine c_sq [] [0,1,12,13,14] f .nil fun b A=>c_seq (c_if (decide (u<(x0.length:Int))) A (fun z=>?_) (fun z=>?_))
 ·have i:=cond_t z B
  refine c_skip (n_then (c_seq (c_block 1 (c_sq [] [0,1,5,12,13] A .nil fun b x=>?_))))
  have g:=D.drew
  obtain ⟨d,b,i⟩:=bind_some i
  obtain ⟨m,o,p,b,rfl,f⟩:=SliceR.getI (SliceR.mono y hx_x0) b
  obtain ⟨b,c,s⟩:=bind_some i
  obtain ⟨j,k,l,q,rfl,c⟩:=SliceR.getI (SliceR.mono y hx_x1) c
  refine c_sqD [(0,true),(1,true),(2,true),(3,true),(4,true),(5,true),(6,true),(7,true),(8,true)] [] [.pointer (some m),vI d.id,vI d.owner,vI d.grade,vI d.wet, .pointer (some j),vI b.id,vI b.owner,vI b.grade,vI b.wet] [0,1,12,13,24] x (.prop o (.prop p (.cell (g.cell (f 0 _ rfl)) (.cell (g.cell (f 1 _ rfl)) (.cell (g.cell (f 2 _ rfl)) (.cell (g.cell (f 3 _ rfl)) (.prop k (.prop l (.cell (g.cell (c 0 _ rfl)) (.cell (g.cell (c 1 _ rfl)) (.cell (g.cell (c 2 _ rfl)) (.cell (g.cell (c 3 _ rfl)) .nil)))))))))))) .nil fun c f=>c_if (!((d.id == b.id) && ((d.owner == b.owner) && ((d.grade == b.grade) && ((d.wet == b.wet) && true))))) f (fun c=>?_) (fun c=>?_)
  ·have i:=cond_t c s
   refine c_sq [] [4] f .nil fun d b=>c_ret (r_block (r_then (r_then (r_block (r_then (c_rt [] (.bool false) b .nil ?_))))))
   obtain rfl:=some_eq i
   exact ⟨_,rfl,t,y,rfl,g⟩
  have i:=cond_f c s
  refine c_skip (n_block (n_then (c_q [] [0,1,12,13] f .nil fun c b=>(n_then (⟨C,Nat.lt_succ_self C,t,(w64 (u + (1:Int))),y,b.to,g,i⟩)))))
 have i:=cond_f z B
 refine c_exit 0 (x_then (x_then (x_block (n_then (c_sq [] [4] A .nil fun c b=>(c_ret (c_rt [] (.bool true) b .nil ?_)))))))
 obtain rfl:=some_eq i
 exact ⟨_,rfl,t,y,rfl,D⟩
def F62_j1 (k1:Int→Option (Bool)) (y1:Int) (y2:Bool):Option (Bool) :=
  (cond (!y2) (some (false)) (k1 (w64 (y1 + (1:Int)))))
def F62_l2 (fuel:Nat) (k1:Int→Option (Bool)) (y1:Int) (p1:List (List Part)) (p2:List (List Part)):Nat→Int→Option (Bool)
  | 0,_=>none
  | n1 + 1,y3 =>
    let k2:Int→Option (Bool):=F62_l2 fuel k1 y1 p1 p2 n1
    (cond (decide (y3<(p1.length:Int))) ((getI p1 y3).bind fun p3=>((getI p2 y3).bind fun p4=>((F86 fuel p3 p4).bind fun r1=>(cond (!r1) (F62_j1 k1 y1 false) (k2 (w64 (y3 + (1:Int)))))))) (F62_j1 k1 y1 true))
def F62_l1 (fuel:Nat) (x0l:List Lot) (x0h:List (List (List Part))) (x1l:List Lot) (x1h:List (List (List Part))):Nat→Int→Option (Bool)
  | 0,_=>none
  | n2 + 1,y1 =>
    let k1:Int→Option (Bool):=F62_l1 fuel x0l x0h x1l x1h n2
    (cond (decide (y1<(9:Int))) ((getI x0h y1).bind fun p1=>((getI x1h y1).bind fun p2=>(cond ((p1.length:Int) != (p2.length:Int)) (F62_j1 k1 y1 false) (F62_l2 fuel k1 y1 p1 p2 fuel 0)))) ((F88 fuel x0l x1l).bind fun r2=>(some (r2))))
def F62 (fuel:Nat) (x0l:List Lot) (x0h:List (List (List Part))) (x1l:List Lot) (x1h:List (List (List Part))):Option (Bool) :=
  (F62_l1 fuel x0l x0h x1l x1h fuel 0)
set_option maxRecDepth 100000 in
theorem f62_ok (fuel:Nat) (x0l:List Lot) (x0h:List (List (List Part))) (x1l:List Lot) (x1h:List (List (List Part))) (r:Bool) (hr:F62 fuel x0l x0h x1l x1h=some r) (h:Zone) (L:List Atom) (w:World) (hS:St h L w) (o_x0l:Option Addr) (c_x0l:Nat) (hx_x0l:SliceR LotT h o_x0l c_x0l x0l) (V00 V01 V02 V03 V04 V05 V06 V07 V08:Value) (hx_x0h:(Ty.arr 9 (Ty.slice (Ty.slice PartT))).rep h [V00,V01,V02,V03,V04,V05,V06,V07,V08] x0h) (o_x1l:Option Addr) (c_x1l:Nat) (hx_x1l:SliceR LotT h o_x1l c_x1l x1l) (V10 V11 V12 V13 V14 V15 V16 V17 V18:Value) (hx_x1h:(Ty.arr 9 (Ty.slice (Ty.slice PartT))).rep h [V10,V11,V12,V13,V14,V15,V16,V17,V18] x1h) :
    Calls Tryz.prog 62 #[.agg #[.slice o_x0l x0l.length c_x0l,V00,V01,V02,V03,V04,V05,V06,V07,V08], .agg #[.slice o_x1l x1l.length c_x1l,V10,V11,V12,V13,V14,V15,V16,V17,V18]] w fun e w'=>∃v,e= .returned v∧(∃h',Zone.le h h'∧v= .bool r∧St h' L w'):=by
 refine calls_intro (N:=25) Tryz.func62 (by kernel_rfl) fun a hf=>c_sr (c_box [sL o_x0l x0l c_x0l,V00,V01,V02,V03,V04,V05,V06,V07,V08] 29 hS hf fun M m o b c=>tv (c_box [sL o_x1l x1l c_x1l,V10,V11,V12,V13,V14,V15,V16,V17,V18] 29 b c fun O p q d g=>tv (c_t [] [2,3] g .nil fun s j=>(c_seq (c_sq [] [2,3,6] j .nil fun t k=>(c_block 0 (c_loop (fun n a w=>∃I:Zone,∃D:Int,Zone.le h I∧Fr a 25 [(2,pB M 0),(3,pB O 0),(6,vI D)]∧St I (box O [sL o_x1l x1l c_x1l,V10,V11,V12,V13,V14,V15,V16,V17,V18] 29::box M [sL o_x0l x0l c_x0l,V00,V01,V02,V03,V04,V05,V06,V07,V08] 29::L) w∧(F62_l1 fuel x0l x0h x1l x1h n D)=some r) fuel ⟨h,0,zr,k.to,d,hr⟩ ?_)))))))
 rintro b c g ⟨I,D,Q,d,T,W⟩
 cases b with
 | zero=>cases W
 | succ S =>
 refine c_sq [] [2,3,6,7] d .nil fun b V=>c_seq (c_if (decide (D<(9:Int))) V (fun U=>?_) (fun U=>?_))
 ·have l:=cond_t U W
  refine c_skip (n_then (c_seq (c_block 1 (c_sq [] [2,3,5,6] V .nil fun b t=>(c_seq ?_)))))
  have p:=T.drew
  refine c_regD (rD 10 [8]) [8] (fun x=>x=g.drew) rfl ?_
  obtain ⟨k,b,l⟩:=bind_some l
  obtain ⟨d,_,j,q,s,hehv39334,u⟩:=arrGet (Ty.mono _ Q hx_x0h) rfl b
  obtain rfl:=List.head_eq_of_cons_eq hehv39334
  obtain ⟨g,b,y⟩:=bind_some l
  obtain ⟨b,_,c,m,o,hehv39344,z⟩:=arrGet (Ty.mono _ Q hx_x1h) rfl b
  obtain rfl:=List.head_eq_of_cons_eq hehv39344
  refine c_E 8 [sL q k s,sL m g o] [2,3,6,12,16] t (.prop d (.cell ((arrAddr M 1 D.toNat) ▸ (p.box (i:=1) rfl (getElem?_app_right [sL o_x0l x0l c_x0l] _ _ j []))) (.prop b (.cell ((arrAddr O 1 D.toNat) ▸ (p.box (i:=0) rfl (getElem?_app_right [sL o_x1l x1l c_x1l] _ _ c []))) .nil)))) .nil fun c b=>?_
  refine c_call (f:=85) (args:= #[sL q k s,sL m g o, .func (.func 86) #[] #[]]) (Φ:=fun v w=>∃P:Zone,∃H:Bool,Zone.le I P∧v= .bool H∧St P (box O [sL o_x1l x1l c_x1l,V10,V11,V12,V13,V14,V15,V16,V17,V18] 29::box M [sL o_x0l x0l c_x0l,V00,V01,V02,V03,V04,V05,V06,V07,V08] 29::L) w∧(F62_j1 (F62_l1 fuel x0l x0h x1l x1h S) D H)=some r) b ?_ ?_
  ·refine calls_intro (N:=32) Tryz.func85 (by kernel_rfl) fun c b=>c_sq [] [0,1,2] b .nil fun c b=>c_seq (c_sq [] [0,1,2,14] b .nil fun c d=>(c_if ((k.length:Int) != (g.length:Int)) d (fun b=>?_) (fun b=>?_)))
   ·have l:=cond_t b y
    refine c_sq [] [6] d .nil fun j c=>c_ret (r_then (c_rt [] (.bool false) c .nil (⟨_,rfl,I,false,zr,rfl,p,l⟩)))
   have l:=cond_f b y
   refine c_skip (n_then (c_seq (c_sq [] [1,2,15,16,17] d .nil fun c b=>(c_block 0 (c_loop (fun n a w=>∃C:Zone,∃A:Int,Zone.le I C∧Fr a 32 [(1,sL m g o),(2, .func (.func 86) #[] #[]),(15,sL q k s),(16,vI (k.length:Int)),(17,vI A)]∧St C (box O [sL o_x1l x1l c_x1l,V10,V11,V12,V13,V14,V15,V16,V17,V18] 29::box M [sL o_x0l x0l c_x0l,V00,V01,V02,V03,V04,V05,V06,V07,V08] 29::L) w∧(F62_l2 fuel (F62_l1 fuel x0l x0h x1l x1h S) D k g n A)=some r) fuel ⟨I,0,zr,b.to,p,l⟩ ?_)))))
   rintro b c d ⟨C,A,B,g,K,J⟩
   cases b with
   | zero=>cases J
   | succ R =>
   refine c_sq [] [1,2,15,16,17,18] g .nil fun b G=>c_seq (c_if (decide (A<(k.length:Int))) G (fun E=>?_) (fun E=>?_))
   ·have l:=cond_t E J
    refine c_skip (n_then (c_seq (c_block 1 (c_sr ?_))))
    obtain ⟨t,b,l⟩:=bind_some l
    obtain ⟨c,d,g,k,b,j⟩:=SliceR.getI (SliceR.mono B u) b
    obtain ⟨q,s,rfl,F⟩:=b
    refine c_n 3 [.pointer (some c),sL q t s] [1,2,15,16,17,19,21] G (.prop d (.prop g (.cell (K.cell (j 0 _ rfl)) .nil))) fun c b=>c_box [N0] 49 K b fun d g j c b=>tv (c_n 1 [] [1,2,7,8,15,16,17,21] b .nil fun d b=>c_st 0 [sL q t s] c b rfl fun b c p u=>tv (c_dt (c_sr ?_)))
    obtain ⟨j,b,l⟩:=bind_some l
    obtain ⟨g,k,m,c,b,o⟩:=SliceR.getI (SliceR.mono B z) b
    obtain ⟨c,d,rfl,z⟩:=b
    refine c_n 4 [.pointer (some g),sL c j d] [1,2,8,15,16,17,25] u (.prop k (.prop m (.cell (p.cell (o 0 _ rfl)) .nil))) fun g b=>c_box [N0] 49 p b fun k m o b g=>tv (c_st 0 [sL c j d] b g rfl fun k m b g=>tv (c_dt (c_sr (c_n 3 [sL q t s,sL c j d] [1,2,15,16,17,26,27,28] g (.cell (b.bx 1 0 rfl rfl) (.cell (b.bx 0 0 rfl rfl) .nil)) fun g k=>?_))))
    obtain ⟨m,g,y⟩:=bind_some l
    refine c_call k (f86_ok fuel t j m g C _ _ b q s F c d z) ?_
    rintro c d g ⟨j,k,rfl,o⟩ b
    refine tv (c_t [] [1,2,15,16,17,30] b .nil fun b d=>c_if (!m) d (fun b=>?_) (fun b=>?_))
    ·have l:=cond_t b y
     refine c_sq [] [6] d .nil fun g c=>c_ret (r_block (r_then (r_then (r_block (r_then (c_rt [] (.bool false) c .nil (⟨_,rfl,j,false,(zt B k),rfl,(St.drop 2 o),l⟩)))))))
    have l:=cond_f b y
    refine c_skip (n_block (n_then (c_q [] [1,2,15,16,17] d .nil fun c b=>(n_then (⟨R,Nat.lt_succ_self R,j,(w64 (A + (1:Int))),(zt B k),b.to,(St.drop 2 o),l⟩)))))
   have l:=cond_f E J
   refine c_exit 0 (x_then (x_then (x_block (n_then (c_sq [] [6] G .nil fun c b=>(c_ret (c_rt [] (.bool true) b .nil (⟨_,rfl,C,true,B,rfl,K,l⟩))))))))
  rintro c d g ⟨P,H,j,rfl,k,y⟩ b
  refine ⟨fun e=>absurd e (by decide),?_⟩
  refine p_qP 1 [] [(2,pB M 0),(3,pB O 0),(6,vI D),(18, .bool (!H))] [] b (by kernel_rfl) (fun _=> .nil) fun b d=>c_dt (c_if (!H) d (fun c=>?_) (fun c=>?_))
  ·have l:=cond_t c y
   refine c_sq [] [4] d .nil fun g b=>c_ret (r_block (r_then (r_then (r_block (r_then (c_rt [] (.bool false) b .nil ?_))))))
   obtain rfl:=some_eq l
   exact ⟨_,rfl,P,(zt Q j),rfl,(St.drop 2 k)⟩
  have l:=cond_f c y
  refine c_skip (n_block (n_then (c_q [] [2,3,6] d .nil fun c b=>(n_then (⟨S,Nat.lt_succ_self S,P,(w64 (D + (1:Int))),(zt Q j),b.to,k,l⟩)))))
 have l:=cond_f U W
 refine c_exit 0 (x_then (x_then (x_block (n_then (c_sr (c_n 4 [sL o_x0l x0l c_x0l,sL o_x1l x1l c_x1l] [21,23] V (.cell (T.bx 1 0 rfl rfl) (.cell (T.bx 0 0 rfl rfl) .nil)) fun b c=>?_))))))
 obtain ⟨d,b,l⟩:=bind_some l
 refine c_call c (f88_ok fuel x0l x1l d b I _ _ T o_x0l c_x0l (SliceR.mono Q hx_x0l) o_x1l c_x1l (SliceR.mono Q hx_x1l)) ?_
 rintro c g j ⟨k,m,rfl,o⟩ b
 refine tv (c_t [] [4] b .nil fun c b=>c_ret (c_rt [] (.bool d) b .nil ?_))
 obtain rfl:=some_eq l
 exact ⟨_,rfl,k,(zt Q m),rfl,(St.drop 2 o)⟩
def F26_j1 (y1:Bool):Option (Bool×Int) :=
  (some (y1,0))
def F26 (fuel:Nat) (x0:List Lot) (x1:List Deed) (x2:Int):Option (Bool×Int) :=
  ((F6 fuel x0 x1).bind fun r1=>(cond (r1.2.2.2 != (0:Int)) (some (false,r1.2.2.2)) ((F48 fuel x2 0 (w64 ((x1.length:Int) - (2:Int)))).bind fun r2=>(cond (!r2) (some (false,1)) ((F61 fuel x1).bind fun r3=>((getI r3 (w64 (x2 + (1:Int)))).bind fun p1=>((getI r3 x2).bind fun p2=>((getI r3 x2).bind fun p3=>((setI r3 x2 (⟨p1.kind,p1.lot,p1.frm,p1.to,p1.mass⟩:Deed)).bind fun d1=>((getI d1 (w64 (x2 + (1:Int)))).bind fun p4=>((setI d1 (w64 (x2 + (1:Int))) (⟨p2.kind,p2.lot,p2.frm,p2.to,p2.mass⟩:Deed)).bind fun d2=>((F6 fuel x0 d2).bind fun r4=>(cond (r4.2.2.2 == (0:Int)) ((F62 fuel r1.1 r1.2.1 r4.1 r4.2.1).bind fun r5=>(F26_j1 r5)) (F26_j1 false))))))))))))))
set_option maxRecDepth 100000 in
theorem f26_ok (fuel:Nat) (x0:List Lot) (x1:List Deed) (x2:Int) (r:Bool×Int) (hr:F26 fuel x0 x1 x2=some r) (h:Zone) (L:List Atom) (w:World) (hS:St h L w) (o_x0:Option Addr) (c_x0:Nat) (hx_x0:SliceR LotT h o_x0 c_x0 x0) (o_x1:Option Addr) (c_x1:Nat) (hx_x1:SliceR DeedT h o_x1 c_x1 x1) :
    Calls Tryz.prog 26 #[.slice o_x0 x0.length c_x0, .slice o_x1 x1.length c_x1,vI x2] w fun e w'=>∃v,e= .returned v∧(∃h',Zone.le h h'∧v= .tuple #[.bool r.1,vI r.2]∧St h' L w'):=by
 refine calls_intro (N:=61) Tryz.func26 (by kernel_rfl) fun a hf=>c_sq [] [0,1,2] hf .nil fun d c=>c_sr (c_n 2 [] [0,1,2,14,15] c .nil fun c d=>?_)
 obtain ⟨K,c,E⟩:=bind_some hr
 refine c_call d (f6_ok fuel x0 x1 K c h _ _ hS o_x0 c_x0 hx_x0 o_x1 c_x1 hx_x1) ?_
 rintro d f g ⟨l,R,S,T,U,V,W,X,Y,Z,v9,a0,k1,rfl,k,a2,a1⟩ c
 refine tv (c_n 4 [] [0,1,2,17,18,19] c .nil fun d c=>c_box [N0,N0,N0,N0,N0,N0,N0,N0,N0,N0] 29 k c fun P c g d f=>tv ?_)
 have c:=oneCells_of (Ty.one _ (Ty.mono _ zr a1))
 refine p_store_eq (i:=8) (j:=0) (b:=P) (off:=0) (vs:=[sL R K.1 S,T,U,V,W,X,Y,Z,v9,a0]) (cs':=[sL R K.1 S,T,U,V,W,X,Y,Z,v9,a0]) d f rfl (by kernel_rfl) c rfl fun d f k c=>tv (c_t [] [0,1,2,8,10] c .nil fun d c=>c_seq (c_sq [] [0,1,2,8,10,21] c .nil fun c f=>(c_if (K.2.2.2 != (0:Int)) f (fun d=>?_) (fun d=>?_))))
 ·have n:=cond_t d E
  refine c_sq [] [6,7] f .nil fun g c=>c_ret (r_then (c_rt [] (.tuple #[.bool false,vI K.2.2.2]) c .nil ?_))
  obtain rfl:=some_eq n
  exact ⟨_,rfl,l,k1,rfl,(St.drop 1 k)⟩
 have n:=cond_f d E
 refine c_skip (n_then (c_seq (c_sr (c_n 4 [] [0,1,2,8,23,26] f .nil fun c d=>?_))))
 obtain ⟨f,c,E⟩:=bind_some n
 refine c_call d (f48_ok fuel x2 0 (w64 ((x1.length:Int) - (2:Int))) f c l _ _ k ) ?_
 rintro d g k ⟨l,O,rfl,m⟩ c
 refine tv (c_t [] [0,1,2,8,28] c .nil fun c g=>c_if (!f) g (fun d=>?_) (fun d=>?_))
 ·have n:=cond_t d E
  refine c_sq [] [6,7] g .nil fun f c=>c_ret (r_then (c_rt [] (.tuple #[.bool false,vI 1]) c .nil ?_))
  obtain rfl:=some_eq n
  exact ⟨_,rfl,l,(zt k1 O),rfl,(St.drop 1 m)⟩
 have n:=cond_f d E
 refine c_skip (n_then (c_sr (c_n 1 [] [0,2,8,29] g .nil fun c f=>?_)))
 obtain ⟨c,d,n⟩:=bind_some n
 refine c_call f (f61_ok fuel x1 c d l _ _ m o_x1 c_x1 (SliceR.mono (zt k1 O) hx_x1)) ?_
 rintro d l f ⟨g,C,D,Q,rfl,k⟩ c
 refine tv (c_t [] [0,1,2,8] c .nil fun c F=>c_seq ?_)
 have p:=k.drew
 refine c_regD (rD 18 [15,17]) [15,17] (fun x=>x=l.drew) rfl ?_
 obtain ⟨d,c,n⟩:=bind_some n
 obtain ⟨z,A,B,c,rfl,g⟩:=p.ownGet (j:=0) rfl c
 obtain ⟨c,f,n⟩:=bind_some n
 obtain ⟨q,s,t,k,rfl,f⟩:=p.ownGet (j:=0) rfl f
 obtain ⟨k,o,n⟩:=bind_some n
 obtain ⟨k,m,l,u,rfl,y⟩:=p.ownGet (j:=0) rfl o
 refine c_E 15 [.pointer (some z),vI d.kind,vI d.lot,vI d.frm,vI d.to,vI d.mass, .pointer (some q),vI c.kind,vI c.lot,vI c.frm,vI c.to,vI c.mass, .pointer (some k)] [0,1,8,33,35,40,44,45] F (.prop A (.prop B (.cell (g 0 _ rfl) (.cell (g 1 _ rfl) (.cell (g 2 _ rfl) (.cell (g 3 _ rfl) (.cell (g 4 _ rfl) (.prop s (.prop t (.cell (f 0 _ rfl) (.cell (f 1 _ rfl) (.cell (f 2 _ rfl) (.cell (f 3 _ rfl) (.cell (f 4 _ rfl) (.prop m (.prop l .nil)))))))))))))))) .nil fun f q=>?_
 obtain ⟨g,f,n⟩:=bind_some n
 have l:=setI_len f
 refine p_setOwn (i:=15) (j:=0) (ad:=k) (ix:=x2) (off:=0) (vs:=[vI d.kind,vI d.lot,vI d.frm,vI d.to,vI d.mass]) (x':=(⟨d.kind,d.lot,d.frm,d.to,d.mass⟩:Deed)) p q rfl m o (by kernel_rfl) (by kernel_rfl) rfl f fun m o q f=>?_
 have p:=Fr.conv (fl':=[(0,sL o_x0 x0 c_x0),(1,sL C g D),(8,pB P 0),(33,sL C g D),(35,vI (w64 (x2 + (1:Int)))),(40, .agg #[vI d.kind,vI d.lot,vI d.frm,vI d.to,vI d.mass]),(44, .agg #[vI c.kind,vI c.lot,vI c.frm,vI c.to,vI c.mass]),(45, .pointer (some (k.add (Int.toNat x2 * 5))))]) f (by (try unfold sL); rw [l] <;> kernel_rfl)
 refine ⟨fun e=>absurd e (by decide),?_⟩
 obtain ⟨d,l,n⟩:=bind_some n
 obtain ⟨d,k,f,m,rfl,o⟩:=q.ownGet (j:=0) rfl l
 refine p_qP 1 [.pointer (some d)] [(0,sL o_x0 x0 c_x0),(1,sL C g D),(8,pB P 0),(44, .agg #[vI c.kind,vI c.lot,vI c.frm,vI c.to,vI c.mass]),(46, .pointer (some (d.add (Int.toNat (w64 (x2 + (1:Int))) * 5))))] [.prop (C=some d), .prop (0≤(w64 (x2 + (1:Int)))∧(w64 (x2 + (1:Int)))<(g.length:Nat))] p (by kernel_rfl) (fun _=>(.prop k (.prop f .nil))) fun f m=>?_
 obtain ⟨o,f,n⟩:=bind_some n
 have g:=setI_len f
 refine p_setOwn (i:=17) (j:=0) (ad:=d) (ix:=(w64 (x2 + (1:Int)))) (off:=0) (vs:=[vI c.kind,vI c.lot,vI c.frm,vI c.to,vI c.mass]) (x':=(⟨c.kind,c.lot,c.frm,c.to,c.mass⟩:Deed)) q m rfl k l (by kernel_rfl) (by kernel_rfl) rfl f fun k l m f=>?_
 have c:=Fr.conv (fl':=[(0,sL o_x0 x0 c_x0),(1,sL C o D),(8,pB P 0),(44, .agg #[vI c.kind,vI c.lot,vI c.frm,vI c.to,vI c.mass]),(46, .pointer (some (d.add (Int.toNat (w64 (x2 + (1:Int))) * 5))))]) f (by (try unfold sL); rw [g] <;> kernel_rfl)
 refine ⟨fun e=>absurd e (by decide),?_⟩
 refine c_dt (c_sr (c_n 2 [] [8,48,49] c .nil fun c l=>?_))
 obtain ⟨d,I,g,k⟩:=m.share (j:=0) rfl
 obtain ⟨f,c,E⟩:=bind_some n
 refine c_call l (f6_ok fuel x0 o f c d _ _ g o_x0 c_x0 (SliceR.mono (zt (zt (zt k1 O) Q) I) hx_x0) C D k) ?_
 rintro d g k ⟨H,m,o,p,q,s,t,u,y,z,A,B,J,rfl,l,M,G⟩ c
 refine tv (c_n 4 [] [8,51,52,53] c .nil fun d c=>c_box [N0,N0,N0,N0,N0,N0,N0,N0,N0,N0] 29 l c fun g c l d k=>tv ?_)
 have c:=oneCells_of (Ty.one _ (Ty.mono _ zr G))
 refine p_store_eq (i:=8) (j:=0) (b:=g) (off:=0) (vs:=[sL m f.1 o,p,q,s,t,u,y,z,A,B]) (cs':=[sL m f.1 o,p,q,s,t,u,y,z,A,B]) d k rfl (by kernel_rfl) c rfl fun k l c d=>tv (c_t [] [8,10,11] d .nil fun d k=>c_mid (fun a w=>∃D:Zone,∃C:Bool,Zone.le H D∧Fr a 61 [(6, .bool C),(7,vI 0)]∧St D (box g [sL m f.1 o,p,q,s,t,u,y,z,A,B] 29::emp::box P [sL R K.1 S,T,U,V,W,X,Y,Z,v9,a0] 29::L) w∧(F26_j1 C)=some r) ?_ ?_)
 ·skip
  refine c_reg (c_n 3 [] [8,11,56] k .nil fun d F=>?_)
  rcases bft (f.2.2.2 == (0:Int)) with g | g
  ·have n:=cond_t g E
   have d:=F.lit 56 g
   refine c_n 2 [sL R K.1 S,T,U,V,W,X,Y,Z,v9,a0,sL m f.1 o,p,q,s,t,u,y,z,A,B] [56,57,58] d (.cell (c.bx 2 0 rfl rfl) (.cell (c.bx 2 1 rfl rfl) (.cell (c.bx 2 2 rfl rfl) (.cell (c.bx 2 3 rfl rfl) (.cell (c.bx 2 4 rfl rfl) (.cell (c.bx 2 5 rfl rfl) (.cell (c.bx 2 6 rfl rfl) (.cell (c.bx 2 7 rfl rfl) (.cell (c.bx 2 8 rfl rfl) (.cell (c.bx 2 9 rfl rfl) (.cell (c.bx 0 0 rfl rfl) (.cell (c.bx 0 1 rfl rfl) (.cell (c.bx 0 2 rfl rfl) (.cell (c.bx 0 3 rfl rfl) (.cell (c.bx 0 4 rfl rfl) (.cell (c.bx 0 5 rfl rfl) (.cell (c.bx 0 6 rfl rfl) (.cell (c.bx 0 7 rfl rfl) (.cell (c.bx 0 8 rfl rfl) (.cell (c.bx 0 9 rfl rfl) .nil)))))))))))))))))))) fun d k=>?_
   obtain ⟨l,d,n⟩:=bind_some n
   refine c_call k (f62_ok fuel K.1 K.2.1 f.1 f.2.1 l d H _ _ c R S (SliceR.mono (zt (zt (zt O Q) I) J) a2) T U V W X Y Z v9 a0 (Ty.mono _ (zt (zt (zt O Q) I) J) a1) m o M p q s t u y z A B (Ty.mono _ zr G)) ?_
   rintro f k m ⟨o,p,rfl,q⟩ d
   refine tv (c_t [] [6,7] d .nil fun f d=>⟨o,l,p,d.to,q,n⟩)
  have n:=cond_f g E
  have d:=F.lit 56 g
  refine c_t [] [6,7] d .nil fun f d=>⟨H,false,zr,d.to,c,n⟩
 rintro d f ⟨D,C,g,c,k,n⟩
 refine c_ret (c_rt [] (.tuple #[.bool C,vI 0]) c .nil ?_)
 obtain rfl:=some_eq n
 exact ⟨_,rfl,D,(zt (zt (zt (zt (zt k1 O) Q) I) J) g),rfl,(St.drop 3 k)⟩
def F7_j1 (k1:(List Lot)→(List (List (List Part)))→Int→Option (List Lot×List (List (List Part))×Int×Int)) (y1:Int) (y2:Int) (y3:List Lot) (y4:List (List (List Part))):Option (List Lot×List (List (List Part))×Int×Int) :=
  (cond (y2 != (0:Int)) (some ([],[[],[],[],[],[],[],[],[],[]],y1,y2)) (k1 y3 y4 (w64 (y1 + (1:Int)))))
def F7_l1 (fuel:Nat) (x1:List Deed):Nat→(List Lot)→(List (List (List Part)))→Int→Option (List Lot×List (List (List Part))×Int×Int)
  | 0,_,_,_=>none
  | n1 + 1,y5,y6,y1 =>
    let k1:(List Lot)→(List (List (List Part)))→Int→Option (List Lot×List (List (List Part))×Int×Int):=F7_l1 fuel x1 n1
    (cond (decide (y1<(x1.length:Int))) ((getI x1 y1).bind fun p1=>((F22 fuel y5 y6 p1.kind p1.lot p1.frm p1.to p1.mass).bind fun r1=>(F7_j1 k1 y1 r1.2.2.2 r1.1 r1.2.1))) (some (y5,y6,(x1.length:Int),0)))
def F7 (fuel:Nat) (x0:List Lot) (x1:List Deed):Option (List Lot×List (List (List Part))×Int×Int) :=
  ((F21 fuel x0).bind fun r2=>(cond (r2 != (0:Int)) (some ([],[[],[],[],[],[],[],[],[],[]],0,60)) (cond (decide ((x1.length:Int) > (60:Int))) (some ([],[[],[],[],[],[],[],[],[],[]],0,2)) ((appC ([]) x0).bind fun d1=>(F7_l1 fuel x1 fuel d1 ([[],[],[],[],[],[],[],[],[]]) 0)))))
set_option maxRecDepth 100000 in
theorem f7_ok (fuel:Nat) (x0:List Lot) (x1:List Deed) (r:List Lot×List (List (List Part))×Int×Int) (hr:F7 fuel x0 x1=some r) (h:Zone) (L:List Atom) (w:World) (hS:St h L w) (o_x0:Option Addr) (c_x0:Nat) (hx_x0:SliceR LotT h o_x0 c_x0 x0) (o_x1:Option Addr) (c_x1:Nat) (hx_x1:SliceR DeedT h o_x1 c_x1 x1) :
    Calls Tryz.prog 7 #[.slice o_x0 x0.length c_x0, .slice o_x1 x1.length c_x1] w fun e w'=>∃v,e= .returned v∧(∃h',∃o0:Option Addr,∃c0:Nat,∃v1_0:Value,∃v1_1:Value,∃v1_2:Value,∃v1_3:Value,∃v1_4:Value,∃v1_5:Value,∃v1_6:Value,∃v1_7:Value,∃v1_8:Value,Zone.le h h'∧v= .tuple #[.agg #[.slice o0 r.1.length c0,v1_0,v1_1,v1_2,v1_3,v1_4,v1_5,v1_6,v1_7,v1_8],vI r.2.2.1,vI r.2.2.2]∧St h' L w'∧SliceR LotT h' o0 c0 r.1∧(Ty.arr 9 (Ty.slice (Ty.slice PartT))).rep h' [v1_0,v1_1,v1_2,v1_3,v1_4,v1_5,v1_6,v1_7,v1_8] r.2.1):=by
 refine calls_intro (N:=49) Tryz.func7 (by kernel_rfl) fun a hf=>c_sr (c_box [N0,N0,N0,N0,N0,N0,N0,N0,N0,N0] 29 hS hf fun b1 m o k f=>tv (c_t [] [0,1,4] f .nil fun p g=>(c_seq (c_sr (c_n 1 [] [0,1,4,12] g .nil fun t l=>?_)))))
 obtain ⟨g,f,F⟩:=bind_some hr
 refine c_call l (f21_ok fuel x0 g f h _ _ k o_x0 c_x0 hx_x0) ?_
 rintro k l m ⟨z,k2,rfl,y⟩ f
 refine tv (c_t [] [0,1,4,14] f .nil fun f o=>c_if (g != (0:Int)) o (fun m=>?_) (fun m=>?_))
 ·have q:=cond_t m F
  refine c_sr (c_n 1 [] [4,15] o .nil fun p g=>(c_st 0 [N0,N0,N0,N0,N0,N0,N0,N0,N0,N0] y g rfl fun t u f k=>tv (c_t [] [4,5,6] k .nil fun x l=>(c_ret (r_then (c_rt [N0,N0,N0,N0,N0,N0,N0,N0,N0,N0] (.tuple #[.agg #[N0,N0,N0,N0,N0,N0,N0,N0,N0,N0],vI 0,vI 60]) l (.cell (f.bx 0 0 rfl rfl) (.cell (f.bx 0 1 rfl rfl) (.cell (f.bx 0 2 rfl rfl) (.cell (f.bx 0 3 rfl rfl) (.cell (f.bx 0 4 rfl rfl) (.cell (f.bx 0 5 rfl rfl) (.cell (f.bx 0 6 rfl rfl) (.cell (f.bx 0 7 rfl rfl) (.cell (f.bx 0 8 rfl rfl) (.cell (f.bx 0 9 rfl rfl) .nil)))))))))) ?_))))))
  obtain rfl:=some_eq q
  exact ⟨_,rfl,z,none,0,N0,N0,N0,N0,N0,N0,N0,N0,N0,k2,rfl,(St.drop 1 f),SliceR.nil' _ _,⟨rfl,(Rows.cons (c:=[_]) (sliceRep (SliceR.nil' _ _)) (Rows.cons (c:=[_]) (sliceRep (SliceR.nil' _ _)) (Rows.cons (c:=[_]) (sliceRep (SliceR.nil' _ _)) (Rows.cons (c:=[_]) (sliceRep (SliceR.nil' _ _)) (Rows.cons (c:=[_]) (sliceRep (SliceR.nil' _ _)) (Rows.cons (c:=[_]) (sliceRep (SliceR.nil' _ _)) (Rows.cons (c:=[_]) (sliceRep (SliceR.nil' _ _)) (Rows.cons (c:=[_]) (sliceRep (SliceR.nil' _ _)) (Rows.cons (c:=[_]) (sliceRep (SliceR.nil' _ _)) rfl)))))))))⟩⟩
 have F:=cond_f m F
 refine c_skip (n_then (c_seq (c_sq [] [0,1,4,18] o .nil fun f o=>(c_if (decide ((x1.length:Int) > (60:Int))) o (fun m=>?_) (fun m=>?_)))))
 ·have q:=cond_t m F
  refine c_sr (c_n 1 [] [4,19] o .nil fun p g=>(c_st 0 [N0,N0,N0,N0,N0,N0,N0,N0,N0,N0] y g rfl fun t u f k=>tv (c_t [] [4,5,6] k .nil fun x l=>(c_ret (r_then (c_rt [N0,N0,N0,N0,N0,N0,N0,N0,N0,N0] (.tuple #[.agg #[N0,N0,N0,N0,N0,N0,N0,N0,N0,N0],vI 0,vI 2]) l (.cell (f.bx 0 0 rfl rfl) (.cell (f.bx 0 1 rfl rfl) (.cell (f.bx 0 2 rfl rfl) (.cell (f.bx 0 3 rfl rfl) (.cell (f.bx 0 4 rfl rfl) (.cell (f.bx 0 5 rfl rfl) (.cell (f.bx 0 6 rfl rfl) (.cell (f.bx 0 7 rfl rfl) (.cell (f.bx 0 8 rfl rfl) (.cell (f.bx 0 9 rfl rfl) .nil)))))))))) ?_))))))
  obtain rfl:=some_eq q
  exact ⟨_,rfl,z,none,0,N0,N0,N0,N0,N0,N0,N0,N0,N0,k2,rfl,(St.drop 1 f),SliceR.nil' _ _,⟨rfl,(Rows.cons (c:=[_]) (sliceRep (SliceR.nil' _ _)) (Rows.cons (c:=[_]) (sliceRep (SliceR.nil' _ _)) (Rows.cons (c:=[_]) (sliceRep (SliceR.nil' _ _)) (Rows.cons (c:=[_]) (sliceRep (SliceR.nil' _ _)) (Rows.cons (c:=[_]) (sliceRep (SliceR.nil' _ _)) (Rows.cons (c:=[_]) (sliceRep (SliceR.nil' _ _)) (Rows.cons (c:=[_]) (sliceRep (SliceR.nil' _ _)) (Rows.cons (c:=[_]) (sliceRep (SliceR.nil' _ _)) (Rows.cons (c:=[_]) (sliceRep (SliceR.nil' _ _)) rfl)))))))))⟩⟩
 have q:=cond_f m F
 refine c_skip (n_then (c_sr (p_box (i:=0) (d:=(some 20)) (cs:=[]) (T:=43) (v:=fun f=> .slice (some ⟨f,0,none⟩) 0 0) y o (fun b=>by kernel_rfl) fun f l m g k=>tv ?_)))
 have f:=g.ownBox (T:=LotT) (E:=43) (n:=0) (xs:=[]) (i:=0) rfl rfl rfl (by decide)
 refine c_n 1 [] [1,4,20,21] k .nil fun g k=>?_
 obtain ⟨p,g,q⟩:=bind_some q
 refine p_append (T:=LotT) (i:=2) (j:=0) (d:=some 22) (o2:=o_x0) (c2:=c_x0) (ys:=x0) el22 f k rfl (by kernel_rfl) (SliceR.src (SliceR.mono k2 hx_x0) f) g fun m o k l g f=>tv (c_n 1 [] [1,4,23] f .nil fun k f=>c_box [N0,N0,N0,N0,N0,N0,N0,N0,N0,N0] 29 g f fun V k l f g=>tv (c_st 0 [sL m p o,N0,N0,N0,N0,N0,N0,N0,N0,N0] f g rfl fun k l g f=>tv (c_dt (c_seq (c_sq [] [1,4,7,8] f .nil fun f l=>(c_block 0 ?_))))))
 obtain ⟨f,k3,g,k⟩:=g.share (j:=1) rfl
 refine c_loop (fun n a w=>∃z3:Zone,∃W:List Lot,∃y6:List (List (List Part)),∃U:Int,∃X:Option Addr,∃Y:Nat,∃Z:Value,∃v3:Value,∃v4:Value,∃v5:Value,∃v6:Value,∃v7:Value,∃v8:Value,∃v9:Value,∃a0:Value,Zone.le f z3∧Fr a 49 [(1,sL o_x1 x1 c_x1),(4,pB b1 0),(7,pB V 0),(8,vI U)]∧St z3 (box V [sL X W Y,Z,v3,v4,v5,v6,v7,v8,v9,a0] 29::emp::box b1 [N0,N0,N0,N0,N0,N0,N0,N0,N0,N0] 29::L) w∧SliceR LotT z3 X Y W∧(Ty.arr 9 (Ty.slice (Ty.slice PartT))).rep z3 [Z,v3,v4,v5,v6,v7,v8,v9,a0] y6∧(F7_l1 fuel x1 n W y6 U)=some r) fuel ⟨f,p,[[],[],[],[],[],[],[],[],[]],0,m,o,(N0),(N0),(N0),(N0),(N0),(N0),(N0),(N0),(N0),zr,l.to,g,k,⟨rfl,(Rows.cons (c:=[_]) (sliceRep (SliceR.nil' _ _)) (Rows.cons (c:=[_]) (sliceRep (SliceR.nil' _ _)) (Rows.cons (c:=[_]) (sliceRep (SliceR.nil' _ _)) (Rows.cons (c:=[_]) (sliceRep (SliceR.nil' _ _)) (Rows.cons (c:=[_]) (sliceRep (SliceR.nil' _ _)) (Rows.cons (c:=[_]) (sliceRep (SliceR.nil' _ _)) (Rows.cons (c:=[_]) (sliceRep (SliceR.nil' _ _)) (Rows.cons (c:=[_]) (sliceRep (SliceR.nil' _ _)) (Rows.cons (c:=[_]) (sliceRep (SliceR.nil' _ _)) rfl)))))))))⟩,q⟩ ?_
 rintro f g k ⟨z3,W,y6,U,X,Y,Z,v3,v4,v5,v6,v7,v8,v9,a0,k4,l,a2,af,ad,ai⟩
 cases f with
 | zero=>cases ai
 | succ n1 =>
 refine c_seq (c_sq [] [1,4,7,8,27] l .nil fun f ah=>(c_if (decide (U<(x1.length:Int))) ah (fun ag=>?_) (fun ag=>?_)))
 ·have q:=cond_t ag ai
  refine c_skip (n_then (c_seq (c_block 1 (c_mid (fun a w=>∃z4:Zone,∃y2:Int,∃y3:List Lot,∃y4:List (List (List Part)),∃b4:Nat,∃e3:Option Addr,∃q3:Nat,∃a3:Value,∃a4:Value,∃a5:Value,∃a6:Value,∃a7:Value,∃a8:Value,∃a9:Value,∃aa:Value,∃ab:Value,Zone.le z3 z4∧Fr a 49 [(1,sL o_x1 x1 c_x1),(4,pB b1 0),(7,pB V 0),(8,vI U),(9,pB b4 0),(11,vI y2)]∧St z4 (box b4 [sL e3 y3 q3,a3,a4,a5,a6,a7,a8,a9,aa,ab] 29::box V [sL X W Y,Z,v3,v4,v5,v6,v7,v8,v9,a0] 29::emp::box b1 [N0,N0,N0,N0,N0,N0,N0,N0,N0,N0] 29::L) w∧SliceR LotT z4 e3 q3 y3∧(Ty.arr 9 (Ty.slice (Ty.slice PartT))).rep z4 [a3,a4,a5,a6,a7,a8,a9,aa,ab] y4∧(F7_j1 (F7_l1 fuel x1 n1) U y2 y3 y4)=some r) ?_ ?_))))
  ·skip
   have ac:=a2.drew
   have m:=Sub.of zr ac
   refine w_regB (by kernel_rfl) [5,12,13] (Sub z3 (box V [sL X W Y,Z,v3,v4,v5,v6,v7,v8,v9,a0] 29::emp::box b1 [N0,N0,N0,N0,N0,N0,N0,N0,N0,N0] 29::L)) (by kernel_rfl) (k_seg' 10 [(0,true),(1,true),(2,true),(3,true),(4,true)] (by kernel_rfl) (by kernel_rfl) (At.start m) (by kernel_rfl) ?_)
   obtain ⟨M,f,F⟩:=bind_some q
   obtain ⟨g,k,l,o,rfl,f⟩:=SliceR.getI (SliceR.mono (zt (zt k2 k3) k4) hx_x1) f
   refine c_S 5 [sL X W Y,Z,v3,v4,v5,v6,v7,v8,v9,a0, .pointer (some g),vI M.kind,vI M.lot,vI M.frm,vI M.to,vI M.mass] [1,4,7,8,31,35] m ah (fun _ s=>(.cell (s.bx 0 0 rfl rfl) (.cell (s.bx 0 1 rfl rfl) (.cell (s.bx 0 2 rfl rfl) (.cell (s.bx 0 3 rfl rfl) (.cell (s.bx 0 4 rfl rfl) (.cell (s.bx 0 5 rfl rfl) (.cell (s.bx 0 6 rfl rfl) (.cell (s.bx 0 7 rfl rfl) (.cell (s.bx 0 8 rfl rfl) (.cell (s.bx 0 9 rfl rfl) (.prop k (.prop l (.cell (s.cell (f 0 _ rfl)) (.cell (s.cell (f 1 _ rfl)) (.cell (s.cell (f 2 _ rfl)) (.cell (s.cell (f 3 _ rfl)) (.cell (s.cell (f 4 _ rfl)) .nil)))))))))))))))))) .nil fun f ae=>c_done ?_
   intro f
   refine k_any' 9 [5,10,11] (by kernel_rfl) f (by kernel_rfl) (by kernel_rfl) ((all_cons ?_ (all_cons ?_ (all_cons ?_ all_nil))))
   ·skip
    obtain ⟨k,f,q⟩:=bind_some F
    refine c_call ae (f22_ok fuel W y6 M.kind M.lot M.frm M.to M.mass k f z3 _ _ ac X Y af Z v3 v4 v5 v6 v7 v8 v9 a0 (Ty.mono _ zr ad)) ?_
    rintro f g l ⟨R,u,x,y,z,A,B,C,D,G,H,I,O,P,t,rfl,Q,S,K,m⟩ o
    refine ⟨fun e=>absurd e (by decide),?_⟩
    refine c_done ?_
    intro f
    refine k_seg' 5 [(6,true),(7,true),(8,true),(9,true)] (by kernel_rfl) (by kernel_rfl) f (by kernel_rfl) (p_qP 4 [] [(1,sL o_x1 x1 c_x1),(4,pB b1 0),(7,pB V 0),(8,vI U),(37, .agg #[sL u k.1 x,y,z,A,B,C,D,G,H,I]),(38, .agg #[sL O k.2.2.1 P]),(39,vI k.2.2.2)] [] o (by kernel_rfl) (fun _=> .nil) fun f J=>c_done ?_)
    intro f
    refine k_any' 4 [10,11] (by kernel_rfl) f (by kernel_rfl) (by kernel_rfl) ((all_cons ?_ (all_cons ?_ all_nil)))
    ·skip
     refine c_box [N0,N0,N0,N0,N0,N0,N0,N0,N0,N0] 29 Q J fun p f l g m=>⟨fun _=>Sub.of t (St.drop 1 g),?_⟩
     refine c_done ?_
     intro f
     refine k_seg' 0 [(11,false),(12,false),(13,false),(14,true)] (by kernel_rfl) (by kernel_rfl) f (by kernel_rfl) (c_box [N0] 49 g m fun g l m f o=>⟨fun _=>Sub.of t (St.drop 2 f),?_⟩)
     have g:=Sub.of t (St.drop 2 f)
     have g:=oneCells_of (Ty.one _ (Ty.mono _ zr K))
     refine p_store_eq (i:=12) (j:=1) (b:=p) (off:=0) (vs:=[sL u k.1 x,y,z,A,B,C,D,G,H,I]) (cs':=[sL u k.1 x,y,z,A,B,C,D,G,H,I]) f o rfl (by kernel_rfl) g rfl fun l m f g=>⟨fun e=>absurd e (by decide),?_⟩
     refine c_st 0 [sL O k.2.2.1 P] f g rfl fun g l m f=>⟨fun e=>absurd e (by decide),?_⟩
     refine p_qP 1 [] [(1,sL o_x1 x1 c_x1),(4,pB b1 0),(7,pB V 0),(8,vI U),(9,pB p 0),(11,vI k.2.2.2)] [] f (by kernel_rfl) (fun _=> .nil) fun f g=>c_done ?_
     intro f
     refine k_done' (by kernel_rfl) (by kernel_rfl) (n_then (⟨R,k.2.2.2,k.1,k.2.1,p,u,x,y,z,A,B,C,D,G,H,I,t,g.to,(St.pick 2 [1] m (by kernel_rfl)),S,(Ty.mono _ zr K),q⟩))
    skip
    refine c_box [N0] 49 Q J fun f l m g o=>⟨fun _=>Sub.of t (St.drop 1 g),?_⟩
    refine c_done ?_
    intro f
    refine k_seg' 0 [(10,false),(12,false),(13,false),(14,true)] (by kernel_rfl) (by kernel_rfl) f (by kernel_rfl) (c_box [N0,N0,N0,N0,N0,N0,N0,N0,N0,N0] 29 g o fun o g l f m=>⟨fun _=>Sub.of t (St.drop 2 f),?_⟩)
    have g:=Sub.of t (St.drop 2 f)
    have g:=oneCells_of (Ty.one _ (Ty.mono _ zr K))
    refine p_store_eq (i:=12) (j:=0) (b:=o) (off:=0) (vs:=[sL u k.1 x,y,z,A,B,C,D,G,H,I]) (cs':=[sL u k.1 x,y,z,A,B,C,D,G,H,I]) f m rfl (by kernel_rfl) g rfl fun l m f g=>⟨fun e=>absurd e (by decide),?_⟩
    refine c_st 1 [sL O k.2.2.1 P] f g rfl fun g l m f=>⟨fun e=>absurd e (by decide),?_⟩
    refine p_qP 1 [] [(1,sL o_x1 x1 c_x1),(4,pB b1 0),(7,pB V 0),(8,vI U),(9,pB o 0),(11,vI k.2.2.2)] [] f (by kernel_rfl) (fun _=> .nil) fun f g=>c_done ?_
    intro f
    refine k_done' (by kernel_rfl) (by kernel_rfl) (n_then (⟨R,k.2.2.2,k.1,k.2.1,o,u,x,y,z,A,B,C,D,G,H,I,t,g.to,(St.pick 2 [0] m (by kernel_rfl)),S,(Ty.mono _ zr K),q⟩))
   ·skip
    refine c_box [N0,N0,N0,N0,N0,N0,N0,N0,N0,N0] 29 ac ae fun O f g Q a1=>⟨fun _=>Sub.of zr (St.drop 1 Q),?_⟩
    refine c_done ?_
    intro f
    have g:=Sub.of zr (St.drop 1 Q)
    refine k_seg' 9 [] (by kernel_rfl) (by kernel_rfl) f (by kernel_rfl) (c_done ?_)
    intro f
    refine k_any' 8 [5,11] (by kernel_rfl) f (by kernel_rfl) (by kernel_rfl) ((all_cons ?_ (all_cons ?_ all_nil)))
    ·skip
     obtain ⟨g,f,q⟩:=bind_some F
     refine c_call a1 (f22_ok fuel W y6 M.kind M.lot M.frm M.to M.mass g f z3 _ _ Q X Y af Z v3 v4 v5 v6 v7 v8 v9 a0 (Ty.mono _ zr ad)) ?_
     rintro f k l ⟨R,p,t,u,x,y,z,A,B,C,D,G,H,I,K,rfl,J,S,P,m⟩ o
     refine ⟨fun e=>absurd e (by decide),?_⟩
     refine c_done ?_
     intro f
     refine k_seg' 0 [(6,true),(7,true),(8,true),(9,true),(11,false),(12,false),(13,false),(14,true)] (by kernel_rfl) (by kernel_rfl) f (by kernel_rfl) (p_qP 4 [] [(1,sL o_x1 x1 c_x1),(4,pB b1 0),(7,pB V 0),(8,vI U),(9,pB O 0),(37, .agg #[sL p g.1 t,u,x,y,z,A,B,C,D,G]),(38, .agg #[sL H g.2.2.1 I]),(39,vI g.2.2.2)] [] o (by kernel_rfl) (fun _=> .nil) fun k f=>c_box [N0] 49 J f fun k l m f o=>⟨fun _=>Sub.of K (St.drop 2 f),?_⟩)
     have k:=Sub.of K (St.drop 2 f)
     have k:=oneCells_of (Ty.one _ (Ty.mono _ zr P))
     refine p_store_eq (i:=12) (j:=1) (b:=O) (off:=0) (vs:=[sL p g.1 t,u,x,y,z,A,B,C,D,G]) (cs':=[sL p g.1 t,u,x,y,z,A,B,C,D,G]) f o rfl (by kernel_rfl) k rfl fun l m f k=>⟨fun e=>absurd e (by decide),?_⟩
     refine c_st 0 [sL H g.2.2.1 I] f k rfl fun k l m f=>⟨fun e=>absurd e (by decide),?_⟩
     refine p_qP 1 [] [(1,sL o_x1 x1 c_x1),(4,pB b1 0),(7,pB V 0),(8,vI U),(9,pB O 0),(11,vI g.2.2.2)] [] f (by kernel_rfl) (fun _=> .nil) fun f k=>c_done ?_
     intro f
     refine k_done' (by kernel_rfl) (by kernel_rfl) (n_then (⟨R,g.2.2.2,g.1,g.2.1,O,p,t,u,x,y,z,A,B,C,D,G,K,k.to,(St.pick 2 [1] m (by kernel_rfl)),S,(Ty.mono _ zr P),q⟩))
    skip
    refine c_box [N0] 49 Q a1 fun P f g k l=>⟨fun _=>Sub.of zr (St.drop 2 k),?_⟩
    refine c_done ?_
    intro f
    have g:=Sub.of zr (St.drop 2 k)
    refine k_seg' 0 [(5,false),(6,true),(7,true),(8,true),(9,true),(12,false),(13,false),(14,true)] (by kernel_rfl) (by kernel_rfl) f (by kernel_rfl) ?_
    obtain ⟨f,g,q⟩:=bind_some F
    refine c_call l (f22_ok fuel W y6 M.kind M.lot M.frm M.to M.mass f g z3 _ _ k X Y af Z v3 v4 v5 v6 v7 v8 v9 a0 (Ty.mono _ zr ad)) ?_
    rintro k G H ⟨Q,o,p,t,u,x,y,z,A,B,C,D,l,m,R,rfl,J,S,K,I⟩ g
    refine ⟨fun e=>absurd e (by decide),?_⟩
    refine p_qP 4 [] [(1,sL o_x1 x1 c_x1),(4,pB b1 0),(7,pB V 0),(8,vI U),(9,pB O 0),(10,pB P 0),(37, .agg #[sL o f.1 p,t,u,x,y,z,A,B,C,D]),(38, .agg #[sL l f.2.2.1 m]),(39,vI f.2.2.2)] [] g (by kernel_rfl) (fun _=> .nil) fun g k=>?_
    have g:=oneCells_of (Ty.one _ (Ty.mono _ zr K))
    refine p_store_eq (i:=12) (j:=1) (b:=O) (off:=0) (vs:=[sL o f.1 p,t,u,x,y,z,A,B,C,D]) (cs':=[sL o f.1 p,t,u,x,y,z,A,B,C,D]) J k rfl (by kernel_rfl) g rfl fun G H g k=>⟨fun e=>absurd e (by decide),?_⟩
    refine c_st 0 [sL l f.2.2.1 m] g k rfl fun k l m g=>⟨fun e=>absurd e (by decide),?_⟩
    refine p_qP 1 [] [(1,sL o_x1 x1 c_x1),(4,pB b1 0),(7,pB V 0),(8,vI U),(9,pB O 0),(11,vI f.2.2.2)] [] g (by kernel_rfl) (fun _=> .nil) fun g k=>c_done ?_
    intro g
    refine k_done' (by kernel_rfl) (by kernel_rfl) (n_then (⟨Q,f.2.2.2,f.1,f.2.1,O,o,p,t,u,x,y,z,A,B,C,D,R,k.to,(St.pick 2 [1] m (by kernel_rfl)),S,(Ty.mono _ zr K),q⟩))
   skip
   refine c_box [N0] 49 ac ae fun a1 f g P S=>⟨fun _=>Sub.of zr (St.drop 1 P),?_⟩
   refine c_done ?_
   intro f
   have g:=Sub.of zr (St.drop 1 P)
   refine k_seg' 9 [] (by kernel_rfl) (by kernel_rfl) f (by kernel_rfl) (c_done ?_)
   intro f
   refine k_any' 8 [5,10] (by kernel_rfl) f (by kernel_rfl) (by kernel_rfl) ((all_cons ?_ (all_cons ?_ all_nil)))
   ·skip
    obtain ⟨g,f,q⟩:=bind_some F
    refine c_call S (f22_ok fuel W y6 M.kind M.lot M.frm M.to M.mass g f z3 _ _ P X Y af Z v3 v4 v5 v6 v7 v8 v9 a0 (Ty.mono _ zr ad)) ?_
    rintro f k l ⟨Q,p,t,u,x,y,z,A,B,C,D,G,H,I,K,rfl,J,R,O,m⟩ o
    refine ⟨fun e=>absurd e (by decide),?_⟩
    refine c_done ?_
    intro f
    refine k_seg' 0 [(6,true),(7,true),(8,true),(9,true),(10,false),(12,false),(13,false),(14,true)] (by kernel_rfl) (by kernel_rfl) f (by kernel_rfl) (p_qP 4 [] [(1,sL o_x1 x1 c_x1),(4,pB b1 0),(7,pB V 0),(8,vI U),(10,pB a1 0),(37, .agg #[sL p g.1 t,u,x,y,z,A,B,C,D,G]),(38, .agg #[sL H g.2.2.1 I]),(39,vI g.2.2.2)] [] o (by kernel_rfl) (fun _=> .nil) fun k f=>c_box [N0,N0,N0,N0,N0,N0,N0,N0,N0,N0] 29 J f fun o k l f m=>⟨fun _=>Sub.of K (St.drop 2 f),?_⟩)
    have k:=Sub.of K (St.drop 2 f)
    have k:=oneCells_of (Ty.one _ (Ty.mono _ zr O))
    refine p_store_eq (i:=12) (j:=0) (b:=o) (off:=0) (vs:=[sL p g.1 t,u,x,y,z,A,B,C,D,G]) (cs':=[sL p g.1 t,u,x,y,z,A,B,C,D,G]) f m rfl (by kernel_rfl) k rfl fun l m f k=>⟨fun e=>absurd e (by decide),?_⟩
    refine c_st 1 [sL H g.2.2.1 I] f k rfl fun k l m f=>⟨fun e=>absurd e (by decide),?_⟩
    refine p_qP 1 [] [(1,sL o_x1 x1 c_x1),(4,pB b1 0),(7,pB V 0),(8,vI U),(9,pB o 0),(11,vI g.2.2.2)] [] f (by kernel_rfl) (fun _=> .nil) fun f k=>c_done ?_
    intro f
    refine k_done' (by kernel_rfl) (by kernel_rfl) (n_then (⟨Q,g.2.2.2,g.1,g.2.1,o,p,t,u,x,y,z,A,B,C,D,G,K,k.to,(St.pick 2 [0] m (by kernel_rfl)),R,(Ty.mono _ zr O),q⟩))
   skip
   refine c_box [N0,N0,N0,N0,N0,N0,N0,N0,N0,N0] 29 P S fun K f g k l=>⟨fun _=>Sub.of zr (St.drop 2 k),?_⟩
   refine c_done ?_
   intro f
   have g:=Sub.of zr (St.drop 2 k)
   refine k_seg' 0 [(5,false),(6,true),(7,true),(8,true),(9,true),(12,false),(13,false),(14,true)] (by kernel_rfl) (by kernel_rfl) f (by kernel_rfl) ?_
   obtain ⟨f,g,q⟩:=bind_some F
   refine c_call l (f22_ok fuel W y6 M.kind M.lot M.frm M.to M.mass f g z3 _ _ k X Y af Z v3 v4 v5 v6 v7 v8 v9 a0 (Ty.mono _ zr ad)) ?_
   rintro k G H ⟨O,o,p,t,u,x,y,z,A,B,C,D,l,m,P,rfl,J,Q,M,I⟩ g
   refine ⟨fun e=>absurd e (by decide),?_⟩
   refine p_qP 4 [] [(1,sL o_x1 x1 c_x1),(4,pB b1 0),(7,pB V 0),(8,vI U),(9,pB K 0),(10,pB a1 0),(37, .agg #[sL o f.1 p,t,u,x,y,z,A,B,C,D]),(38, .agg #[sL l f.2.2.1 m]),(39,vI f.2.2.2)] [] g (by kernel_rfl) (fun _=> .nil) fun g k=>?_
   have g:=oneCells_of (Ty.one _ (Ty.mono _ zr M))
   refine p_store_eq (i:=12) (j:=0) (b:=K) (off:=0) (vs:=[sL o f.1 p,t,u,x,y,z,A,B,C,D]) (cs':=[sL o f.1 p,t,u,x,y,z,A,B,C,D]) J k rfl (by kernel_rfl) g rfl fun G H g k=>⟨fun e=>absurd e (by decide),?_⟩
   refine c_st 1 [sL l f.2.2.1 m] g k rfl fun k l m g=>⟨fun e=>absurd e (by decide),?_⟩
   refine p_qP 1 [] [(1,sL o_x1 x1 c_x1),(4,pB b1 0),(7,pB V 0),(8,vI U),(9,pB K 0),(11,vI f.2.2.2)] [] g (by kernel_rfl) (fun _=> .nil) fun g k=>c_done ?_
   intro g
   refine k_done' (by kernel_rfl) (by kernel_rfl) (n_then (⟨O,f.2.2.2,f.1,f.2.1,K,o,p,t,u,x,y,z,A,B,C,D,P,k.to,(St.pick 2 [0] m (by kernel_rfl)),Q,(Ty.mono _ zr M),q⟩))
  rintro k l ⟨z4,y2,y3,y4,b4,e3,q3,a3,a4,a5,a6,a7,a8,a9,aa,ab,z,f,g,B,A,F⟩
  refine c_seq (c_sq [] [1,4,7,8,9,11,41] f .nil fun f p=>(c_if (y2 != (0:Int)) p (fun o=>?_) (fun o=>?_)))
  ·have q:=cond_t o F
   refine c_sr (c_n 3 [] [4,42,43,44] p .nil fun t k=>(c_st 3 [N0,N0,N0,N0,N0,N0,N0,N0,N0,N0] g k rfl fun u x f l=>tv (c_t [] [4,5,6] l .nil fun y m=>(c_ret (r_then (r_block (r_then (r_then (r_block (r_then (c_rt [N0,N0,N0,N0,N0,N0,N0,N0,N0,N0] (.tuple #[.agg #[N0,N0,N0,N0,N0,N0,N0,N0,N0,N0],vI U,vI y2]) m (.cell (f.bx 3 0 rfl rfl) (.cell (f.bx 3 1 rfl rfl) (.cell (f.bx 3 2 rfl rfl) (.cell (f.bx 3 3 rfl rfl) (.cell (f.bx 3 4 rfl rfl) (.cell (f.bx 3 5 rfl rfl) (.cell (f.bx 3 6 rfl rfl) (.cell (f.bx 3 7 rfl rfl) (.cell (f.bx 3 8 rfl rfl) (.cell (f.bx 3 9 rfl rfl) .nil)))))))))) ?_)))))))))))
   obtain rfl:=some_eq q
   exact ⟨_,rfl,z4,none,0,N0,N0,N0,N0,N0,N0,N0,N0,N0,(zt (zt (zt k2 k3) k4) z),rfl,(St.drop 4 f),SliceR.nil' _ _,⟨rfl,(Rows.cons (c:=[_]) (sliceRep (SliceR.nil' _ _)) (Rows.cons (c:=[_]) (sliceRep (SliceR.nil' _ _)) (Rows.cons (c:=[_]) (sliceRep (SliceR.nil' _ _)) (Rows.cons (c:=[_]) (sliceRep (SliceR.nil' _ _)) (Rows.cons (c:=[_]) (sliceRep (SliceR.nil' _ _)) (Rows.cons (c:=[_]) (sliceRep (SliceR.nil' _ _)) (Rows.cons (c:=[_]) (sliceRep (SliceR.nil' _ _)) (Rows.cons (c:=[_]) (sliceRep (SliceR.nil' _ _)) (Rows.cons (c:=[_]) (sliceRep (SliceR.nil' _ _)) rfl)))))))))⟩⟩
  have q:=cond_f o F
  refine c_skip (n_then (c_reg (c_n 1 [sL e3 y3 q3,a3,a4,a5,a6,a7,a8,a9,aa,ab] [1,4,7,8,45] p (.cell (g.bx 0 0 rfl rfl) (.cell (g.bx 0 1 rfl rfl) (.cell (g.bx 0 2 rfl rfl) (.cell (g.bx 0 3 rfl rfl) (.cell (g.bx 0 4 rfl rfl) (.cell (g.bx 0 5 rfl rfl) (.cell (g.bx 0 6 rfl rfl) (.cell (g.bx 0 7 rfl rfl) (.cell (g.bx 0 8 rfl rfl) (.cell (g.bx 0 9 rfl rfl) .nil)))))))))) fun f k=>?_)))
  have f:=oneCells_of (Ty.one _ (Ty.mono _ zr A))
  refine p_store_eq (i:=1) (j:=1) (b:=V) (off:=0) (vs:=[sL e3 y3 q3,a3,a4,a5,a6,a7,a8,a9,aa,ab]) (cs':=[sL e3 y3 q3,a3,a4,a5,a6,a7,a8,a9,aa,ab]) g k rfl (by kernel_rfl) f rfl fun k l g f=>tv (c_done (n_block (n_then (c_q [] [1,4,7,8] f .nil fun k f=>(n_then (⟨n1,Nat.lt_succ_self n1,z4,y3,y4,(w64 (U + (1:Int))),e3,q3,a3,a4,a5,a6,a7,a8,a9,aa,ab,(zt k4 z),f.to,(St.drop 1 g),B,(Ty.mono _ zr A),q⟩))))))
 have q:=cond_f ag ai
 refine c_exit 0 (x_then (x_then (x_block (n_then (c_sr (c_n 3 [sL X W Y,Z,v3,v4,v5,v6,v7,v8,v9,a0] [4,46,48] ah (.cell (a2.bx 0 0 rfl rfl) (.cell (a2.bx 0 1 rfl rfl) (.cell (a2.bx 0 2 rfl rfl) (.cell (a2.bx 0 3 rfl rfl) (.cell (a2.bx 0 4 rfl rfl) (.cell (a2.bx 0 5 rfl rfl) (.cell (a2.bx 0 6 rfl rfl) (.cell (a2.bx 0 7 rfl rfl) (.cell (a2.bx 0 8 rfl rfl) (.cell (a2.bx 0 9 rfl rfl) .nil)))))))))) fun f g=>?_))))))
 have f:=oneCells_of (Ty.one _ (Ty.mono _ zr ad))
 refine p_store_eq (i:=3) (j:=2) (b:=b1) (off:=0) (vs:=[sL X W Y,Z,v3,v4,v5,v6,v7,v8,v9,a0]) (cs':=[sL X W Y,Z,v3,v4,v5,v6,v7,v8,v9,a0]) a2 g rfl (by kernel_rfl) f rfl fun k l f g=>tv (c_t [] [4,5,6] g .nil fun k g=>c_ret (c_rt [sL X W Y,Z,v3,v4,v5,v6,v7,v8,v9,a0] (.tuple #[.agg #[sL X W Y,Z,v3,v4,v5,v6,v7,v8,v9,a0],vI (x1.length:Int),vI 0]) g (.cell (f.bx 2 0 rfl rfl) (.cell (f.bx 2 1 rfl rfl) (.cell (f.bx 2 2 rfl rfl) (.cell (f.bx 2 3 rfl rfl) (.cell (f.bx 2 4 rfl rfl) (.cell (f.bx 2 5 rfl rfl) (.cell (f.bx 2 6 rfl rfl) (.cell (f.bx 2 7 rfl rfl) (.cell (f.bx 2 8 rfl rfl) (.cell (f.bx 2 9 rfl rfl) .nil)))))))))) ?_))
 obtain rfl:=some_eq q
 exact ⟨_,rfl,z3,X,Y,Z,v3,v4,v5,v6,v7,v8,v9,a0,(zt (zt k2 k3) k4),rfl,(St.drop 3 f),af,(Ty.mono _ zr ad)⟩
def F23_l1 (x0:List Part) (x1:List Part):Nat→Int→Option (Bool)
  | 0,_=>none
  | n1 + 1,y1 =>
    let k1:Int→Option (Bool):=F23_l1 x0 x1 n1
    (cond (decide (y1<(x0.length:Int))) ((getI x0 y1).bind fun p1=>((getI x1 y1).bind fun p2=>(cond (!((p1.lot == p2.lot) && ((p1.mass == p2.mass) && true))) (some (false)) (k1 (w64 (y1 + (1:Int))))))) (some (true)))
def F23 (fuel:Nat) (x0:List Part) (x1:List Part):Option (Bool) :=
  (cond ((x0.length:Int) != (x1.length:Int)) (some (false)) (F23_l1 x0 x1 fuel 0))
set_option maxRecDepth 100000 in
theorem f23_ok (fuel:Nat) (x0:List Part) (x1:List Part) (r:Bool) (hr:F23 fuel x0 x1=some r) (h:Zone) (L:List Atom) (w:World) (hS:St h L w) (o_x0:Option Addr) (c_x0:Nat) (hx_x0:SliceR PartT h o_x0 c_x0 x0) (o_x1:Option Addr) (c_x1:Nat) (hx_x1:SliceR PartT h o_x1 c_x1 x1) :
    Calls Tryz.prog 23 #[.agg #[.slice o_x0 x0.length c_x0], .agg #[.slice o_x1 x1.length c_x1]] w fun e w'=>∃v,e= .returned v∧(∃h',Zone.le h h'∧v= .bool r∧St h' L w'):=by
 refine calls_intro (N:=31) Tryz.func23 (by kernel_rfl) fun a hf=>c_sr (c_box [sL o_x0 x0 c_x0] 49 hS hf fun t l m b c=>tv (c_box [sL o_x1 x1 c_x1] 49 b c fun u o p g d=>tv (c_t [] [2,3] d .nil fun q f=>(c_seq (c_sq [sL o_x0 x0 c_x0,sL o_x1 x1 c_x1] [2,3,12] f (.cell (g.bx 1 0 rfl rfl) (.cell (g.bx 0 0 rfl rfl) .nil)) fun s k=>(c_if ((x0.length:Int) != (x1.length:Int)) k (fun j=>?_) (fun j=>?_)))))))
 ·have i:=cond_t j hr
  refine c_sq [] [4] k .nil fun c b=>c_ret (r_then (c_rt [] (.bool false) b .nil ?_))
  obtain rfl:=some_eq i
  exact ⟨_,rfl,h,zr,rfl,(St.drop 2 g)⟩
 have i:=cond_f j hr
 refine c_skip (n_then (c_seq (c_sq [] [2,3,5] k .nil fun c b=>(c_block 0 (c_loop (fun n a w=>∃s:Zone,∃y:Int,Zone.le h s∧Fr a 31 [(2,pB t 0),(3,pB u 0),(5,vI y)]∧St s (box u [sL o_x1 x1 c_x1] 49::box t [sL o_x0 x0 c_x0] 49::L) w∧(F23_l1 x0 x1 n y)=some r) fuel ⟨h,0,zr,b.to,g,i⟩ ?_)))))
 rintro b c d ⟨s,y,t,f,B,A⟩
 cases b with
 | zero=>cases A
 | succ C =>
 refine c_seq (c_sq [sL o_x0 x0 c_x0] [2,3,5,17] f (.cell (B.bx 1 0 rfl rfl) .nil) fun b z=>(c_if (decide (y<(x0.length:Int))) z (fun u=>?_) (fun u=>?_)))
 ·have i:=cond_t u A
  refine c_skip (n_then (c_seq (c_block 1 ?_)))
  have f:=B.drew
  obtain ⟨d,b,i⟩:=bind_some i
  obtain ⟨m,o,p,b,rfl,g⟩:=SliceR.getI (SliceR.mono t hx_x0) b
  obtain ⟨b,c,x⟩:=bind_some i
  obtain ⟨j,k,l,q,rfl,c⟩:=SliceR.getI (SliceR.mono t hx_x1) c
  refine c_sqD [(0,true),(1,true),(2,true),(3,true),(4,true),(5,true),(6,true),(7,true),(8,true),(9,true),(10,true)] [] [sL o_x0 x0 c_x0, .pointer (some m),vI d.lot,vI d.mass,sL o_x1 x1 c_x1, .pointer (some j),vI b.lot,vI b.mass] [2,3,5,30] z (.cell (f.bx 1 0 rfl rfl) (.prop o (.prop p (.cell (f.cell (g 0 _ rfl)) (.cell (f.cell (g 1 _ rfl)) (.cell (f.bx 0 0 rfl rfl) (.prop k (.prop l (.cell (f.cell (c 0 _ rfl)) (.cell (f.cell (c 1 _ rfl)) .nil)))))))))) .nil fun c g=>c_if (!((d.lot == b.lot) && ((d.mass == b.mass) && true))) g (fun c=>?_) (fun c=>?_)
  ·have i:=cond_t c x
   refine c_sq [] [4] g .nil fun d b=>c_ret (r_block (r_then (r_then (r_block (r_then (c_rt [] (.bool false) b .nil ?_))))))
   obtain rfl:=some_eq i
   exact ⟨_,rfl,s,t,rfl,(St.drop 2 f)⟩
  have i:=cond_f c x
  refine c_skip (n_block (n_then (c_q [] [2,3,5] g .nil fun c b=>(n_then (⟨C,Nat.lt_succ_self C,s,(w64 (y + (1:Int))),t,b.to,f,i⟩)))))
 have i:=cond_f u A
 refine c_exit 0 (x_then (x_then (x_block (n_then (c_sq [] [4] z .nil fun c b=>(c_ret (c_rt [] (.bool true) b .nil ?_)))))))
 obtain rfl:=some_eq i
 exact ⟨_,rfl,s,t,rfl,(St.drop 2 B)⟩
def F8_l3 (fuel:Nat) (k1:Int→Option (Bool)) (x0h:List (List (List Part))) (x1h:List (List (List Part))) (y1:Int):Nat→Int→Option (Bool)
  | 0,_=>none
  | n1 + 1,y2 =>
    let k2:Int→Option (Bool):=F8_l3 fuel k1 x0h x1h y1 n1
    ((getI x0h y1).bind fun p1=>(cond (decide (y2<(p1.length:Int))) ((getI x0h y1).bind fun p2=>((getI p2 y2).bind fun p3=>((getI x1h y1).bind fun p4=>((getI p4 y2).bind fun p5=>((F23 fuel p3 p5).bind fun r1=>(cond (!r1) (some (false)) (k2 (w64 (y2 + (1:Int)))))))))) (k1 (w64 (y1 + (1:Int))))))
def F8_l2 (fuel:Nat) (x0h:List (List (List Part))) (x1h:List (List (List Part))):Nat→Int→Option (Bool)
  | 0,_=>none
  | n2 + 1,y1 =>
    let k1:Int→Option (Bool):=F8_l2 fuel x0h x1h n2
    (cond (decide (y1<(9:Int))) ((getI x0h y1).bind fun p6=>((getI x1h y1).bind fun p7=>(cond ((p6.length:Int) != (p7.length:Int)) (some (false)) (F8_l3 fuel k1 x0h x1h y1 fuel 0)))) (some (true)))
def F8_l1 (fuel:Nat) (x0l:List Lot) (x0h:List (List (List Part))) (x1l:List Lot) (x1h:List (List (List Part))):Nat→Int→Option (Bool)
  | 0,_=>none
  | n3 + 1,y3 =>
    let k3:Int→Option (Bool):=F8_l1 fuel x0l x0h x1l x1h n3
    (cond (decide (y3<(x0l.length:Int))) ((getI x0l y3).bind fun p8=>((getI x1l y3).bind fun p9=>(cond (!((p8.id == p9.id) && ((p8.owner == p9.owner) && ((p8.grade == p9.grade) && ((p8.wet == p9.wet) && true))))) (some (false)) (k3 (w64 (y3 + (1:Int))))))) (F8_l2 fuel x0h x1h fuel 0))
def F8 (fuel:Nat) (x0l:List Lot) (x0h:List (List (List Part))) (x1l:List Lot) (x1h:List (List (List Part))):Option (Bool) :=
  (cond ((x0l.length:Int) != (x1l.length:Int)) (some (false)) (F8_l1 fuel x0l x0h x1l x1h fuel 0))
set_option maxRecDepth 100000 in
theorem f8_ok (fuel:Nat) (x0l:List Lot) (x0h:List (List (List Part))) (x1l:List Lot) (x1h:List (List (List Part))) (r:Bool) (hr:F8 fuel x0l x0h x1l x1h=some r) (h:Zone) (L:List Atom) (w:World) (hS:St h L w) (o_x0l:Option Addr) (c_x0l:Nat) (hx_x0l:SliceR LotT h o_x0l c_x0l x0l) (V00 V01 V02 V03 V04 V05 V06 V07 V08:Value) (hx_x0h:(Ty.arr 9 (Ty.slice (Ty.slice PartT))).rep h [V00,V01,V02,V03,V04,V05,V06,V07,V08] x0h) (o_x1l:Option Addr) (c_x1l:Nat) (hx_x1l:SliceR LotT h o_x1l c_x1l x1l) (V10 V11 V12 V13 V14 V15 V16 V17 V18:Value) (hx_x1h:(Ty.arr 9 (Ty.slice (Ty.slice PartT))).rep h [V10,V11,V12,V13,V14,V15,V16,V17,V18] x1h) :
    Calls Tryz.prog 8 #[.agg #[.slice o_x0l x0l.length c_x0l,V00,V01,V02,V03,V04,V05,V06,V07,V08], .agg #[.slice o_x1l x1l.length c_x1l,V10,V11,V12,V13,V14,V15,V16,V17,V18]] w fun e w'=>∃v,e= .returned v∧(∃h',Zone.le h h'∧v= .bool r∧St h' L w'):=by
 refine calls_intro (N:=75) Tryz.func8 (by kernel_rfl) fun a hf=>c_sr (c_box [sL o_x0l x0l c_x0l,V00,V01,V02,V03,V04,V05,V06,V07,V08] 29 hS hf fun V m o b c=>tv (c_box [sL o_x1l x1l c_x1l,V10,V11,V12,V13,V14,V15,V16,V17,V18] 29 b c fun X p q g d=>tv (c_t [] [2,3] d .nil fun s f=>(c_seq (c_sq [sL o_x0l x0l c_x0l,sL o_x1l x1l c_x1l] [2,3,15] f (.cell (g.bx 1 0 rfl rfl) (.cell (g.bx 0 0 rfl rfl) .nil)) fun t l=>(c_if ((x0l.length:Int) != (x1l.length:Int)) l (fun k=>?_) (fun k=>?_)))))))
 ·have j:=cond_t k hr
  refine c_sq [] [4] l .nil fun c b=>c_ret (r_then (c_rt [] (.bool false) b .nil ?_))
  obtain rfl:=some_eq j
  exact ⟨_,rfl,h,zr,rfl,(St.drop 2 g)⟩
 have j:=cond_f k hr
 refine c_skip (n_then (c_seq (c_sq [] [2,3,5] l .nil fun c b=>(c_block 0 (c_loop (fun n a w=>∃t:Zone,∃y:Int,Zone.le h t∧Fr a 75 [(2,pB V 0),(3,pB X 0),(5,vI y)]∧St t (box X [sL o_x1l x1l c_x1l,V10,V11,V12,V13,V14,V15,V16,V17,V18] 29::box V [sL o_x0l x0l c_x0l,V00,V01,V02,V03,V04,V05,V06,V07,V08] 29::L) w∧(F8_l1 fuel x0l x0h x1l x1h n y)=some r) fuel ⟨h,0,zr,b.to,g,j⟩ ?_)))))
 rintro b c d ⟨t,y,S,f,B,I⟩
 cases b with
 | zero=>cases I
 | succ C =>
 refine c_seq (c_sq [sL o_x0l x0l c_x0l] [2,3,5,20] f (.cell (B.bx 1 0 rfl rfl) .nil) fun b A=>(c_if (decide (y<(x0l.length:Int))) A (fun z=>?_) (fun z=>?_)))
 ·have j:=cond_t z I
  refine c_skip (n_then (c_seq (c_block 1 ?_)))
  have g:=B.drew
  obtain ⟨d,b,j⟩:=bind_some j
  obtain ⟨o,p,q,b,rfl,f⟩:=SliceR.getI (SliceR.mono S hx_x0l) b
  obtain ⟨b,c,u⟩:=bind_some j
  obtain ⟨k,l,m,s,rfl,c⟩:=SliceR.getI (SliceR.mono S hx_x1l) c
  refine c_sqD [(0,true),(1,true),(2,true),(3,true),(4,true),(5,true),(6,true),(7,true),(8,true),(9,true),(10,true)] [] [sL o_x0l x0l c_x0l, .pointer (some o),vI d.id,vI d.owner,vI d.grade,vI d.wet,sL o_x1l x1l c_x1l, .pointer (some k),vI b.id,vI b.owner,vI b.grade,vI b.wet] [2,3,5,33] A (.cell (g.bx 1 0 rfl rfl) (.prop p (.prop q (.cell (g.cell (f 0 _ rfl)) (.cell (g.cell (f 1 _ rfl)) (.cell (g.cell (f 2 _ rfl)) (.cell (g.cell (f 3 _ rfl)) (.cell (g.bx 0 0 rfl rfl) (.prop l (.prop m (.cell (g.cell (c 0 _ rfl)) (.cell (g.cell (c 1 _ rfl)) (.cell (g.cell (c 2 _ rfl)) (.cell (g.cell (c 3 _ rfl)) .nil)))))))))))))) .nil fun c f=>c_if (!((d.id == b.id) && ((d.owner == b.owner) && ((d.grade == b.grade) && ((d.wet == b.wet) && true))))) f (fun c=>?_) (fun c=>?_)
  ·have j:=cond_t c u
   refine c_sq [] [4] f .nil fun d b=>c_ret (r_block (r_then (r_then (r_block (r_then (c_rt [] (.bool false) b .nil ?_))))))
   obtain rfl:=some_eq j
   exact ⟨_,rfl,t,S,rfl,(St.drop 2 g)⟩
  have j:=cond_f c u
  refine c_skip (n_block (n_then (c_q [] [2,3,5] f .nil fun c b=>(n_then (⟨C,Nat.lt_succ_self C,t,(w64 (y + (1:Int))),S,b.to,g,j⟩)))))
 have j:=cond_f z I
 refine c_exit 0 (x_then (x_then (x_block (n_then (c_seq (c_sq [] [2,3,6] A .nil fun c b=>(c_block 2 (c_loop (fun n a w=>∃Y:Zone,∃C:Int,Zone.le t Y∧Fr a 75 [(2,pB V 0),(3,pB X 0),(6,vI C)]∧St Y (box X [sL o_x1l x1l c_x1l,V10,V11,V12,V13,V14,V15,V16,V17,V18] 29::box V [sL o_x0l x0l c_x0l,V00,V01,V02,V03,V04,V05,V06,V07,V08] 29::L) w∧(F8_l2 fuel x0h x1h n C)=some r) fuel ⟨t,0,zr,b.to,B,j⟩ ?_))))))))
 rintro b c d ⟨Y,C,R,f,a4,a3⟩
 cases b with
 | zero=>cases a3
 | succ n2 =>
 refine c_seq (c_sq [] [2,3,6,35] f .nil fun b a2=>(c_if (decide (C<(9:Int))) a2 (fun a1=>?_) (fun a1=>?_)))
 ·have j:=cond_t a1 a3
  refine c_skip (n_then (c_seq (c_block 3 (c_seq ?_))))
  have m:=a4.drew
  obtain ⟨l,b,j⟩:=bind_some j
  obtain ⟨o,_,p,q,s,hehv12246,b⟩:=arrGet (Ty.mono _ (zt S R) hx_x0h) rfl b
  obtain rfl:=List.head_eq_of_cons_eq hehv12246
  obtain ⟨c,b,u⟩:=bind_some j
  obtain ⟨b,_,d,f,g,hehv12256,k⟩:=arrGet (Ty.mono _ (zt S R) hx_x1h) rfl b
  obtain rfl:=List.head_eq_of_cons_eq hehv12256
  refine c_sqD [(0,true),(1,true),(2,true),(3,true),(4,true),(5,true),(6,true),(7,true),(8,true),(9,true),(10,true)] [] [sL q l s,sL f c g] [2,3,6,48] a2 (.prop o (.cell ((arrAddr V 1 C.toNat) ▸ (m.box (i:=1) rfl (getElem?_app_right [sL o_x0l x0l c_x0l] _ _ p []))) (.prop b (.cell ((arrAddr X 1 C.toNat) ▸ (m.box (i:=0) rfl (getElem?_app_right [sL o_x1l x1l c_x1l] _ _ d []))) .nil)))) .nil fun b d=>?_
  refine c_if ((l.length:Int) != (c.length:Int)) d (fun c=>?_) (fun c=>?_)
  ·have j:=cond_t c u
   refine c_sq [] [4] d .nil fun f b=>c_ret (r_then (r_block (r_then (r_then (r_block (r_then (c_rt [] (.bool false) b .nil ?_)))))))
   obtain rfl:=some_eq j
   exact ⟨_,rfl,Y,(zt S R),rfl,(St.drop 2 m)⟩
  have j:=cond_f c u
  refine c_skip (n_then (c_sq [] [2,3,6,7] d .nil fun c b=>(c_block 4 (c_loop (fun n a w=>∃U:Zone,∃J:Int,Zone.le Y U∧Fr a 75 [(2,pB V 0),(3,pB X 0),(6,vI C),(7,vI J)]∧St U (box X [sL o_x1l x1l c_x1l,V10,V11,V12,V13,V14,V15,V16,V17,V18] 29::box V [sL o_x0l x0l c_x0l,V00,V01,V02,V03,V04,V05,V06,V07,V08] 29::L) w∧(F8_l3 fuel (F8_l2 fuel x0h x1h n2) x0h x1h C n J)=some r) fuel ⟨Y,0,zr,b.to,m,j⟩ ?_))))
  rintro b c m ⟨U,J,K,l,a0,j⟩
  cases b with
  | zero=>cases j
  | succ n1 =>
  refine c_seq ?_
  obtain ⟨c,b,I⟩:=bind_some j
  obtain ⟨b,_,d,f,g,hehv12826,k⟩:=arrGet (Ty.mono _ (zt (zt S R) K) hx_x0h) rfl b
  obtain rfl:=List.head_eq_of_cons_eq hehv12826
  refine c_sq [sL f c g] [2,3,6,7,55] l (.prop b (.cell ((arrAddr V 1 C.toNat) ▸ (a0.box (i:=1) rfl (getElem?_app_right [sL o_x0l x0l c_x0l] _ _ d []))) .nil)) fun b Z=>?_
  refine c_if (decide (J<(c.length:Int))) Z (fun W=>?_) (fun W=>?_)
  ·have j:=cond_t W I
   refine c_skip (n_then (c_seq (c_block 5 (c_seq ?_))))
   have o:=a0.drew
   refine c_regD (rD 16 [14]) [14] (fun x=>x=m.drew) rfl ?_
   obtain ⟨T,b,j⟩:=bind_some j
   obtain ⟨M,_,O,P,Q,hehv12913,c⟩:=arrGet (Ty.mono _ (zt (zt S R) K) hx_x0h) rfl b
   obtain rfl:=List.head_eq_of_cons_eq hehv12913
   obtain ⟨B,b,j⟩:=bind_some j
   obtain ⟨D,E,F,c,b,G⟩:=SliceR.getI c b
   obtain ⟨p,q,rfl,H⟩:=b
   obtain ⟨A,b,j⟩:=bind_some j
   obtain ⟨s,_,t,y,z,hehv12935,c⟩:=arrGet (Ty.mono _ (zt (zt S R) K) hx_x1h) rfl b
   obtain rfl:=List.head_eq_of_cons_eq hehv12935
   obtain ⟨l,b,j⟩:=bind_some j
   obtain ⟨d,f,g,c,b,k⟩:=SliceR.getI c b
   obtain ⟨b,c,rfl,m⟩:=b
   refine c_E 14 [sL P T Q, .pointer (some D),sL p B q,sL y A z, .pointer (some d),sL b l c] [2,3,6,7,64,71] Z (.prop M (.cell ((arrAddr V 1 C.toNat) ▸ (o.box (i:=1) rfl (getElem?_app_right [sL o_x0l x0l c_x0l] _ _ O []))) (.prop E (.prop F (.cell (o.cell (G 0 _ rfl)) (.prop s (.cell ((arrAddr X 1 C.toNat) ▸ (o.box (i:=0) rfl (getElem?_app_right [sL o_x1l x1l c_x1l] _ _ t []))) (.prop f (.prop g (.cell (o.cell (k 0 _ rfl)) .nil)))))))))) .nil fun d g=>?_
   obtain ⟨d,f,u⟩:=bind_some j
   refine c_call g (f23_ok fuel B l d f U _ _ o p q H b c m) ?_
   rintro c f g ⟨k,l,rfl,m⟩ b
   refine ⟨fun e=>absurd e (by decide),?_⟩
   refine p_qP 1 [] [(2,pB V 0),(3,pB X 0),(6,vI C),(7,vI J),(8, .bool d)] [] b (by kernel_rfl) (fun _=> .nil) fun c b=>c_dt (c_sq [] [2,3,6,7,74] b .nil fun b f=>(c_if (!d) f (fun c=>?_) (fun c=>?_)))
   ·have j:=cond_t c u
    refine c_sq [] [4] f .nil fun d b=>c_ret (r_block (r_then (r_then (r_block (r_block (r_then (r_then (r_block (r_then (c_rt [] (.bool false) b .nil ?_))))))))))
    obtain rfl:=some_eq j
    exact ⟨_,rfl,k,(zt (zt (zt S R) K) l),rfl,(St.drop 2 m)⟩
   have j:=cond_f c u
   refine c_skip (n_block (n_then (c_q [] [2,3,6,7] f .nil fun c b=>(n_then (⟨n1,Nat.lt_succ_self n1,k,(w64 (J + (1:Int))),(zt K l),b.to,m,j⟩)))))
  have j:=cond_f W I
  refine c_exit 4 (x_then (x_then (x_block (n_block (n_then (c_q [] [2,3,6] Z .nil fun c b=>(n_then (⟨n2,Nat.lt_succ_self n2,U,(w64 (C + (1:Int))),(zt R K),b.to,a0,j⟩))))))))
 have j:=cond_f a1 a3
 refine c_exit 2 (x_then (x_then (x_block (n_then (c_sq [] [4] a2 .nil fun c b=>(c_ret (c_rt [] (.bool true) b .nil ?_)))))))
 obtain rfl:=some_eq j
 exact ⟨_,rfl,Y,(zt S R),rfl,(St.drop 2 a4)⟩
def F27_j1 (y1:Bool):Option (Bool×Int) :=
  (some (y1,0))
def F27 (fuel:Nat) (x0:List Lot) (x1:List Deed) (x2:Int):Option (Bool×Int) :=
  ((F7 fuel x0 x1).bind fun r1=>(cond (r1.2.2.2 != (0:Int)) (some (false,r1.2.2.2)) ((F60 fuel x2 0 (w64 ((x1.length:Int) - (2:Int)))).bind fun r2=>(cond (!r2) (some (false,1)) ((appC ([]) x1).bind fun d1=>((getI x1 (w64 (x2 + (1:Int)))).bind fun p1=>((getI d1 x2).bind fun p2=>((setI d1 x2 (⟨p1.kind,p1.lot,p1.frm,p1.to,p1.mass⟩:Deed)).bind fun d2=>((getI x1 x2).bind fun p3=>((getI d2 (w64 (x2 + (1:Int)))).bind fun p4=>((setI d2 (w64 (x2 + (1:Int))) (⟨p3.kind,p3.lot,p3.frm,p3.to,p3.mass⟩:Deed)).bind fun d3=>((F7 fuel x0 d3).bind fun r3=>((F8 fuel r1.1 r1.2.1 r3.1 r3.2.1).bind fun r4=>(cond (r3.2.2.2 == (0:Int)) (F27_j1 r4) (F27_j1 false)))))))))))))))
set_option maxRecDepth 100000 in
theorem f27_ok (fuel:Nat) (x0:List Lot) (x1:List Deed) (x2:Int) (r:Bool×Int) (hr:F27 fuel x0 x1 x2=some r) (h:Zone) (L:List Atom) (w:World) (hS:St h L w) (o_x0:Option Addr) (c_x0:Nat) (hx_x0:SliceR LotT h o_x0 c_x0 x0) (o_x1:Option Addr) (c_x1:Nat) (hx_x1:SliceR DeedT h o_x1 c_x1 x1) :
    Calls Tryz.prog 27 #[.slice o_x0 x0.length c_x0, .slice o_x1 x1.length c_x1,vI x2] w fun e w'=>∃v,e= .returned v∧(∃h',Zone.le h h'∧v= .tuple #[.bool r.1,vI r.2]∧St h' L w'):=by
 refine calls_intro (N:=66) Tryz.func27 (by kernel_rfl) fun a hf=>c_sq [] [0,1,2] hf .nil fun f c=>c_sr (c_n 2 [] [0,1,2,17,18] c .nil fun c f=>?_)
 obtain ⟨M,c,G⟩:=bind_some hr
 refine c_call f (f7_ok fuel x0 x1 M c h _ _ hS o_x0 c_x0 hx_x0 o_x1 c_x1 hx_x1) ?_
 rintro f g k ⟨m,R,S,U,V,W,X,Y,Z,v8,v9,a0,Q,rfl,l,a2,a1⟩ c
 refine tv (c_n 4 [] [0,1,2,20,21,22] c .nil fun f c=>c_box [N0,N0,N0,N0,N0,N0,N0,N0,N0,N0] 29 l c fun b1 c k f g=>tv ?_)
 have c:=oneCells_of (Ty.one _ (Ty.mono _ zr a1))
 refine p_store_eq (i:=8) (j:=0) (b:=b1) (off:=0) (vs:=[sL R M.1 S,U,V,W,X,Y,Z,v8,v9,a0]) (cs':=[sL R M.1 S,U,V,W,X,Y,Z,v8,v9,a0]) f g rfl (by kernel_rfl) c rfl fun f g l c=>tv (c_t [] [0,1,2,8,10] c .nil fun f c=>c_seq (c_sq [] [0,1,2,8,10,24] c .nil fun c g=>(c_if (M.2.2.2 != (0:Int)) g (fun f=>?_) (fun f=>?_))))
 ·have o:=cond_t f G
  refine c_sq [] [6,7] g .nil fun k c=>c_ret (r_then (c_rt [] (.tuple #[.bool false,vI M.2.2.2]) c .nil ?_))
  obtain rfl:=some_eq o
  exact ⟨_,rfl,m,Q,rfl,(St.drop 1 l)⟩
 have o:=cond_f f G
 refine c_skip (n_then (c_seq (c_sr (c_n 4 [] [0,1,2,8,26,29] g .nil fun c f=>?_))))
 obtain ⟨g,c,G⟩:=bind_some o
 refine c_call f (f60_ok fuel x2 0 (w64 ((x1.length:Int) - (2:Int))) g c m _ _ l ) ?_
 rintro f k l ⟨p,P,rfl,m⟩ c
 refine tv (c_t [] [0,1,2,8,31] c .nil fun c k=>c_if (!g) k (fun f=>?_) (fun f=>?_))
 ·have o:=cond_t f G
  refine c_sq [] [6,7] k .nil fun g c=>c_ret (r_then (c_rt [] (.tuple #[.bool false,vI 1]) c .nil ?_))
  obtain rfl:=some_eq o
  exact ⟨_,rfl,p,(zt Q P),rfl,(St.drop 1 m)⟩
 have o:=cond_f f G
 refine c_skip (n_then (c_sr (p_box (i:=0) (d:=(some 32)) (cs:=[]) (T:=74) (v:=fun c=> .slice (some ⟨c,0,none⟩) 0 0) m k (fun b=>by kernel_rfl) fun c k l f g=>tv ?_)))
 have c:=f.ownBox (T:=DeedT) (E:=74) (n:=0) (xs:=[]) (i:=0) rfl rfl rfl (by decide)
 refine c_n 1 [] [0,1,2,8,32,33] g .nil fun f g=>?_
 obtain ⟨k,f,o⟩:=bind_some o
 refine p_append (T:=DeedT) (i:=2) (j:=0) (d:=some 34) (o2:=o_x1) (c2:=c_x1) (ys:=x1) el23 c g rfl (by kernel_rfl) (SliceR.src (SliceR.mono (zt Q P) hx_x1) c) f fun z A f k g c=>tv (c_t [] [0,1,2,8,11] c .nil fun c y=>c_sr ?_)
 obtain ⟨c,f,o⟩:=bind_some o
 obtain ⟨q,s,t,k,rfl,f⟩:=SliceR.getI (SliceR.mono (zt Q P) hx_x1) f
 obtain ⟨k,p,o⟩:=bind_some o
 obtain ⟨k,m,l,u,rfl,x⟩:=g.ownGet (j:=0) rfl p
 refine c_n 8 [.pointer (some q),vI c.kind,vI c.lot,vI c.frm,vI c.to,vI c.mass, .pointer (some k)] [0,1,2,8,11,41,42] y (.prop s (.prop t (.cell (g.cell (f 0 _ rfl)) (.cell (g.cell (f 1 _ rfl)) (.cell (g.cell (f 2 _ rfl)) (.cell (g.cell (f 3 _ rfl)) (.cell (g.cell (f 4 _ rfl)) (.prop m (.prop l .nil))))))))) fun f q=>?_
 obtain ⟨s,f,o⟩:=bind_some o
 have l:=setI_len f
 refine p_setOwn (i:=8) (j:=0) (ad:=k) (ix:=x2) (off:=0) (vs:=[vI c.kind,vI c.lot,vI c.frm,vI c.to,vI c.mass]) (x':=(⟨c.kind,c.lot,c.frm,c.to,c.mass⟩:Deed)) g q rfl m p (by kernel_rfl) (by kernel_rfl) rfl f fun m p g f=>?_
 have y:=Fr.conv (fl':=[(0,sL o_x0 x0 c_x0),(1,sL o_x1 x1 c_x1),(2,vI x2),(8,pB b1 0),(11,sL z s A),(41, .agg #[vI c.kind,vI c.lot,vI c.frm,vI c.to,vI c.mass]),(42, .pointer (some (k.add (Int.toNat x2 * 5))))]) f (by (try unfold sL); rw [l] <;> kernel_rfl)
 refine tv (c_dt (c_sr ?_))
 obtain ⟨c,f,o⟩:=bind_some o
 obtain ⟨q,s,t,k,rfl,f⟩:=SliceR.getI (SliceR.mono (zt Q P) hx_x1) f
 obtain ⟨k,p,o⟩:=bind_some o
 obtain ⟨k,m,l,u,rfl,x⟩:=g.ownGet (j:=0) rfl p
 refine c_n 8 [.pointer (some q),vI c.kind,vI c.lot,vI c.frm,vI c.to,vI c.mass, .pointer (some k)] [0,8,11,49,50] y (.prop s (.prop t (.cell (g.cell (f 0 _ rfl)) (.cell (g.cell (f 1 _ rfl)) (.cell (g.cell (f 2 _ rfl)) (.cell (g.cell (f 3 _ rfl)) (.cell (g.cell (f 4 _ rfl)) (.prop m (.prop l .nil))))))))) fun f q=>?_
 obtain ⟨s,f,o⟩:=bind_some o
 have l:=setI_len f
 refine p_setOwn (i:=8) (j:=0) (ad:=k) (ix:=(w64 (x2 + (1:Int)))) (off:=0) (vs:=[vI c.kind,vI c.lot,vI c.frm,vI c.to,vI c.mass]) (x':=(⟨c.kind,c.lot,c.frm,c.to,c.mass⟩:Deed)) g q rfl m p (by kernel_rfl) (by kernel_rfl) rfl f fun g m p f=>?_
 have c:=Fr.conv (fl':=[(0,sL o_x0 x0 c_x0),(8,pB b1 0),(11,sL z s A),(49, .agg #[vI c.kind,vI c.lot,vI c.frm,vI c.to,vI c.mass]),(50, .pointer (some (k.add (Int.toNat (w64 (x2 + (1:Int))) * 5))))]) f (by (try unfold sL); rw [l] <;> kernel_rfl)
 refine tv (c_dt (c_sr (c_n 2 [] [8,52,53] c .nil fun c m=>?_)))
 obtain ⟨f,K,k,l⟩:=p.share (j:=0) rfl
 obtain ⟨g,c,o⟩:=bind_some o
 refine c_call m (f7_ok fuel x0 s g c f _ _ k o_x0 c_x0 (SliceR.mono (zt (zt Q P) K) hx_x0) z A l) ?_
 rintro f k B ⟨I,l,m,p,q,s,t,u,x,y,z,A,O,rfl,C,J,D⟩ c
 refine tv (c_n 4 [] [8,55,56,57] c .nil fun f c=>c_box [N0,N0,N0,N0,N0,N0,N0,N0,N0,N0] 29 C c fun F c B f k=>tv ?_)
 have c:=oneCells_of (Ty.one _ (Ty.mono _ zr D))
 refine p_store_eq (i:=8) (j:=0) (b:=F) (off:=0) (vs:=[sL l g.1 m,p,q,s,t,u,x,y,z,A]) (cs':=[sL l g.1 m,p,q,s,t,u,x,y,z,A]) f k rfl (by kernel_rfl) c rfl fun k B c f=>tv (c_t [] [8,12,14] f .nil fun k f=>c_sr (c_n 2 [sL R M.1 S,U,V,W,X,Y,Z,v8,v9,a0,sL l g.1 m,p,q,s,t,u,x,y,z,A] [14,58,59] f (.cell (c.bx 2 0 rfl rfl) (.cell (c.bx 2 1 rfl rfl) (.cell (c.bx 2 2 rfl rfl) (.cell (c.bx 2 3 rfl rfl) (.cell (c.bx 2 4 rfl rfl) (.cell (c.bx 2 5 rfl rfl) (.cell (c.bx 2 6 rfl rfl) (.cell (c.bx 2 7 rfl rfl) (.cell (c.bx 2 8 rfl rfl) (.cell (c.bx 2 9 rfl rfl) (.cell (c.bx 0 0 rfl rfl) (.cell (c.bx 0 1 rfl rfl) (.cell (c.bx 0 2 rfl rfl) (.cell (c.bx 0 3 rfl rfl) (.cell (c.bx 0 4 rfl rfl) (.cell (c.bx 0 5 rfl rfl) (.cell (c.bx 0 6 rfl rfl) (.cell (c.bx 0 7 rfl rfl) (.cell (c.bx 0 8 rfl rfl) (.cell (c.bx 0 9 rfl rfl) .nil)))))))))))))))))))) fun f k=>?_))
 obtain ⟨H,f,G⟩:=bind_some o
 refine c_call k (f8_ok fuel M.1 M.2.1 g.1 g.2.1 H f I _ _ c R S (SliceR.mono (zt (zt P K) O) a2) U V W X Y Z v8 v9 a0 (Ty.mono _ (zt (zt P K) O) a1) l m J p q s t u x y z A (Ty.mono _ zr D)) ?_
 rintro f k B ⟨D,J,rfl,I⟩ c
 refine tv (c_t [] [14,15] c .nil fun c f=>c_mid (fun a w=>∃C:Zone,∃B:Bool,Zone.le D C∧Fr a 66 [(6, .bool B),(7,vI 0)]∧St C (box F [sL l g.1 m,p,q,s,t,u,x,y,z,A] 29::emp::box b1 [sL R M.1 S,U,V,W,X,Y,Z,v8,v9,a0] 29::L) w∧(F27_j1 B)=some r) ?_ ?_)
 ·skip
  refine c_reg (c_n 3 [] [15,63] f .nil fun c k=>?_)
  rcases bft (g.2.2.2 == (0:Int)) with c | c
  ·have o:=cond_t c G
   have f:=k.lit 63 c
   refine c_t [] [6,7] f .nil fun g f=>⟨D,H,zr,f.to,I,o⟩
  have o:=cond_f c G
  have c:=k.lit 63 c
  refine c_t [] [6,7] c .nil fun f c=>⟨D,false,zr,c.to,I,o⟩
 rintro f g ⟨C,B,k,c,l,o⟩
 refine c_ret (c_rt [] (.tuple #[.bool B,vI 0]) c .nil ?_)
 obtain rfl:=some_eq o
 exact ⟨_,rfl,C,(zt (zt (zt (zt (zt Q P) K) O) J) k),rfl,(St.drop 3 l)⟩
end Go.Proofs.YtlmgjjmighajdaaGreat
set_option linter.unusedVariables false
namespace Go.Proofs.YtlmgjjmighajdaaGreat
open Go.Sl Go.Sx
def F28_j3 (y1:List Trail) (y2:Int):Option (List Trail×Int) :=
  (cond (y2 != (0:Int)) (some ([],y2)) (some (y1,0)))
def F28_j1 (fuel:Nat) (x0:List Lot) (x2:Int) (y1:List Trail) (y3:Option Pl) (y4:Int) (y5:Int):Option (List Trail×Int) :=
  (cond (y5 == (0:Int)) ((F47 fuel x0 ([x2])).bind fun r1=>(F28_j3 y1 r1)) (F28_j3 y1 y5))
def F28_j2 (k1:(List Trail)→Int→Option (List Trail×Int)) (y6:Int) (y7:List Trail):Option (List Trail×Int) :=
  (k1 y7 (w64 (y6 + (1:Int))))
def F28_l2 (k2:(List Trail)→Pl→Int→Option (List Trail×Int)) (x2:Int) (y8:Int) (r2:List Part×List (Int×Bool)×Int×Pl):Nat→(List Trail)→Int→Option (List Trail×Int)
  | 0,_,_=>none
  | n1 + 1,y9,y6 =>
    let k1:(List Trail)→Int→Option (List Trail×Int):=F28_l2 k2 x2 y8 r2 n1
    (cond (decide (y6<(r2.1.length:Int))) ((getI r2.1 y6).bind fun p1=>(cond (p1.lot == x2) ((appC y9 ([⟨y8,p1.mass⟩])).bind fun d1=>(F28_j2 k1 y6 d1)) (F28_j2 k1 y6 y9))) (k2 y9 r2.2.2.2 (w64 (y8 + (1:Int)))))
def F28_l1 (fuel:Nat) (x0:List Lot) (x1:List Deed) (x2:Int):Nat→(List Trail)→Pl→Int→Option (List Trail×Int)
  | 0,_,_,_=>none
  | n2 + 1,y10,y11,y8 =>
    let k2:(List Trail)→Pl→Int→Option (List Trail×Int):=F28_l1 fuel x0 x1 x2 n2
    (cond (decide (y8<(x1.length:Int))) ((getI x1 y8).bind fun p2=>((F51 fuel y11 p2.kind p2.lot p2.frm p2.to p2.mass).bind fun r2=>(cond (r2.2.2.1 != (0:Int)) (F28_j1 fuel x0 x2 y10 none y8 r2.2.2.1) (F28_l2 k2 x2 y8 r2 fuel y10 0)))) (F28_j1 fuel x0 x2 y10 (some y11) (x1.length:Int) 0))
def F28 (fuel:Nat) (x0:List Lot) (x1:List Deed) (x2:Int):Option (List Trail×Int) :=
  ((F49 fuel x0 x1).bind fun r3=>(cond (r3 != (0:Int)) (F28_j1 fuel x0 x2 ([]) none 0 r3) ((F50 fuel x0 ([[],[],[],[],[],[],[],[],[]])).bind fun r4=>(F28_l1 fuel x0 x1 x2 fuel ([]) r4 0))))
set_option maxRecDepth 100000 in
theorem f28_ok (fuel:Nat) (x0:List Lot) (x1:List Deed) (x2:Int) (r:List Trail×Int) (hr:F28 fuel x0 x1 x2=some r) (h:Zone) (L:List Atom) (w:World) (hS:St h L w) (o_x0:Option Addr) (c_x0:Nat) (hx_x0:SliceR LotT h o_x0 c_x0 x0) (o_x1:Option Addr) (c_x1:Nat) (hx_x1:SliceR DeedT h o_x1 c_x1 x1) :
    Calls Tryz.prog 28 #[.slice o_x0 x0.length c_x0, .slice o_x1 x1.length c_x1,vI x2] w fun e w'=>∃v,e= .returned v∧(∃h',∃o0:Option Addr,∃c0:Nat,Zone.le h h'∧v= .tuple #[.slice o0 r.1.length c0,vI r.2]∧St h' L w'∧SliceR TrailT h' o0 c0 r.1):=by
 refine calls_intro (N:=30) Tryz.func28 (by kernel_rfl) fun a hf=>c_sr (c_box [vI x2] 3 hS hf fun b1 p s g k=>tv (c_t [] [0,1,5] k .nil fun t l=>(c_sr (c_box [N0] 81 g l fun W u x z m=>tv (c_dt (c_sr (c_n 3 [] [0,5,8,13,14,15] m .nil fun y o=>(c_call (f:=18) (args:= #[sL o_x0 x0 c_x0,sL o_x1 x1 c_x1, .func (.func 63) #[] #[pB b1 0,pB W 0]]) (Φ:=fun v w=>∃z1:Zone,∃y1:List Trail,∃y3:Option Pl,∃y4:Int,∃y5:Int,∃e1:Option Addr,∃q1:Nat,∃p3:Option Addr,Zone.le h z1∧v= .tuple #[.pointer p3,vI y4,vI y5]∧St z1 (ownS TrailT 120 e1 q1 y1::plO 69 49 101 p3 y3::box W [sL e1 y1 q1] 81::box b1 [vI x2] 3::L) w∧(F28_j1 fuel x0 x2 y1 y3 y4 y5)=some r) o ?_ ?_))))))))
 ·refine calls_intro (N:=50) Tryz.func18 (by kernel_rfl) fun k g=>c_sq [] [0,1,2] g .nil fun k g=>c_seq (c_sr (c_n 2 [] [0,1,2,15,16] g .nil fun g k=>?_))
  obtain ⟨l,g,D⟩:=bind_some hr
  refine c_call k (f49_ok fuel x0 x1 l g h _ _ z o_x0 c_x0 hx_x0 o_x1 c_x1 hx_x1) ?_
  rintro k m o ⟨s,k3,rfl,t⟩ g
  refine tv (c_t [] [0,1,2,9] g .nil fun k g=>c_sq [] [0,1,2,9,19] g .nil fun g m=>c_if (l != (0:Int)) m (fun k=>?_) (fun k=>?_))
  ·have q:=cond_t k D
   refine c_sq [] [6,7,8] m .nil fun o g=>c_ret (r_then (c_rt [] (.tuple #[.pointer none,vI 0,vI l]) g .nil ?_))
   have g:=t.plNone 69 49 101
   have g:=St.ownNil g TrailT 120
   exact ⟨_,rfl,s,[],none,0,l,none,0,none,k3,rfl,(St.pick 2 [0,1] g (by kernel_rfl)),q⟩
  have q:=cond_f k D
  refine c_skip (n_then (c_sr (c_n 2 [] [1,2,22] m .nil fun g k=>?_)))
  obtain ⟨p,g,q⟩:=bind_some q
  refine c_call k (f50_ok fuel x0 ([[],[],[],[],[],[],[],[],[]]) p g s _ _ t o_x0 c_x0 (SliceR.mono k3 hx_x0) (N0) (N0) (N0) (N0) (N0) (N0) (N0) (N0) (N0) ⟨rfl,(Rows.cons (c:=[_]) (sliceRep (SliceR.nil' _ _)) (Rows.cons (c:=[_]) (sliceRep (SliceR.nil' _ _)) (Rows.cons (c:=[_]) (sliceRep (SliceR.nil' _ _)) (Rows.cons (c:=[_]) (sliceRep (SliceR.nil' _ _)) (Rows.cons (c:=[_]) (sliceRep (SliceR.nil' _ _)) (Rows.cons (c:=[_]) (sliceRep (SliceR.nil' _ _)) (Rows.cons (c:=[_]) (sliceRep (SliceR.nil' _ _)) (Rows.cons (c:=[_]) (sliceRep (SliceR.nil' _ _)) (Rows.cons (c:=[_]) (sliceRep (SliceR.nil' _ _)) rfl)))))))))⟩) ?_
  rintro k m o ⟨l,X,k4,rfl,s⟩ g
  refine tv (c_t [] [1,2,10] g .nil fun k g=>c_seq (c_sq [] [1,2,10,24,25,26] g .nil fun g k=>(c_block 0 ?_)))
  have g:=s.ownNil TrailT 120
  refine c_loop (fun n a w=>∃z4:Zone,∃a0:List Trail,∃a1:Pl,∃H:Int,∃e2:Option Addr,∃q2:Nat,Zone.le l z4∧Fr a 50 [(1,sL o_x1 x1 c_x1),(2, .func (.func 63) #[] #[pB b1 0,pB W 0]),(10,pB X 0),(24,sL o_x1 x1 c_x1),(25,vI (x1.length:Int)),(26,vI H)]∧St z4 (ownS TrailT 120 e2 q2 a0::plA 69 49 101 X a1::box W [sL e2 a0 q2] 81::box b1 [vI x2] 3::L) w∧(F28_l1 fuel x0 x1 x2 n a0 a1 H)=some r) fuel ⟨l,[],p,0,none,0,zr,k.to,g,q⟩ ?_
  rintro g k l ⟨z4,a0,a1,H,e2,q2,k5,m,Y,a5⟩
  cases g with
  | zero=>cases a5
  | succ n2 =>
  refine c_sq [] [1,2,10,24,25,26,27] m .nil fun g a4=>c_seq (c_if (decide (H<(x1.length:Int))) a4 (fun a3=>?_) (fun a3=>?_))
  ·have q:=cond_t a3 a5
   refine c_skip (n_then (c_seq (c_block 1 (c_sr ?_))))
   obtain ⟨k,g,q⟩:=bind_some q
   obtain ⟨l,m,o,p,rfl,g⟩:=SliceR.getI (SliceR.mono (zt (zt k3 k4) k5) hx_x1) g
   refine c_n 3 [.pointer (some l),vI k.kind,vI k.lot,vI k.frm,vI k.to,vI k.mass] [1,2,10,24,25,26,28,30] a4 (.prop m (.prop o (.cell (Y.cell (g 0 _ rfl)) (.cell (Y.cell (g 1 _ rfl)) (.cell (Y.cell (g 2 _ rfl)) (.cell (Y.cell (g 3 _ rfl)) (.cell (Y.cell (g 4 _ rfl)) .nil))))))) fun l g=>c_box [vI 0,vI 0,vI 0,vI 0,vI 0] 74 Y g fun b4 m o l g=>tv (c_n 1 [] [1,2,10,11,12,24,25,26,30] g .nil fun m g=>c_st 0 [vI k.kind,vI k.lot,vI k.frm,vI k.to,vI k.mass] l g rfl fun m o g l=>tv (c_dt (c_sr (c_n 2 [vI k.kind,vI k.lot,vI k.frm,vI k.to,vI k.mass] [1,2,10,11,24,25,26,32,33] l (.cell (g.bx 0 0 rfl rfl) (.cell (g.bx 0 1 rfl rfl) (.cell (g.bx 0 2 rfl rfl) (.cell (g.bx 0 3 rfl rfl) (.cell (g.bx 0 4 rfl rfl) .nil))))) fun l m=>?_))))
   have g:=St.swapTo (i:=3) (j:=0) (St.addEmp g) rfl rfl (by decide)
   have l:=g
   obtain ⟨u,g,D⟩:=bind_some q
   refine c_call m (f51_ok fuel a1 k.kind k.lot k.frm k.to k.mass u g z4 _ _ X l ) ?_
   rintro l m o ⟨I,s,t,x,k6,rfl,g,a2,p⟩ y
   have g:=St.swapTo (i:=0) (j:=3) g rfl rfl (by decide)
   have l:=g
   refine tv (c_n 3 [] [1,2,10,11,24,25,26,35,36] y .nil fun m g=>c_box [N0, .map none] 103 l g fun P m o g l=>tv (c_st 0 [sL s u.1 t, .map x] g l rfl fun l m o g=>tv (c_t [] [1,2,10,11,13,14,24,25,26] g .nil fun l g=>c_seq (c_sq [] [1,2,10,11,13,14,24,25,26,38] g .nil fun g m=>(c_if (u.2.2.1 != (0:Int)) m (fun l=>?_) (fun l=>?_))))))
   ·have q:=cond_t l D
    refine c_sq [] [6,7,8] m .nil fun p g=>c_ret (r_then (r_block (r_then (r_then (r_block (r_then (c_rt [] (.tuple #[.pointer none,vI H,vI u.2.2.1]) g .nil ?_)))))))
    have g:=o.plNone 69 49 101
    exact ⟨_,rfl,I,a0,none,H,u.2.2.1,e2,q2,none,(zt (zt (zt k3 k4) k5) k6),rfl,(St.pick 6 [4,0] g (by kernel_rfl)),q⟩
   have q:=cond_f l D
   refine c_skip (n_then (c_reg (c_n 4 [sL s u.1 t, .map x] [1,2,10,24,25,26,41,42,43,44] m (.cell (o.bx 0 0 rfl rfl) (.cell (o.bx 0 1 rfl rfl) .nil)) fun y l=>(p_inl (i:=4) (d:=some 45) (f:=63) (args:= #[vI H, .agg #[sL s u.1 t, .map x],pB X 0,pB b1 0,pB W 0]) (N':=30) l (by kernel_rfl) Tryz.func63 (by kernel_rfl) fun z m=>(c_sr (c_box [sL s u.1 t, .map x] 103 o m fun F A B g o=>tv (c_dt (c_sq [sL s u.1 t] [0,3,4,12,13,14] o (.cell (g.bx 0 0 rfl rfl) .nil) fun C p=>(c_block 0 (c_loop (fun n a w=>∃J:Zone,∃K:List Trail,∃G:Int,∃M:Option Addr,∃O:Nat,Zone.le I J∧Fr a 30 [(0,vI H),(3,pB b1 0),(4,pB W 0),(12,sL s u.1 t),(13,vI (u.1.length:Int)),(14,vI G)]∧St J (box F [sL s u.1 t, .map x] 103::box P [sL s u.1 t, .map x] 103::emp::box b4 [vI k.kind,vI k.lot,vI k.frm,vI k.to,vI k.mass] 74::ownS TrailT 120 M O K::plA 69 49 101 X u.2.2.2::box W [sL M K O] 81::box b1 [vI x2] 3::L) w∧(F28_l2 (F28_l1 fuel x0 x1 x2 n2) x2 H u n K G)=some r) fuel ⟨I,a0,0,e2,q2,zr,p.to,g,q⟩ ?_))))))))))
   rintro g l m ⟨J,K,G,M,O,Z,o,Q,V⟩
   cases g with
   | zero=>cases V
   | succ S =>
   refine c_sq [] [0,3,4,12,13,14,15] o .nil fun g U=>c_seq (c_if (decide (G<(u.1.length:Int))) U (fun R=>?_) (fun R=>?_))
   ·have q:=cond_t R V
    refine c_skip (n_then (c_mid (fun a w=>∃B:Zone,∃A:List Trail,∃C:Option Addr,∃I:Nat,Zone.le J B∧Fr a 30 [(0,vI H),(3,pB b1 0),(4,pB W 0),(12,sL s u.1 t),(13,vI (u.1.length:Int)),(14,vI G)]∧St B (box F [sL s u.1 t, .map x] 103::box P [sL s u.1 t, .map x] 103::emp::box b4 [vI k.kind,vI k.lot,vI k.frm,vI k.to,vI k.mass] 74::ownS TrailT 120 C I A::plA 69 49 101 X u.2.2.2::box W [sL C A I] 81::box b1 [vI x2] 3::L) w∧(F28_j2 (F28_l2 (F28_l1 fuel x0 x1 x2 n2) x2 H u S) G A)=some r) ?_ ?_))
    ·skip
     refine c_block 1 (c_sr ?_)
     obtain ⟨g,k,D⟩:=bind_some q
     obtain ⟨l,m,o,p,rfl,k⟩:=SliceR.getI (SliceR.mono Z a2) k
     refine c_n 2 [.pointer (some l),vI g.lot,vI g.mass] [0,3,4,12,13,14,17] U (.prop m (.prop o (.cell (Q.cell (k 0 _ rfl)) (.cell (Q.cell (k 1 _ rfl)) .nil)))) fun l k=>c_box [vI 0,vI 0] 53 Q k fun m o p k l=>tv (c_st 0 [vI g.lot,vI g.mass] k l rfl fun l m o k=>tv (c_dt (c_sq [vI g.lot,vI x2] [0,3,4,9,12,13,14,21] k (.cell (o.bx 0 0 rfl rfl) (.cell (o.bx 8 0 rfl rfl) .nil)) fun k z=>(c_if (g.lot == x2) z (fun s=>?_) (fun s=>?_)))))
     ·have q:=cond_t s D
      refine c_reg (c_n 5 [sL M K O,vI g.mass] [0,3,4,12,13,14,22,26] z (.cell (o.bx 7 0 rfl rfl) (.cell (o.bx 0 1 rfl rfl) .nil)) fun p k=>(p_box (i:=5) (d:=(some 27)) (cs:=[vI H,vI g.mass]) (T:=120) (v:=fun l=> .slice (some ⟨l,0,none⟩) 1 1) o k (fun b=>by kernel_rfl) fun l t x m y=>tv ?_))
      have k:=m.ownBox (T:=TrailT) (E:=120) (n:=1) (xs:=[⟨H,g.mass⟩]) (i:=0) rfl (Rows.cons (c:=[vI H,vI g.mass]) rfl rfl) rfl (by decide)
      obtain ⟨p,m,q⟩:=bind_some q
      refine p_append (T:=TrailT) (i:=6) (j:=6) (d:=some 28) (o2:=(some ⟨l,0,none⟩)) (c2:=1) (ys:=([⟨H,g.mass⟩])) el81 k y rfl (by kernel_rfl) (k.ownSrc (j:=0) rfl) m fun g k t x l m=>tv (c_st 8 [sL g p k] l m rfl fun t x l m=>tv (c_done (n_block (n_then (⟨J,p,g,k,zr,m.to,(St.drop 2 l),q⟩)))))
     have q:=cond_f s D
     refine c_skip (n_block (n_then (⟨J,K,M,O,zr,z.to,(St.drop 1 o),q⟩)))
    rintro k l ⟨B,A,C,I,m,g,o,q⟩
    refine c_q [] [0,3,4,12,13,14] g .nil fun k g=>n_then (⟨S,Nat.lt_succ_self S,B,A,(w64 (G + (1:Int))),C,I,(zt Z m),g.to,o,q⟩)
   have q:=cond_f R V
   refine c_exit 0 (x_then (x_then (x_block (c_fall [] (.tuple #[]) U .nil (⟨_,rfl,fun g k=>?_⟩)))))
   have l:=St.drop 1 Q
   refine tv (c_done (n_block (n_then (c_q [] [1,2,10,24,25,26] k .nil fun k g=>(n_then (⟨n2,Nat.lt_succ_self n2,J,K,u.2.2.2,(w64 (H + (1:Int))),M,O,(zt (zt k5 k6) Z),g.to,(St.drop 3 l),q⟩))))))
  have q:=cond_f a3 a5
  refine c_exit 0 (x_then (x_then (x_block (n_then (c_sq [] [6,7,8] a4 .nil fun k g=>(c_ret (c_rt [] (.tuple #[pB X 0,vI (x1.length:Int),vI 0]) g .nil ?_)))))))
  have g:=Y.plSome (i:=1) rfl
  exact ⟨_,rfl,z4,a0,(some a1),(x1.length:Int),0,e2,q2,(some ⟨X,0,none⟩),(zt (zt k3 k4) k5),rfl,(St.pick 2 [0,1] g (by kernel_rfl)),q⟩
 rintro k l m ⟨z1,y1,y3,y4,y5,e1,q1,p3,C,rfl,B,D⟩ g
 refine tv (c_t [] [0,5,8,11] g .nil fun g k=>c_mid (fun a w=>∃A:Zone,∃y:Int,Zone.le z1 A∧Fr a 30 [(8,pB W 0),(11,vI y)]∧St A (ownS TrailT 120 e1 q1 y1::plO 69 49 101 p3 y3::box W [sL e1 y1 q1] 81::box b1 [vI x2] 3::L) w∧(F28_j3 y1 y)=some r) ?_ ?_)
 ·skip
  refine c_sq [] [0,5,8,11,21] k .nil fun g z=>c_if (y5 == (0:Int)) z (fun x=>?_) (fun x=>?_)
  ·have q:=cond_t x D
   refine c_reg (c_n 2 [vI x2] [8,22,23] z (.cell (B.bx 3 0 rfl rfl) .nil) fun m g=>(p_box (i:=2) (d:=(some 24)) (cs:=[vI x2]) (T:=3) (v:=fun k=> .slice (some ⟨k,0,none⟩) 1 1) B g (fun b=>by kernel_rfl) fun k o p l t=>tv ?_))
   have g:=l.ownBox (T:=Ty.int) (E:=3) (n:=1) (xs:=[x2]) (i:=0) rfl (Rows.cons (c:=[vI x2]) rfl rfl) rfl (by decide)
   obtain ⟨l,s,m,o⟩:=g.share (j:=0) rfl
   obtain ⟨p,g,q⟩:=bind_some q
   refine c_call t (f47_ok fuel x0 ([x2]) p g l _ _ m o_x0 c_x0 (SliceR.mono (zt C s) hx_x0) (some ⟨k,0,none⟩) 1 o) ?_
   rintro k l m ⟨o,t,rfl,u⟩ g
   refine tv (c_t [] [8,11] g .nil fun k g=>⟨o,p,(zt s t),g.to,(St.drop 1 u),q⟩)
  have q:=cond_f x D
  refine c_skip (n_then (⟨z1,y5,zr,z.to,B,q⟩))
 rintro k l ⟨A,y,p,g,m,D⟩
 refine c_seq (c_sq [] [8,11,27] g .nil fun g l=>(c_if (y != (0:Int)) l (fun k=>?_) (fun k=>?_)))
 ·have q:=cond_t k D
  refine c_sq [] [6,7] l .nil fun o g=>c_ret (r_then (c_rt [] (.tuple #[N0,vI y]) g .nil ?_))
  obtain rfl:=some_eq q
  exact ⟨_,rfl,A,none,0,(zt C p),rfl,(St.drop 4 m),SliceR.nil' _ _⟩
 have q:=cond_f k D
 refine c_skip (n_then (c_sq [sL e1 y1 q1] [6,7] l (.cell (m.bx 2 0 rfl rfl) .nil) fun k g=>(c_ret ?_)))
 obtain ⟨k,l,m,o⟩:=m.share (j:=0) rfl
 refine c_rt [] (.tuple #[sL e1 y1 q1,vI 0]) g .nil ?_
 obtain rfl:=some_eq q
 exact ⟨_,rfl,k,e1,q1,(zt (zt C p) l),rfl,(St.drop 4 m),o⟩
def F65_l1 (x0:List Part) (x1:Int):Nat→Int→Option (Int)
  | 0,_=>none
  | n1 + 1,y1 =>
    let k1:Int→Option (Int):=F65_l1 x0 x1 n1
    (cond (decide (y1<(x0.length:Int))) ((getI x0 y1).bind fun p1=>(cond (p1.lot == x1) ((getI x0 y1).bind fun p2=>(some (p2.mass))) (k1 (w64 (y1 + (1:Int)))))) (some (0)))
def F65 (fuel:Nat) (x0:List Part) (x1:Int):Option (Int) :=
  (F65_l1 x0 x1 fuel 0)
set_option maxRecDepth 100000 in
theorem f65_ok (fuel:Nat) (x0:List Part) (x1:Int) (r:Int) (hr:F65 fuel x0 x1=some r) (h:Zone) (L:List Atom) (w:World) (hS:St h L w) (o_x0:Option Addr) (c_x0:Nat) (hx_x0:SliceR PartT h o_x0 c_x0 x0) :
    Calls Tryz.prog 65 #[.agg #[.slice o_x0 x0.length c_x0],vI x1] w fun e w'=>∃v,e= .returned v∧(∃h',Zone.le h h'∧v=vI r∧St h' L w'):=by
 refine calls_intro (N:=27) Tryz.func65 (by kernel_rfl) fun a hf=>c_sr (c_box [sL o_x0 x0 c_x0] 49 hS hf fun b j k c d=>tv (c_t [] [1,2] d .nil fun l f=>(c_seq (c_sq [] [1,2,5] f .nil fun m g=>(c_block 0 (c_loop (fun n a w=>∃o:Zone,∃p:Int,Zone.le h o∧Fr a 27 [(1,vI x1),(2,pB b 0),(5,vI p)]∧St o (box b [sL o_x0 x0 c_x0] 49::L) w∧(F65_l1 x0 x1 n p)=some r) fuel ⟨h,0,zr,g.to,c,hr⟩ ?_))))))
 rintro b c d ⟨o,p,q,f,k,x⟩
 cases b with
 | zero=>cases x
 | succ y =>
 refine c_seq (c_sq [sL o_x0 x0 c_x0] [1,2,5,10] f (.cell (k.bx 0 0 rfl rfl) .nil) fun b u=>(c_if (decide (p<(x0.length:Int))) u (fun t=>?_) (fun t=>?_)))
 ·have i:=cond_t t x
  refine c_skip (n_then (c_seq (c_block 1 ?_)))
  obtain ⟨b,c,s⟩:=bind_some i
  obtain ⟨c,d,f,j,rfl,g⟩:=SliceR.getI (SliceR.mono q hx_x0) c
  refine c_sq [sL o_x0 x0 c_x0, .pointer (some c),vI b.lot] [1,2,5,20] u (.cell (k.bx 0 0 rfl rfl) (.prop d (.prop f (.cell (k.cell (g 0 _ rfl)) .nil)))) fun c m=>c_if (b.lot == x1) m (fun j=>?_) (fun j=>?_)
  ·have i:=cond_t j s
   obtain ⟨b,c,i⟩:=bind_some i
   obtain ⟨c,d,f,l,rfl,g⟩:=SliceR.getI (SliceR.mono q hx_x0) c
   refine c_sq [sL o_x0 x0 c_x0, .pointer (some c),vI b.mass] [4] m (.cell (k.bx 0 0 rfl rfl) (.prop d (.prop f (.cell (k.cell (g 1 _ rfl)) .nil)))) fun d c=>c_ret (r_block (r_then (r_then (r_block (r_then (c_rt [] (vI b.mass) c .nil ?_))))))
   obtain rfl:=some_eq i
   exact ⟨_,rfl,o,q,rfl,(St.drop 1 k)⟩
  have i:=cond_f j s
  refine c_skip (n_block (n_then (c_q [] [1,2,5] m .nil fun c b=>(n_then (⟨y,Nat.lt_succ_self y,o,(w64 (p + (1:Int))),q,b.to,k,i⟩)))))
 have i:=cond_f t x
 refine c_exit 0 (x_then (x_then (x_block (n_then (c_sq [] [4] u .nil fun c b=>(c_ret (c_rt [] (vI 0) b .nil ?_)))))))
 obtain rfl:=some_eq i
 exact ⟨_,rfl,o,q,rfl,(St.drop 1 k)⟩
def F29_j2 (k1:(List Trail)→(List Lot)→(List (List (List Part)))→Int→Option (List Trail×Int)) (y1:Int) (y2:List Lot) (y3:List (List (List Part))) (y4:List Trail):Option (List Trail×Int) :=
  (k1 y4 y2 y3 (w64 (y1 + (1:Int))))
def F29_j1 (fuel:Nat) (k1:(List Trail)→(List Lot)→(List (List (List Part)))→Int→Option (List Trail×Int)) (x2:Int) (y5:List Trail) (y1:Int) (y2:List Lot) (y3:List (List (List Part))) (y6:List Part):Option (List Trail×Int) :=
  ((F65 fuel y6 x2).bind fun r1=>(cond (decide (r1 > (0:Int))) ((appC y5 ([⟨y1,r1⟩])).bind fun d1=>(F29_j2 k1 y1 y2 y3 d1)) (F29_j2 k1 y1 y2 y3 y5)))
def F29_l1 (fuel:Nat) (x1:List Deed) (x2:Int):Nat→(List Trail)→(List Lot)→(List (List (List Part)))→Int→Option (List Trail×Int)
  | 0,_,_,_,_=>none
  | n1 + 1,y5,y7,y8,y1 =>
    let k1:(List Trail)→(List Lot)→(List (List (List Part)))→Int→Option (List Trail×Int):=F29_l1 fuel x1 x2 n1
    (cond (decide (y1<(x1.length:Int))) ((getI x1 y1).bind fun p1=>((F22 fuel y7 y8 p1.kind p1.lot p1.frm p1.to p1.mass).bind fun r2=>(F29_j1 fuel k1 x2 y5 y1 r2.1 r2.2.1 r2.2.2.1))) (some (y5,0)))
def F29 (fuel:Nat) (x0:List Lot) (x1:List Deed) (x2:Int):Option (List Trail×Int) :=
  ((F7 fuel x0 x1).bind fun r3=>(cond (r3.2.2.2 != (0:Int)) (some ([],r3.2.2.2)) ((F64 fuel x0 x2).bind fun r4=>(cond (decide (r4<(0:Int))) (some ([],60)) ((appC ([]) x0).bind fun d2=>(F29_l1 fuel x1 x2 fuel ([]) d2 ([[],[],[],[],[],[],[],[],[]]) 0))))))
set_option maxRecDepth 100000 in
theorem f29_ok (fuel:Nat) (x0:List Lot) (x1:List Deed) (x2:Int) (r:List Trail×Int) (hr:F29 fuel x0 x1 x2=some r) (h:Zone) (L:List Atom) (w:World) (hS:St h L w) (o_x0:Option Addr) (c_x0:Nat) (hx_x0:SliceR LotT h o_x0 c_x0 x0) (o_x1:Option Addr) (c_x1:Nat) (hx_x1:SliceR DeedT h o_x1 c_x1 x1) :
    Calls Tryz.prog 29 #[.slice o_x0 x0.length c_x0, .slice o_x1 x1.length c_x1,vI x2] w fun e w'=>∃v,e= .returned v∧(∃h',∃o0:Option Addr,∃c0:Nat,Zone.le h h'∧v= .tuple #[.slice o0 r.1.length c0,vI r.2]∧St h' L w'∧SliceR TrailT h' o0 c0 r.1):=by
 refine calls_intro (N:=65) Tryz.func29 (by kernel_rfl) fun a hf=>c_sq [] [0,1,2] hf .nil fun g f=>c_sr (c_n 2 [] [0,1,2,19,20] f .nil fun f g=>?_)
 obtain ⟨r3,f,K⟩:=bind_some hr
 refine c_call g (f7_ok fuel x0 x1 r3 f h _ _ hS o_x0 c_x0 hx_x0 o_x1 c_x1 hx_x1) ?_
 rintro g k l ⟨t,e1,q1,v2,v3,v4,v5,v6,v7,v8,v9,am,k2,rfl,o,p,q⟩ f
 refine tv (c_n 4 [] [0,1,2,22,23,24] f .nil fun g f=>c_box [N0,N0,N0,N0,N0,N0,N0,N0,N0,N0] 29 o f fun b1 f l g k=>tv ?_)
 have f:=oneCells_of (Ty.one _ (Ty.mono _ zr q))
 refine p_store_eq (i:=8) (j:=0) (b:=b1) (off:=0) (vs:=[sL e1 r3.1 q1,v2,v3,v4,v5,v6,v7,v8,v9,am]) (cs':=[sL e1 r3.1 q1,v2,v3,v4,v5,v6,v7,v8,v9,am]) g k rfl (by kernel_rfl) f rfl fun g k o f=>tv (c_t [] [0,1,2,10] f .nil fun g f=>c_seq (c_sq [] [0,1,2,10,26] f .nil fun f k=>(c_if (r3.2.2.2 != (0:Int)) k (fun g=>?_) (fun g=>?_))))
 ·have m:=cond_t g K
  refine c_sq [] [6,7] k .nil fun l f=>c_ret (r_then (c_rt [] (.tuple #[N0,vI r3.2.2.2]) f .nil ?_))
  obtain rfl:=some_eq m
  exact ⟨_,rfl,t,none,0,k2,rfl,(St.drop 1 o),SliceR.nil' _ _⟩
 have m:=cond_f g K
 refine c_skip (n_then (c_seq (c_sr (c_n 2 [] [0,1,2,28,29] k .nil fun f g=>?_))))
 obtain ⟨k,f,K⟩:=bind_some m
 refine c_call g (f64_ok fuel x0 x2 k f t _ _ o o_x0 c_x0 (SliceR.mono k2 hx_x0)) ?_
 rintro g l o ⟨q,k3,rfl,p⟩ f
 refine tv (c_t [] [0,1,2,31] f .nil fun f l=>c_if (decide (k<(0:Int))) l (fun g=>?_) (fun g=>?_))
 ·have m:=cond_t g K
  refine c_sq [] [6,7] l .nil fun k f=>c_ret (r_then (c_rt [] (.tuple #[N0,vI 60]) f .nil ?_))
  obtain rfl:=some_eq m
  exact ⟨_,rfl,q,none,0,(zt k2 k3),rfl,(St.drop 1 p),SliceR.nil' _ _⟩
 have m:=cond_f g K
 refine c_skip (n_then (c_sr (p_box (i:=0) (d:=(some 32)) (cs:=[]) (T:=43) (v:=fun f=> .slice (some ⟨f,0,none⟩) 0 0) p l (fun b=>by kernel_rfl) fun f l o g k=>tv ?_)))
 have f:=g.ownBox (T:=LotT) (E:=43) (n:=0) (xs:=[]) (i:=0) rfl rfl rfl (by decide)
 refine c_n 1 [] [1,2,32,33] k .nil fun g k=>?_
 obtain ⟨t,g,m⟩:=bind_some m
 refine p_append (T:=LotT) (i:=2) (j:=0) (d:=some 34) (o2:=o_x0) (c2:=c_x0) (ys:=x0) el22 f k rfl (by kernel_rfl) (SliceR.src (SliceR.mono (zt k2 k3) hx_x0) f) g fun p q k l g f=>tv (c_n 1 [] [1,2,35] f .nil fun k f=>c_box [N0,N0,N0,N0,N0,N0,N0,N0,N0,N0] 29 g f fun Y k l f g=>tv (c_st 0 [sL p t q,N0,N0,N0,N0,N0,N0,N0,N0,N0] f g rfl fun k l g f=>tv (c_dt (c_sq [] [1,2,11,12] f .nil fun k f=>(c_seq (c_sq [] [1,2,11,12,13] f .nil fun l o=>(c_block 0 ?_)))))))
 obtain ⟨f,k4,g,k⟩:=g.share (j:=1) rfl
 have g:=g.ownNil TrailT 120
 refine c_loop (fun n a w=>∃z4:Zone,∃V:List Trail,∃y7:List Lot,∃y8:List (List (List Part)),∃U:Int,∃W:Option Addr,∃X:Nat,∃e4:Option Addr,∃q4:Nat,∃a0:Value,∃a1:Value,∃a2:Value,∃a3:Value,∃a4:Value,∃a5:Value,∃a6:Value,∃a7:Value,∃a8:Value,Zone.le f z4∧Fr a 65 [(1,sL o_x1 x1 c_x1),(2,vI x2),(11,pB Y 0),(12,sL W V X),(13,vI U)]∧St z4 (ownS TrailT 120 W X V::box Y [sL e4 y7 q4,a0,a1,a2,a3,a4,a5,a6,a7,a8] 29::emp::box b1 [sL e1 r3.1 q1,v2,v3,v4,v5,v6,v7,v8,v9,am] 29::L) w∧SliceR LotT z4 e4 q4 y7∧(Ty.arr 9 (Ty.slice (Ty.slice PartT))).rep z4 [a0,a1,a2,a3,a4,a5,a6,a7,a8] y8∧(F29_l1 fuel x1 x2 n V y7 y8 U)=some r) fuel ⟨f,[],t,[[],[],[],[],[],[],[],[],[]],0,none,0,p,q,(N0),(N0),(N0),(N0),(N0),(N0),(N0),(N0),(N0),zr,o.to,g,k,⟨rfl,(Rows.cons (c:=[_]) (sliceRep (SliceR.nil' _ _)) (Rows.cons (c:=[_]) (sliceRep (SliceR.nil' _ _)) (Rows.cons (c:=[_]) (sliceRep (SliceR.nil' _ _)) (Rows.cons (c:=[_]) (sliceRep (SliceR.nil' _ _)) (Rows.cons (c:=[_]) (sliceRep (SliceR.nil' _ _)) (Rows.cons (c:=[_]) (sliceRep (SliceR.nil' _ _)) (Rows.cons (c:=[_]) (sliceRep (SliceR.nil' _ _)) (Rows.cons (c:=[_]) (sliceRep (SliceR.nil' _ _)) (Rows.cons (c:=[_]) (sliceRep (SliceR.nil' _ _)) rfl)))))))))⟩,m⟩ ?_
 rintro f g k ⟨z4,V,y7,y8,U,W,X,e4,q4,a0,a1,a2,a3,a4,a5,a6,a7,a8,k5,l,aq,aj,ak,ap⟩
 cases f with
 | zero=>cases ap
 | succ n1 =>
 refine c_seq (c_sq [] [1,2,11,12,13,39] l .nil fun f ao=>(c_if (decide (U<(x1.length:Int))) ao (fun an=>?_) (fun an=>?_)))
 ·have m:=cond_t an ap
  refine c_skip (n_then (c_seq (c_block 1 (c_mid (fun a w=>∃z5:Zone,∃y2:List Lot,∃y3:List (List (List Part)),∃y6:List Part,∃b4:Nat,∃b5:Nat,∃e5:Option Addr,∃q5:Nat,∃a9:Value,∃aa:Value,∃ab:Value,∃ac:Value,∃ad:Value,∃ae:Value,∃af:Value,∃ag:Value,∃ah:Value,∃e6:Option Addr,∃q6:Nat,Zone.le z4 z5∧Fr a 65 [(1,sL o_x1 x1 c_x1),(2,vI x2),(11,pB Y 0),(12,sL W V X),(13,vI U),(14,pB b4 0),(15,pB b5 0)]∧St z5 (box b4 [sL e5 y2 q5,a9,aa,ab,ac,ad,ae,af,ag,ah] 29::box b5 [sL e6 y6 q6] 49::ownS TrailT 120 W X V::box Y [sL e4 y7 q4,a0,a1,a2,a3,a4,a5,a6,a7,a8] 29::emp::box b1 [sL e1 r3.1 q1,v2,v3,v4,v5,v6,v7,v8,v9,am] 29::L) w∧SliceR LotT z5 e5 q5 y2∧(Ty.arr 9 (Ty.slice (Ty.slice PartT))).rep z5 [a9,aa,ab,ac,ad,ae,af,ag,ah] y3∧SliceR PartT z5 e6 q6 y6∧(F29_j1 fuel (F29_l1 fuel x1 x2 n1) x2 V U y2 y3 y6)=some r) ?_ ?_))))
  ·skip
   have ai:=aq.drew
   have o:=Sub.of zr ai
   refine w_regB (by kernel_rfl) [5,12,13] (Sub z4 (ownS TrailT 120 W X V::box Y [sL e4 y7 q4,a0,a1,a2,a3,a4,a5,a6,a7,a8] 29::emp::box b1 [sL e1 r3.1 q1,v2,v3,v4,v5,v6,v7,v8,v9,am] 29::L)) (by kernel_rfl) (k_seg' 10 [(0,true),(1,true),(2,true),(3,true),(4,true)] (by kernel_rfl) (by kernel_rfl) (At.start o) (by kernel_rfl) ?_)
   obtain ⟨J,f,K⟩:=bind_some m
   obtain ⟨g,k,l,p,rfl,f⟩:=SliceR.getI (SliceR.mono (zt (zt (zt k2 k3) k4) k5) hx_x1) f
   refine c_S 5 [sL e4 y7 q4,a0,a1,a2,a3,a4,a5,a6,a7,a8, .pointer (some g),vI J.kind,vI J.lot,vI J.frm,vI J.to,vI J.mass] [1,2,11,12,13,43,47] o ao (fun _ s=>(.cell (s.bx 1 0 rfl rfl) (.cell (s.bx 1 1 rfl rfl) (.cell (s.bx 1 2 rfl rfl) (.cell (s.bx 1 3 rfl rfl) (.cell (s.bx 1 4 rfl rfl) (.cell (s.bx 1 5 rfl rfl) (.cell (s.bx 1 6 rfl rfl) (.cell (s.bx 1 7 rfl rfl) (.cell (s.bx 1 8 rfl rfl) (.cell (s.bx 1 9 rfl rfl) (.prop k (.prop l (.cell (s.cell (f 0 _ rfl)) (.cell (s.cell (f 1 _ rfl)) (.cell (s.cell (f 2 _ rfl)) (.cell (s.cell (f 3 _ rfl)) (.cell (s.cell (f 4 _ rfl)) .nil)))))))))))))))))) .nil fun f al=>c_done ?_
   intro f
   refine k_any' 9 [5,10,11] (by kernel_rfl) f (by kernel_rfl) (by kernel_rfl) ((all_cons ?_ (all_cons ?_ (all_cons ?_ all_nil))))
   ·skip
    obtain ⟨k,f,m⟩:=bind_some K
    refine c_call al (f22_ok fuel y7 y8 J.kind J.lot J.frm J.to J.mass k f z4 _ _ ai e4 q4 aj a0 a1 a2 a3 a4 a5 a6 a7 a8 (Ty.mono _ zr ak)) ?_
    rintro f g l ⟨R,u,x,y,z,A,B,C,D,F,G,H,I,M,t,rfl,Q,S,P,Z⟩ o
    refine ⟨fun e=>absurd e (by decide),?_⟩
    refine c_done ?_
    intro f
    refine k_seg' 5 [(6,true),(7,true),(8,true),(9,true)] (by kernel_rfl) (by kernel_rfl) f (by kernel_rfl) (p_qP 4 [] [(1,sL o_x1 x1 c_x1),(2,vI x2),(11,pB Y 0),(12,sL W V X),(13,vI U),(49, .agg #[sL u k.1 x,y,z,A,B,C,D,F,G,H]),(50, .agg #[sL I k.2.2.1 M]),(51,vI k.2.2.2)] [] o (by kernel_rfl) (fun _=> .nil) fun f O=>c_done ?_)
    intro f
    refine k_any' 4 [10,11] (by kernel_rfl) f (by kernel_rfl) (by kernel_rfl) ((all_cons ?_ (all_cons ?_ all_nil)))
    ·skip
     refine c_box [N0,N0,N0,N0,N0,N0,N0,N0,N0,N0] 29 Q O fun p f l g o=>⟨fun _=>Sub.of t (St.drop 1 g),?_⟩
     refine c_done ?_
     intro f
     refine k_seg' 0 [(11,false),(12,false),(13,false),(14,true)] (by kernel_rfl) (by kernel_rfl) f (by kernel_rfl) (c_box [N0] 49 g o fun q g l f o=>⟨fun _=>Sub.of t (St.drop 2 f),?_⟩)
     have g:=Sub.of t (St.drop 2 f)
     have g:=oneCells_of (Ty.one _ (Ty.mono _ zr P))
     refine p_store_eq (i:=12) (j:=1) (b:=p) (off:=0) (vs:=[sL u k.1 x,y,z,A,B,C,D,F,G,H]) (cs':=[sL u k.1 x,y,z,A,B,C,D,F,G,H]) f o rfl (by kernel_rfl) g rfl fun l o f g=>⟨fun e=>absurd e (by decide),?_⟩
     refine c_st 0 [sL I k.2.2.1 M] f g rfl fun g l o f=>⟨fun e=>absurd e (by decide),?_⟩
     refine p_qP 1 [] [(1,sL o_x1 x1 c_x1),(2,vI x2),(11,pB Y 0),(12,sL W V X),(13,vI U),(14,pB p 0),(15,pB q 0)] [] f (by kernel_rfl) (fun _=> .nil) fun f g=>c_done ?_
     intro f
     refine k_done' (by kernel_rfl) (by kernel_rfl) (n_then (⟨R,k.1,k.2.1,k.2.2.1,p,q,u,x,y,z,A,B,C,D,F,G,H,I,M,t,g.to,(St.pick 2 [1,0] o (by kernel_rfl)),S,(Ty.mono _ zr P),Z,m⟩))
    skip
    refine c_box [N0] 49 Q O fun q f l g o=>⟨fun _=>Sub.of t (St.drop 1 g),?_⟩
    refine c_done ?_
    intro f
    refine k_seg' 0 [(10,false),(12,false),(13,false),(14,true)] (by kernel_rfl) (by kernel_rfl) f (by kernel_rfl) (c_box [N0,N0,N0,N0,N0,N0,N0,N0,N0,N0] 29 g o fun p g l f o=>⟨fun _=>Sub.of t (St.drop 2 f),?_⟩)
    have g:=Sub.of t (St.drop 2 f)
    have g:=oneCells_of (Ty.one _ (Ty.mono _ zr P))
    refine p_store_eq (i:=12) (j:=0) (b:=p) (off:=0) (vs:=[sL u k.1 x,y,z,A,B,C,D,F,G,H]) (cs':=[sL u k.1 x,y,z,A,B,C,D,F,G,H]) f o rfl (by kernel_rfl) g rfl fun l o f g=>⟨fun e=>absurd e (by decide),?_⟩
    refine c_st 1 [sL I k.2.2.1 M] f g rfl fun g l o f=>⟨fun e=>absurd e (by decide),?_⟩
    refine p_qP 1 [] [(1,sL o_x1 x1 c_x1),(2,vI x2),(11,pB Y 0),(12,sL W V X),(13,vI U),(14,pB p 0),(15,pB q 0)] [] f (by kernel_rfl) (fun _=> .nil) fun f g=>c_done ?_
    intro f
    refine k_done' (by kernel_rfl) (by kernel_rfl) (n_then (⟨R,k.1,k.2.1,k.2.2.1,p,q,u,x,y,z,A,B,C,D,F,G,H,I,M,t,g.to,(St.pick 2 [0,1] o (by kernel_rfl)),S,(Ty.mono _ zr P),Z,m⟩))
   ·skip
    refine c_box [N0,N0,N0,N0,N0,N0,N0,N0,N0,N0] 29 ai al fun O f g P Z=>⟨fun _=>Sub.of zr (St.drop 1 P),?_⟩
    refine c_done ?_
    intro f
    have g:=Sub.of zr (St.drop 1 P)
    refine k_seg' 9 [] (by kernel_rfl) (by kernel_rfl) f (by kernel_rfl) (c_done ?_)
    intro f
    refine k_any' 8 [5,11] (by kernel_rfl) f (by kernel_rfl) (by kernel_rfl) ((all_cons ?_ (all_cons ?_ all_nil)))
    ·skip
     obtain ⟨g,f,m⟩:=bind_some K
     refine c_call Z (f22_ok fuel y7 y8 J.kind J.lot J.frm J.to J.mass g f z4 _ _ P e4 q4 aj a0 a1 a2 a3 a4 a5 a6 a7 a8 (Ty.mono _ zr ak)) ?_
     rintro f k l ⟨Q,p,q,t,u,x,y,z,A,B,C,D,G,H,I,rfl,F,R,M,S⟩ o
     refine ⟨fun e=>absurd e (by decide),?_⟩
     refine c_done ?_
     intro f
     refine k_seg' 0 [(6,true),(7,true),(8,true),(9,true),(11,false),(12,false),(13,false),(14,true)] (by kernel_rfl) (by kernel_rfl) f (by kernel_rfl) (p_qP 4 [] [(1,sL o_x1 x1 c_x1),(2,vI x2),(11,pB Y 0),(12,sL W V X),(13,vI U),(14,pB O 0),(49, .agg #[sL p g.1 q,t,u,x,y,z,A,B,C,D]),(50, .agg #[sL G g.2.2.1 H]),(51,vI g.2.2.2)] [] o (by kernel_rfl) (fun _=> .nil) fun k f=>c_box [N0] 49 F f fun F k l f o=>⟨fun _=>Sub.of I (St.drop 2 f),?_⟩)
     have k:=Sub.of I (St.drop 2 f)
     have k:=oneCells_of (Ty.one _ (Ty.mono _ zr M))
     refine p_store_eq (i:=12) (j:=1) (b:=O) (off:=0) (vs:=[sL p g.1 q,t,u,x,y,z,A,B,C,D]) (cs':=[sL p g.1 q,t,u,x,y,z,A,B,C,D]) f o rfl (by kernel_rfl) k rfl fun l o f k=>⟨fun e=>absurd e (by decide),?_⟩
     refine c_st 0 [sL G g.2.2.1 H] f k rfl fun k l o f=>⟨fun e=>absurd e (by decide),?_⟩
     refine p_qP 1 [] [(1,sL o_x1 x1 c_x1),(2,vI x2),(11,pB Y 0),(12,sL W V X),(13,vI U),(14,pB O 0),(15,pB F 0)] [] f (by kernel_rfl) (fun _=> .nil) fun f k=>c_done ?_
     intro f
     refine k_done' (by kernel_rfl) (by kernel_rfl) (n_then (⟨Q,g.1,g.2.1,g.2.2.1,O,F,p,q,t,u,x,y,z,A,B,C,D,G,H,I,k.to,(St.pick 2 [1,0] o (by kernel_rfl)),R,(Ty.mono _ zr M),S,m⟩))
    skip
    refine c_box [N0] 49 P Z fun M f g k l=>⟨fun _=>Sub.of zr (St.drop 2 k),?_⟩
    refine c_done ?_
    intro f
    have g:=Sub.of zr (St.drop 2 k)
    refine k_seg' 0 [(5,false),(6,true),(7,true),(8,true),(9,true),(12,false),(13,false),(14,true)] (by kernel_rfl) (by kernel_rfl) f (by kernel_rfl) ?_
    obtain ⟨f,g,m⟩:=bind_some K
    refine c_call l (f22_ok fuel y7 y8 J.kind J.lot J.frm J.to J.mass f g z4 _ _ k e4 q4 aj a0 a1 a2 a3 a4 a5 a6 a7 a8 (Ty.mono _ zr ak)) ?_
    rintro k C D ⟨P,l,o,p,q,t,u,x,y,z,A,B,F,G,Q,rfl,H,R,I,S⟩ g
    refine ⟨fun e=>absurd e (by decide),?_⟩
    refine p_qP 4 [] [(1,sL o_x1 x1 c_x1),(2,vI x2),(11,pB Y 0),(12,sL W V X),(13,vI U),(14,pB O 0),(15,pB M 0),(49, .agg #[sL l f.1 o,p,q,t,u,x,y,z,A,B]),(50, .agg #[sL F f.2.2.1 G]),(51,vI f.2.2.2)] [] g (by kernel_rfl) (fun _=> .nil) fun g k=>?_
    have g:=oneCells_of (Ty.one _ (Ty.mono _ zr I))
    refine p_store_eq (i:=12) (j:=1) (b:=O) (off:=0) (vs:=[sL l f.1 o,p,q,t,u,x,y,z,A,B]) (cs':=[sL l f.1 o,p,q,t,u,x,y,z,A,B]) H k rfl (by kernel_rfl) g rfl fun C D g k=>⟨fun e=>absurd e (by decide),?_⟩
    refine c_st 0 [sL F f.2.2.1 G] g k rfl fun k C D g=>⟨fun e=>absurd e (by decide),?_⟩
    refine p_qP 1 [] [(1,sL o_x1 x1 c_x1),(2,vI x2),(11,pB Y 0),(12,sL W V X),(13,vI U),(14,pB O 0),(15,pB M 0)] [] g (by kernel_rfl) (fun _=> .nil) fun g k=>c_done ?_
    intro g
    refine k_done' (by kernel_rfl) (by kernel_rfl) (n_then (⟨P,f.1,f.2.1,f.2.2.1,O,M,l,o,p,q,t,u,x,y,z,A,B,F,G,Q,k.to,(St.pick 2 [1,0] D (by kernel_rfl)),R,(Ty.mono _ zr I),S,m⟩))
   skip
   refine c_box [N0] 49 ai al fun R f g O Z=>⟨fun _=>Sub.of zr (St.drop 1 O),?_⟩
   refine c_done ?_
   intro f
   have g:=Sub.of zr (St.drop 1 O)
   refine k_seg' 9 [] (by kernel_rfl) (by kernel_rfl) f (by kernel_rfl) (c_done ?_)
   intro f
   refine k_any' 8 [5,10] (by kernel_rfl) f (by kernel_rfl) (by kernel_rfl) ((all_cons ?_ (all_cons ?_ all_nil)))
   ·skip
    obtain ⟨g,f,m⟩:=bind_some K
    refine c_call Z (f22_ok fuel y7 y8 J.kind J.lot J.frm J.to J.mass g f z4 _ _ O e4 q4 aj a0 a1 a2 a3 a4 a5 a6 a7 a8 (Ty.mono _ zr ak)) ?_
    rintro f k l ⟨P,q,t,u,x,y,z,A,B,C,D,F,G,H,I,rfl,p,Q,M,S⟩ o
    refine ⟨fun e=>absurd e (by decide),?_⟩
    refine c_done ?_
    intro f
    refine k_seg' 0 [(6,true),(7,true),(8,true),(9,true),(10,false),(12,false),(13,false),(14,true)] (by kernel_rfl) (by kernel_rfl) f (by kernel_rfl) (p_qP 4 [] [(1,sL o_x1 x1 c_x1),(2,vI x2),(11,pB Y 0),(12,sL W V X),(13,vI U),(15,pB R 0),(49, .agg #[sL q g.1 t,u,x,y,z,A,B,C,D,F]),(50, .agg #[sL G g.2.2.1 H]),(51,vI g.2.2.2)] [] o (by kernel_rfl) (fun _=> .nil) fun k f=>c_box [N0,N0,N0,N0,N0,N0,N0,N0,N0,N0] 29 p f fun p k l f o=>⟨fun _=>Sub.of I (St.drop 2 f),?_⟩)
    have k:=Sub.of I (St.drop 2 f)
    have k:=oneCells_of (Ty.one _ (Ty.mono _ zr M))
    refine p_store_eq (i:=12) (j:=0) (b:=p) (off:=0) (vs:=[sL q g.1 t,u,x,y,z,A,B,C,D,F]) (cs':=[sL q g.1 t,u,x,y,z,A,B,C,D,F]) f o rfl (by kernel_rfl) k rfl fun l o f k=>⟨fun e=>absurd e (by decide),?_⟩
    refine c_st 1 [sL G g.2.2.1 H] f k rfl fun k l o f=>⟨fun e=>absurd e (by decide),?_⟩
    refine p_qP 1 [] [(1,sL o_x1 x1 c_x1),(2,vI x2),(11,pB Y 0),(12,sL W V X),(13,vI U),(14,pB p 0),(15,pB R 0)] [] f (by kernel_rfl) (fun _=> .nil) fun f k=>c_done ?_
    intro f
    refine k_done' (by kernel_rfl) (by kernel_rfl) (n_then (⟨P,g.1,g.2.1,g.2.2.1,p,R,q,t,u,x,y,z,A,B,C,D,F,G,H,I,k.to,(St.pick 2 [0,1] o (by kernel_rfl)),Q,(Ty.mono _ zr M),S,m⟩))
   skip
   refine c_box [N0,N0,N0,N0,N0,N0,N0,N0,N0,N0] 29 O Z fun I f g k l=>⟨fun _=>Sub.of zr (St.drop 2 k),?_⟩
   refine c_done ?_
   intro f
   have g:=Sub.of zr (St.drop 2 k)
   refine k_seg' 0 [(5,false),(6,true),(7,true),(8,true),(9,true),(12,false),(13,false),(14,true)] (by kernel_rfl) (by kernel_rfl) f (by kernel_rfl) ?_
   obtain ⟨f,g,m⟩:=bind_some K
   refine c_call l (f22_ok fuel y7 y8 J.kind J.lot J.frm J.to J.mass f g z4 _ _ k e4 q4 aj a0 a1 a2 a3 a4 a5 a6 a7 a8 (Ty.mono _ zr ak)) ?_
   rintro k C D ⟨M,l,o,p,q,t,u,x,y,z,A,B,F,G,O,rfl,H,P,J,Q⟩ g
   refine ⟨fun e=>absurd e (by decide),?_⟩
   refine p_qP 4 [] [(1,sL o_x1 x1 c_x1),(2,vI x2),(11,pB Y 0),(12,sL W V X),(13,vI U),(14,pB I 0),(15,pB R 0),(49, .agg #[sL l f.1 o,p,q,t,u,x,y,z,A,B]),(50, .agg #[sL F f.2.2.1 G]),(51,vI f.2.2.2)] [] g (by kernel_rfl) (fun _=> .nil) fun g k=>?_
   have g:=oneCells_of (Ty.one _ (Ty.mono _ zr J))
   refine p_store_eq (i:=12) (j:=0) (b:=I) (off:=0) (vs:=[sL l f.1 o,p,q,t,u,x,y,z,A,B]) (cs':=[sL l f.1 o,p,q,t,u,x,y,z,A,B]) H k rfl (by kernel_rfl) g rfl fun C D g k=>⟨fun e=>absurd e (by decide),?_⟩
   refine c_st 1 [sL F f.2.2.1 G] g k rfl fun k C D g=>⟨fun e=>absurd e (by decide),?_⟩
   refine p_qP 1 [] [(1,sL o_x1 x1 c_x1),(2,vI x2),(11,pB Y 0),(12,sL W V X),(13,vI U),(14,pB I 0),(15,pB R 0)] [] g (by kernel_rfl) (fun _=> .nil) fun g k=>c_done ?_
   intro g
   refine k_done' (by kernel_rfl) (by kernel_rfl) (n_then (⟨M,f.1,f.2.1,f.2.2.1,I,R,l,o,p,q,t,u,x,y,z,A,B,F,G,O,k.to,(St.pick 2 [0,1] D (by kernel_rfl)),P,(Ty.mono _ zr J),Q,m⟩))
  rintro k l ⟨z5,y2,y3,y6,b4,b5,e5,q5,a9,aa,ab,ac,ad,ae,af,ag,ah,e6,q6,H,f,g,I,G,o,m⟩
  refine c_sr (c_n 2 [sL e6 y6 q6] [1,2,11,12,13,14,52,53] f (.cell (g.bx 1 0 rfl rfl) .nil) fun f k=>?_)
  obtain ⟨l,f,K⟩:=bind_some m
  refine c_call k (f65_ok fuel y6 x2 l f z5 _ _ g e6 q6 o) ?_
  rintro g k o ⟨C,D,rfl,F⟩ f
  refine tv (c_t [] [1,2,11,12,13,14,17] f .nil fun f g=>c_mid (fun a w=>∃z:Zone,∃y:List Trail,∃A:Option Addr,∃B:Nat,Zone.le C z∧Fr a 65 [(1,sL o_x1 x1 c_x1),(2,vI x2),(11,pB Y 0),(12,sL A y B),(13,vI U),(14,pB b4 0)]∧St z (box b4 [sL e5 y2 q5,a9,aa,ab,ac,ad,ae,af,ag,ah] 29::box b5 [sL e6 y6 q6] 49::ownS TrailT 120 A B y::box Y [sL e4 y7 q4,a0,a1,a2,a3,a4,a5,a6,a7,a8] 29::emp::box b1 [sL e1 r3.1 q1,v2,v3,v4,v5,v6,v7,v8,v9,am] 29::L) w∧(F29_j2 (F29_l1 fuel x1 x2 n1) U y2 y3 y)=some r) ?_ ?_)
  ·skip
   refine c_sq [] [1,2,11,12,13,14,17,56] g .nil fun f x=>c_if (decide (l > (0:Int))) x (fun o=>?_) (fun o=>?_)
   ·have m:=cond_t o K
    refine c_reg (c_n 4 [] [1,2,11,13,14,57,60] x .nil fun p f=>(p_box (i:=4) (d:=(some 61)) (cs:=[vI U,vI l]) (T:=120) (v:=fun g=> .slice (some ⟨g,0,none⟩) 1 1) F f (fun b=>by kernel_rfl) fun g q t k u=>tv ?_))
    have f:=k.ownBox (T:=TrailT) (E:=120) (n:=1) (xs:=[⟨U,l⟩]) (i:=0) rfl (Rows.cons (c:=[vI U,vI l]) rfl rfl) rfl (by decide)
    obtain ⟨p,k,m⟩:=bind_some m
    refine p_append (T:=TrailT) (i:=5) (j:=3) (d:=some 62) (o2:=(some ⟨g,0,none⟩)) (c2:=1) (ys:=([⟨U,l⟩])) el81 f u rfl (by kernel_rfl) (f.ownSrc (j:=0) rfl) k fun g k q t l f=>tv (c_t [] [1,2,11,12,13,14] f .nil fun q f=>⟨C,p,g,k,zr,f.to,(St.drop 1 l),m⟩)
   have m:=cond_f o K
   refine c_skip (n_then (⟨C,V,W,X,zr,x.to,F,m⟩))
  rintro l o ⟨z,y,A,B,g,k,f,m⟩
  refine c_reg (c_n 1 [sL e5 y2 q5,a9,aa,ab,ac,ad,ae,af,ag,ah] [1,2,11,12,13,63] k (.cell (f.bx 0 0 rfl rfl) (.cell (f.bx 0 1 rfl rfl) (.cell (f.bx 0 2 rfl rfl) (.cell (f.bx 0 3 rfl rfl) (.cell (f.bx 0 4 rfl rfl) (.cell (f.bx 0 5 rfl rfl) (.cell (f.bx 0 6 rfl rfl) (.cell (f.bx 0 7 rfl rfl) (.cell (f.bx 0 8 rfl rfl) (.cell (f.bx 0 9 rfl rfl) .nil)))))))))) fun k l=>?_)
  have k:=oneCells_of (Ty.one _ (Ty.mono _ (zt D g) G))
  refine p_store_eq (i:=1) (j:=3) (b:=Y) (off:=0) (vs:=[sL e5 y2 q5,a9,aa,ab,ac,ad,ae,af,ag,ah]) (cs':=[sL e5 y2 q5,a9,aa,ab,ac,ad,ae,af,ag,ah]) f l rfl (by kernel_rfl) k rfl fun l o k f=>tv (c_done (n_block (n_then (c_q [] [1,2,11,12,13] f .nil fun l f=>(n_then (⟨n1,Nat.lt_succ_self n1,z,y,y2,y3,(w64 (U + (1:Int))),A,B,e5,q5,a9,aa,ab,ac,ad,ae,af,ag,ah,(zt (zt (zt k5 H) D) g),f.to,(St.drop 2 k),(SliceR.mono (zt D g) I),(Ty.mono _ (zt D g) G),m⟩))))))
 have m:=cond_f an ap
 refine c_exit 0 (x_then (x_then (x_block (n_then (c_sq [] [6,7] ao .nil fun g f=>(c_ret ?_))))))
 obtain ⟨g,k,l,o⟩:=aq.share (j:=0) rfl
 refine c_rt [] (.tuple #[sL W V X,vI 0]) f .nil ?_
 obtain rfl:=some_eq m
 exact ⟨_,rfl,g,W,X,(zt (zt (zt (zt k2 k3) k4) k5) k),rfl,(St.drop 4 l),o⟩
def F30_j3 (k1:(List Int)→Int→Option (List Int×Int)) (y1:Int) (y2:List Int):Option (List Int×Int) :=
  (k1 y2 (w64 (y1 + (1:Int))))
def F30_j4 (k1:(List Int)→Int→Option (List Int×Int)) (y3:List Int) (y1:Int) (y4:Int):Option (List Int×Int) :=
  (cond (decide (y4≥(0:Int))) ((appC y3 ([y1])).bind fun d1=>(F30_j3 k1 y1 d1)) (F30_j3 k1 y1 y3))
def F30_l3 (k1:(List Int)→Int→Option (List Int×Int)) (x2:Int) (y3:List Int) (y1:Int) (p1:List (List (Int×Bool))):Nat→Int→Option (List Int×Int)
  | 0,_=>none
  | n1 + 1,y5 =>
    let k2:Int→Option (List Int×Int):=F30_l3 k1 x2 y3 y1 p1 n1
    (cond (decide (y5<(p1.length:Int))) ((getI p1 y5).bind fun p2=>(cond (lkK p2 x2 false) (F30_j4 k1 y3 y1 y5) (k2 (w64 (y5 + (1:Int)))))) (F30_j4 k1 y3 y1 (-1)))
def F30_l2 (fuel:Nat) (x2:Int) (p3:Pl):Nat→(List Int)→Int→Option (List Int×Int)
  | 0,_,_=>none
  | n2 + 1,y3,y1 =>
    let k1:(List Int)→Int→Option (List Int×Int):=F30_l2 fuel x2 p3 n2
    (cond (decide (y1<(9:Int))) ((getI p3.may y1).bind fun p1=>(F30_l3 k1 x2 y3 y1 p1 fuel 0)) (some (y3,0)))
def F30_j2 (fuel:Nat) (x2:Int) (y6:Option Pl) (y7:Int):Option (List Int×Int) :=
  (cond (y7 != (0:Int)) (some ([],y7)) ((y6).bind fun p3=>(F30_l2 fuel x2 p3 fuel ([]) 0)))
def F30_j1 (fuel:Nat) (x0:List Lot) (x2:Int) (y6:Option Pl) (y8:Int) (y9:Int):Option (List Int×Int) :=
  (cond (y9 == (0:Int)) ((F47 fuel x0 ([x2])).bind fun r1=>(F30_j2 fuel x2 y6 r1)) (F30_j2 fuel x2 y6 y9))
def F30_l1 (fuel:Nat) (x0:List Lot) (x1:List Deed) (x2:Int):Nat→Pl→Int→Option (List Int×Int)
  | 0,_,_=>none
  | n3 + 1,y10,y11 =>
    let k3:Pl→Int→Option (List Int×Int):=F30_l1 fuel x0 x1 x2 n3
    (cond (decide (y11<(x1.length:Int))) ((getI x1 y11).bind fun p4=>((F51 fuel y10 p4.kind p4.lot p4.frm p4.to p4.mass).bind fun r2=>(cond (r2.2.2.1 != (0:Int)) (F30_j1 fuel x0 x2 none y11 r2.2.2.1) ((F19 fuel y11 r2.1 r2.2.1 r2.2.2.2).bind fun r3=>(k3 r3 (w64 (y11 + (1:Int)))))))) (F30_j1 fuel x0 x2 (some y10) (x1.length:Int) 0))
def F30 (fuel:Nat) (x0:List Lot) (x1:List Deed) (x2:Int):Option (List Int×Int) :=
  ((F49 fuel x0 x1).bind fun r4=>(cond (r4 != (0:Int)) (F30_j1 fuel x0 x2 none 0 r4) ((F50 fuel x0 ([[],[],[],[],[],[],[],[],[]])).bind fun r5=>(F30_l1 fuel x0 x1 x2 fuel r5 0))))
set_option maxRecDepth 100000 in
theorem f30_ok (fuel:Nat) (x0:List Lot) (x1:List Deed) (x2:Int) (r:List Int×Int) (hr:F30 fuel x0 x1 x2=some r) (h:Zone) (L:List Atom) (w:World) (hS:St h L w) (o_x0:Option Addr) (c_x0:Nat) (hx_x0:SliceR LotT h o_x0 c_x0 x0) (o_x1:Option Addr) (c_x1:Nat) (hx_x1:SliceR DeedT h o_x1 c_x1 x1) :
    Calls Tryz.prog 30 #[.slice o_x0 x0.length c_x0, .slice o_x1 x1.length c_x1,vI x2] w fun e w'=>∃v,e= .returned v∧(∃h',∃o0:Option Addr,∃c0:Nat,Zone.le h h'∧v= .tuple #[.slice o0 r.1.length c0,vI r.2]∧St h' L w'∧SliceR Ty.int h' o0 c0 r.1):=by
 refine calls_intro (N:=47) Tryz.func30 (by kernel_rfl) fun a hf=>c_sr (c_box [vI x2] 3 hS hf fun b1 p q x g=>tv (c_t [] [0,1,5] g .nil fun s l=>(c_sr (c_n 2 [] [0,5,15,16] l .nil fun u m=>(c_call (f:=18) (args:= #[sL o_x0 x0 c_x0,sL o_x1 x1 c_x1, .func (.func 19) #[] #[]]) (Φ:=fun v w=>∃X:Zone,∃S:Option Pl,∃Y:Int,∃Z:Int,∃U:Option Addr,Zone.le h X∧v= .tuple #[.pointer U,vI Y,vI Z]∧St X (plO 69 49 101 U S::box b1 [vI x2] 3::L) w∧(F30_j1 fuel x0 x2 S Y Z)=some r) m ?_ ?_)))))
 ·refine calls_intro (N:=50) Tryz.func18 (by kernel_rfl) fun l g=>c_sq [] [0,1,2] g .nil fun l g=>c_seq (c_sr (c_n 2 [] [0,1,2,15,16] g .nil fun g l=>?_))
  obtain ⟨p,g,a2⟩:=bind_some hr
  refine c_call l (f49_ok fuel x0 x1 p g h _ _ x o_x0 c_x0 hx_x0 o_x1 c_x1 hx_x1) ?_
  rintro l m q ⟨s,R,rfl,u⟩ g
  refine tv (c_t [] [0,1,2,9] g .nil fun l g=>c_sq [] [0,1,2,9,19] g .nil fun g m=>c_if (p != (0:Int)) m (fun l=>?_) (fun l=>?_))
  ·have K:=cond_t l a2
   refine c_sq [] [6,7,8] m .nil fun q g=>c_ret (r_then (c_rt [] (.tuple #[.pointer none,vI 0,vI p]) g .nil ?_))
   have g:=u.plNone 69 49 101
   exact ⟨_,rfl,s,none,0,p,none,R,rfl,(St.pick 1 [0] g (by kernel_rfl)),K⟩
  have K:=cond_f l a2
  refine c_skip (n_then (c_sr (c_n 2 [] [1,2,22] m .nil fun g l=>?_)))
  obtain ⟨m,g,K⟩:=bind_some K
  refine c_call l (f50_ok fuel x0 ([[],[],[],[],[],[],[],[],[]]) m g s _ _ u o_x0 c_x0 (SliceR.mono R hx_x0) (N0) (N0) (N0) (N0) (N0) (N0) (N0) (N0) (N0) ⟨rfl,(Rows.cons (c:=[_]) (sliceRep (SliceR.nil' _ _)) (Rows.cons (c:=[_]) (sliceRep (SliceR.nil' _ _)) (Rows.cons (c:=[_]) (sliceRep (SliceR.nil' _ _)) (Rows.cons (c:=[_]) (sliceRep (SliceR.nil' _ _)) (Rows.cons (c:=[_]) (sliceRep (SliceR.nil' _ _)) (Rows.cons (c:=[_]) (sliceRep (SliceR.nil' _ _)) (Rows.cons (c:=[_]) (sliceRep (SliceR.nil' _ _)) (Rows.cons (c:=[_]) (sliceRep (SliceR.nil' _ _)) (Rows.cons (c:=[_]) (sliceRep (SliceR.nil' _ _)) rfl)))))))))⟩) ?_
  rintro p q s ⟨l,F,V,rfl,u⟩ g
  refine tv (c_t [] [1,2,10] g .nil fun p g=>c_seq (c_sq [] [1,2,10,24,25,26] g .nil fun p g=>(c_block 0 (c_loop (fun n a w=>∃G:Zone,∃H:Pl,∃y:Int,Zone.le l G∧Fr a 50 [(1,sL o_x1 x1 c_x1),(2, .func (.func 19) #[] #[]),(10,pB F 0),(24,sL o_x1 x1 c_x1),(25,vI (x1.length:Int)),(26,vI y)]∧St G (plA 69 49 101 F H::box b1 [vI x2] 3::L) w∧(F30_l1 fuel x0 x1 x2 n H y)=some r) fuel ⟨l,m,0,zr,g.to,u,K⟩ ?_))))
  rintro g l m ⟨G,H,y,J,p,B,a4⟩
  cases g with
  | zero=>cases a4
  | succ W =>
  refine c_sq [] [1,2,10,24,25,26,27] p .nil fun g Q=>c_seq (c_if (decide (y<(x1.length:Int))) Q (fun M=>?_) (fun M=>?_))
  ·have K:=cond_t M a4
   refine c_skip (n_then (c_seq (c_block 1 (c_sr ?_))))
   obtain ⟨g,l,K⟩:=bind_some K
   obtain ⟨m,p,q,s,rfl,l⟩:=SliceR.getI (SliceR.mono (zt (zt R V) J) hx_x1) l
   refine c_n 3 [.pointer (some m),vI g.kind,vI g.lot,vI g.frm,vI g.to,vI g.mass] [1,2,10,24,25,26,28,30] Q (.prop p (.prop q (.cell (B.cell (l 0 _ rfl)) (.cell (B.cell (l 1 _ rfl)) (.cell (B.cell (l 2 _ rfl)) (.cell (B.cell (l 3 _ rfl)) (.cell (B.cell (l 4 _ rfl)) .nil))))))) fun m l=>c_box [vI 0,vI 0,vI 0,vI 0,vI 0] 74 B l fun p q s m l=>tv (c_n 1 [] [1,2,10,11,12,24,25,26,30] l .nil fun p l=>c_st 0 [vI g.kind,vI g.lot,vI g.frm,vI g.to,vI g.mass] m l rfl fun p q l m=>tv (c_dt (c_sr (c_n 2 [vI g.kind,vI g.lot,vI g.frm,vI g.to,vI g.mass] [1,2,10,11,24,25,26,32,33] m (.cell (l.bx 0 0 rfl rfl) (.cell (l.bx 0 1 rfl rfl) (.cell (l.bx 0 2 rfl rfl) (.cell (l.bx 0 3 rfl rfl) (.cell (l.bx 0 4 rfl rfl) .nil))))) fun m q=>?_))))
   have l:=St.swapTo (i:=2) (j:=0) (St.addEmp l) rfl rfl (by decide)
   have p:=l
   obtain ⟨m,l,a2⟩:=bind_some K
   refine c_call q (f51_ok fuel H g.kind g.lot g.frm g.to g.mass m l G _ _ F p ) ?_
   rintro l p q ⟨C,u,x,A,I,rfl,g,O,P⟩ s
   have g:=St.swapTo (i:=0) (j:=2) g rfl rfl (by decide)
   have l:=g
   refine tv (c_n 3 [] [1,2,10,11,24,25,26,35,36] s .nil fun p g=>c_box [N0, .map none] 103 l g fun p q s g l=>tv (c_st 0 [sL u m.1 x, .map A] g l rfl fun l p q g=>tv (c_t [] [1,2,10,11,13,14,24,25,26] g .nil fun l g=>c_seq (c_sq [] [1,2,10,11,13,14,24,25,26,38] g .nil fun g p=>(c_if (m.2.2.1 != (0:Int)) p (fun l=>?_) (fun l=>?_))))))
   ·have K:=cond_t l a2
    refine c_sq [] [6,7,8] p .nil fun s g=>c_ret (r_then (r_block (r_then (r_then (r_block (r_then (c_rt [] (.tuple #[.pointer none,vI y,vI m.2.2.1]) g .nil ?_)))))))
    have g:=q.plNone 69 49 101
    exact ⟨_,rfl,C,none,y,m.2.2.1,none,(zt (zt (zt R V) J) I),rfl,(St.pick 5 [0] g (by kernel_rfl)),K⟩
   have K:=cond_f l a2
   refine c_skip (n_then (c_reg (c_n 4 [sL u m.1 x, .map A] [1,2,10,24,25,26,41,42,43,44] p (.cell (q.bx 0 0 rfl rfl) (.cell (q.bx 0 1 rfl rfl) .nil)) fun g p=>?_)))
   have g:=St.swapTo (i:=4) (j:=0) (St.addEmp q) rfl rfl (by decide)
   have l:=g
   obtain ⟨q,g,K⟩:=bind_some K
   refine c_call p (f19_ok fuel y m.1 m.2.1 m.2.2.2 q g C _ _ F l u x O A P) ?_
   rintro l m p ⟨u,x,rfl,g⟩ s
   have g:=St.swapTo (i:=0) (j:=4) g rfl rfl (by decide)
   have l:=g
   refine tv (c_done (n_block (n_then (c_q [] [1,2,10,24,25,26] s .nil fun m g=>(n_then (⟨W,Nat.lt_succ_self W,u,q,(w64 (y + (1:Int))),(zt (zt J I) x),g.to,(St.drop 4 l),K⟩))))))
  have K:=cond_f M a4
  refine c_exit 0 (x_then (x_then (x_block (n_then (c_sq [] [6,7,8] Q .nil fun l g=>(c_ret (c_rt [] (.tuple #[pB F 0,vI (x1.length:Int),vI 0]) g .nil ?_)))))))
  have g:=B.plSome (i:=0) rfl
  exact ⟨_,rfl,G,(some H),(x1.length:Int),0,(some ⟨F,0,none⟩),(zt (zt R V) J),rfl,(St.pick 1 [0] g (by kernel_rfl)),K⟩
 rintro l m p ⟨X,S,Y,Z,U,k9,rfl,F,a2⟩ g
 refine tv (c_t [] [0,5,8,10] g .nil fun g l=>c_mid (fun a w=>∃Y:Zone,∃B:Int,Zone.le X Y∧Fr a 47 [(5,pB b1 0),(8, .pointer U),(10,vI B)]∧St Y (plO 69 49 101 U S::box b1 [vI x2] 3::L) w∧(F30_j2 fuel x2 S B)=some r) ?_ ?_)
 ·skip
  refine c_sq [] [0,5,8,10,22] l .nil fun g C=>c_if (Z == (0:Int)) C (fun A=>?_) (fun A=>?_)
  ·have K:=cond_t A a2
   refine c_reg (c_n 2 [vI x2] [5,8,23,24] C (.cell (F.bx 1 0 rfl rfl) .nil) fun p g=>(p_box (i:=2) (d:=(some 25)) (cs:=[vI x2]) (T:=3) (v:=fun l=> .slice (some ⟨l,0,none⟩) 1 1) F g (fun b=>by kernel_rfl) fun l q s m x=>tv ?_))
   have g:=m.ownBox (T:=Ty.int) (E:=3) (n:=1) (xs:=[x2]) (i:=0) rfl (Rows.cons (c:=[vI x2]) rfl rfl) rfl (by decide)
   obtain ⟨m,u,p,q⟩:=g.share (j:=0) rfl
   obtain ⟨s,g,K⟩:=bind_some K
   refine c_call x (f47_ok fuel x0 ([x2]) s g m _ _ p o_x0 c_x0 (SliceR.mono (zt k9 u) hx_x0) (some ⟨l,0,none⟩) 1 q) ?_
   rintro l m p ⟨q,x,rfl,y⟩ g
   refine tv (c_t [] [5,8,10] g .nil fun l g=>⟨q,s,(zt u x),g.to,(St.drop 1 y),K⟩)
  have K:=cond_f A a2
  refine c_skip (n_then (⟨X,Z,zr,C.to,F,K⟩))
 rintro l m ⟨Y,B,ae,g,q,a2⟩
 refine c_seq (c_sq [] [5,8,10,28] g .nil fun g m=>(c_if (B != (0:Int)) m (fun l=>?_) (fun l=>?_)))
 ·have K:=cond_t l a2
  refine c_sq [] [6,7] m .nil fun p g=>c_ret (r_then (c_rt [] (.tuple #[N0,vI B]) g .nil ?_))
  obtain rfl:=some_eq K
  exact ⟨_,rfl,Y,none,0,(zt k9 ae),rfl,(St.drop 2 q),SliceR.nil' _ _⟩
 have K:=cond_f l a2
 refine c_skip (n_then (c_sq [] [5,8,11] m .nil fun g m=>(c_seq (c_seq ?_))))
 obtain ⟨x,g,K⟩:=bind_some K
 rw [g] at q
 obtain ⟨b6,g,l⟩:=q.plGet (i:=0) rfl
 subst g
 obtain ⟨e3,q2,O,P,Q,R,S,U,V,W,X,y,A,B,C,F,G,H,I,J,af,g⟩:=l.plOpen (i:=0) rfl
 refine c_q [y,A,B,C,F,G,H,I,J] [5,11,33,34] m (.cell (g.bx 2 10 rfl rfl) (.cell (g.bx 2 11 rfl rfl) (.cell (g.bx 2 12 rfl rfl) (.cell (g.bx 2 13 rfl rfl) (.cell (g.bx 2 14 rfl rfl) (.cell (g.bx 2 15 rfl rfl) (.cell (g.bx 2 16 rfl rfl) (.cell (g.bx 2 17 rfl rfl) (.cell (g.bx 2 18 rfl rfl) .nil))))))))) fun l m=>n_then (c_block 0 ?_)
 have g:=g.ownNil Ty.int 3
 refine c_loop (fun n a w=>∃M:Zone,∃y3:List Int,∃y1:Int,∃e4:Option Addr,∃q3:Nat,Zone.le Y M∧Fr a 47 [(5,pB b1 0),(11,sL e4 y3 q3),(33, .agg #[y,A,B,C,F,G,H,I,J]),(34,vI y1)]∧St M (ownS Ty.int 3 e4 q3 y3::ownA (Ty.slice PartT) 49 [O,P,Q,R,S,U,V,W,X] x.holds::ownA (Ty.map Value.bool) 101 [y,A,B,C,F,G,H,I,J] x.may::box b6 [sL e3 x.lots q2,O,P,Q,R,S,U,V,W,X,y,A,B,C,F,G,H,I,J] 69::box b1 [vI x2] 3::L) w∧(F30_l2 fuel x2 x n y3 y1)=some r) fuel ⟨Y,[],0,none,0,zr,m.to,g,K⟩ ?_
 rintro g l m ⟨M,y3,y1,e4,q3,ac,p,ad,ab⟩
 cases g with
 | zero=>cases ab
 | succ n2 =>
 refine c_sq [] [5,11,33,34,35] p .nil fun g aa=>c_seq (c_if (decide (y1<(9:Int))) aa (fun a9=>?_) (fun a9=>?_))
 ·have K:=cond_t a9 ab
  refine c_skip (n_then (c_mid (fun a w=>∃a6:Zone,∃y2:List Int,∃e5:Option Addr,∃q4:Nat,Zone.le M a6∧Fr a 47 [(5,pB b1 0),(11,sL e5 y2 q4),(33, .agg #[y,A,B,C,F,G,H,I,J]),(34,vI y1)]∧St a6 (ownS Ty.int 3 e5 q4 y2::ownA (Ty.slice PartT) 49 [O,P,Q,R,S,U,V,W,X] x.holds::ownA (Ty.map Value.bool) 101 [y,A,B,C,F,G,H,I,J] x.may::box b6 [sL e3 x.lots q2,O,P,Q,R,S,U,V,W,X,y,A,B,C,F,G,H,I,J] 69::box b1 [vI x2] 3::L) w∧(F30_j3 (F30_l2 fuel x2 x n2) y1 y2)=some r) ?_ ?_))
  ·skip
   refine c_block 1 ?_
   obtain ⟨u,a8,K⟩:=bind_some K
   obtain ⟨g,l,a7,p,a3⟩:=ad.ownOpen (j:=2) rfl a8
   have m:=arrIdx a7
   refine c_sq [sL g u l] [5,11,12,13,33,34] aa (.prop p (.prop m .nil)) fun p m=>c_sr (c_n 2 [] [5,11,12,33,34,38,39] m .nil fun Y m=>(p_inl (i:=2) (d:=some 40) (f:=45) (args:= #[sL g u l, .func (.func 66) #[] #[pB b1 0]]) (N':=9) m (by kernel_rfl) Tryz.func45 (by kernel_rfl) fun Z p=>(c_sq [] [0,1] p .nil fun a0 q=>(c_sr (c_n 2 [] [5,6] q .nil fun a1 s=>(c_call (f:=76) (args:= #[sL g u l, .func (.func 66) #[] #[pB b1 0]]) (Φ:=fun v w=>∃a5:Zone,∃y4:Int,Zone.le M a5∧v=vI y4∧St a5 (ownS (Ty.map Value.bool) 101 g l u::ownS Ty.int 3 e4 q3 y3::ownA (Ty.slice PartT) 49 [O,P,Q,R,S,U,V,W,X] x.holds::ownH (Ty.map Value.bool) 101 [y,A,B,C,F,G,H,I,J] x.may (Int.toNat y1)::box b6 [sL e3 x.lots q2,O,P,Q,R,S,U,V,W,X,y,A,B,C,F,G,H,I,J] 69::box b1 [vI x2] 3::L) w∧(F30_j4 (F30_l2 fuel x2 x n2) y3 y1 y4)=some r) s ?_ ?_))))))
   ·refine calls_intro (N:=19) Tryz.func76 (by kernel_rfl) fun p m=>c_sq [] [0,1] m .nil fun p m=>c_seq (c_sq [] [0,1,7,8] m .nil fun p m=>(c_block 0 (c_loop (fun n a w=>∃Z:Zone,∃Y:Int,Zone.le M Z∧Fr a 19 [(0,sL g u l),(1, .func (.func 66) #[] #[pB b1 0]),(7,vI (u.length:Int)),(8,vI Y)]∧St Z (ownS (Ty.map Value.bool) 101 g l u::ownS Ty.int 3 e4 q3 y3::ownA (Ty.slice PartT) 49 [O,P,Q,R,S,U,V,W,X] x.holds::ownH (Ty.map Value.bool) 101 [y,A,B,C,F,G,H,I,J] x.may (Int.toNat y1)::box b6 [sL e3 x.lots q2,O,P,Q,R,S,U,V,W,X,y,A,B,C,F,G,H,I,J] 69::box b1 [vI x2] 3::L) w∧(F30_l3 (F30_l2 fuel x2 x n2) x2 y3 y1 u n Y)=some r) fuel ⟨M,0,zr,m.to,a3,K⟩ ?_)))
    rintro g l m ⟨Z,Y,F,p,A,a4⟩
    cases g with
    | zero=>cases a4
    | succ G =>
    refine c_sq [] [0,1,7,8,9] p .nil fun g C=>c_seq (c_if (decide (Y<(u.length:Int))) C (fun B=>?_) (fun B=>?_))
    ·have K:=cond_t B a4
     refine c_skip (n_then (c_seq (c_block 1 (c_sq [] [0,1,5,7,8] C .nil fun g x=>(c_sr ?_)))))
     obtain ⟨u,g,a2⟩:=bind_some K
     obtain ⟨m,p,q,l,g,s⟩:=A.ownGet (j:=0) rfl g
     obtain ⟨l,rfl,y⟩:=g
     refine c_n 5 [.pointer (some m), .map l] [0,1,5,7,8,11,15] x (.prop p (.prop q (.cell (s 0 _ rfl) .nil))) fun m g=>p_inl (i:=5) (d:=some 16) (f:=66) (args:= #[.map l,pB b1 0]) (N':=7) g (by kernel_rfl) Tryz.func66 (by kernel_rfl) fun m g=>c_sq [] [0,1] g .nil fun m g=>c_sr (c_n 2 [vI x2] [4,5] g (.cell (A.bx 5 0 rfl rfl) .nil) fun q g=>(p_lookup (i:=2) (d:=(some 6)) (t:=101) (o:=l) (k:=x2) (c:=false) (z:=false) (D:=u) g (by kernel_rfl) mp101 (MapR.look y A) fun s l=>tv (c_t [] [3] l .nil fun x m=>(c_ret (c_rt [] (.bool (lkK u x2 false)) m .nil (⟨_,rfl,fun y p=>?_⟩))))))
     refine tv (c_dt (c_if (lkK u x2 false) p (fun g=>?_) (fun g=>?_)))
     ·have K:=cond_t g a2
      refine c_sq [] [4] p .nil fun m l=>c_ret (r_block (r_then (r_then (r_block (r_then (c_rt [] (vI Y) l .nil (⟨_,rfl,Z,Y,F,rfl,A,K⟩)))))))
     have K:=cond_f g a2
     refine c_skip (n_block (n_then (c_q [] [0,1,7,8] p .nil fun l g=>(n_then (⟨G,Nat.lt_succ_self G,Z,(w64 (Y + (1:Int))),F,g.to,A,K⟩)))))
    have K:=cond_f B a4
    refine c_exit 0 (x_then (x_then (x_block (n_then (c_sq [] [4] C .nil fun l g=>(c_ret (c_rt [] (vI (-1)) g .nil (⟨_,rfl,Z, -1,F,rfl,A,K⟩))))))))
   rintro l m p ⟨a5,y4,C,rfl,q,a2⟩ g
   refine tv (c_t [] [4] g .nil fun l g=>c_ret (c_rt [] (.bool (decide (y4≥(0:Int)))) g .nil (⟨_,rfl,fun g A=>?_⟩)))
   refine tv (c_done ?_)
   have B:=q.ownClose' (j:=3) (k:=0) rfl rfl (by decide) a7 (getI_spec a8).2
   refine n_then (c_if (decide (y4≥(0:Int))) A (fun p=>?_) (fun p=>?_))
   ·have K:=cond_t p a2
    refine c_reg (c_n 2 [] [5,33,34,41,42] A .nil fun q g=>(p_box (i:=2) (d:=(some 43)) (cs:=[vI y1]) (T:=3) (v:=fun l=> .slice (some ⟨l,0,none⟩) 1 1) B g (fun b=>by kernel_rfl) fun l s u m x=>tv ?_))
    have g:=m.ownBox (T:=Ty.int) (E:=3) (n:=1) (xs:=[y1]) (i:=0) rfl (Rows.cons (c:=[vI y1]) rfl rfl) rfl (by decide)
    obtain ⟨y,m,K⟩:=bind_some K
    refine p_append (T:=Ty.int) (i:=3) (j:=2) (d:=some 44) (o2:=(some ⟨l,0,none⟩)) (c2:=1) (ys:=([y1])) el76 g x rfl (by kernel_rfl) (g.ownSrc (j:=0) rfl) m fun l m q s u g=>tv (c_z [] [5,11,33,34] g .nil fun q g=>n_block (n_then (⟨a5,y,l,m,C,g.to,(St.drop 2 u),K⟩)))
   have K:=cond_f p a2
   refine c_skip (n_block (n_then (⟨a5,y3,e4,q3,C,A.to,(St.drop 1 B),K⟩)))
  rintro l m ⟨a6,y2,e5,q4,p,g,q,K⟩
  refine c_q [] [5,11,33,34] g .nil fun l g=>n_then (⟨n2,Nat.lt_succ_self n2,a6,y2,(w64 (y1 + (1:Int))),e5,q4,(zt ac p),g.to,q,K⟩)
 have K:=cond_f a9 ab
 refine c_exit 0 (x_then (x_then (x_block (n_then (c_seq (c_q [] [6,7] aa .nil fun g q=>?_))))))
 have g:=ad.plClose (i:=3) (j:=1) (k:=2) rfl (SliceR.mono ac af) rfl rfl (by decide) (by decide) (by decide)
 refine n_then (c_ret ?_)
 obtain ⟨g,l,m,p⟩:=g.share (j:=0) rfl
 refine c_rt [] (.tuple #[sL e4 y3 q3,vI 0]) q .nil ?_
 obtain rfl:=some_eq K
 exact ⟨_,rfl,g,e4,q3,(zt (zt (zt k9 ae) ac) l),rfl,(St.drop 5 m),p⟩
def F103_l1 (fuel:Nat) (x0:List (List Part)):Nat→Int→Int→Option (Int)
  | 0,_,_=>none
  | n1 + 1,y1,y2 =>
    let k1:Int→Int→Option (Int):=F103_l1 fuel x0 n1
    (cond (decide (y1 > (0:Int))) ((getI x0 (w64 (y2 - (1:Int)))).bind fun p1=>((F82 fuel p1).bind fun r1=>(k1 (w64 (y1 - r1)) (w64 (y2 - (1:Int)))))) (some (y2)))
def F103 (fuel:Nat) (x0:List (List Part)) (x1:Int):Option (Int) :=
  (F103_l1 fuel x0 fuel x1 (x0.length:Int))
set_option maxRecDepth 100000 in
theorem f103_ok (fuel:Nat) (x0:List (List Part)) (x1:Int) (r:Int) (hr:F103 fuel x0 x1=some r) (h:Zone) (L:List Atom) (w:World) (hS:St h L w) (o_x0:Option Addr) (c_x0:Nat) (hx_x0:SliceR (Ty.slice PartT) h o_x0 c_x0 x0) :
    Calls Tryz.prog 103 #[.slice o_x0 x0.length c_x0,vI x1] w fun e w'=>∃v,e= .returned v∧(∃h',Zone.le h h'∧v=vI r∧St h' L w'):=by
 refine calls_intro (N:=20) Tryz.func103 (by kernel_rfl) fun a hf=>c_sq [] [0,1] hf .nil fun c b=>c_sq [] [0,1,5] b .nil fun c b=>c_seq (c_block 0 (c_loop (fun n a w=>∃q:Zone,∃m:Int,∃p:Int,Zone.le h q∧Fr a 20 [(0,sL o_x0 x0 c_x0),(1,vI m),(5,vI p)]∧St q (L) w∧(F103_l1 fuel x0 n m p)=some r) fuel ⟨h,x1,(x0.length:Int),zr,b.to,hS,hr⟩ ?_))
 rintro b c d ⟨q,m,p,y,g,z,u⟩
 cases b with
 | zero=>cases u
 | succ x =>
 refine c_seq (c_sq [] [0,1,5,9] g .nil fun b t=>(c_if (decide (m > (0:Int))) t (fun s=>?_) (fun s=>?_)))
 ·have f:=cond_t s u
  refine c_skip (n_then (c_block 1 (c_sq [] [0,1,5] t .nil fun b o=>(c_reg ?_))))
  obtain ⟨k,b,f⟩:=bind_some f
  obtain ⟨d,g,i,c,b,j⟩:=SliceR.getI (SliceR.mono y hx_x0) b
  obtain ⟨b,c,rfl,l⟩:=b
  refine c_n 5 [.pointer (some d),sL b k c] [0,5,12,16] o (.prop g (.prop i (.cell (z.cell (j 0 _ rfl)) .nil))) fun d g=>?_
  obtain ⟨i,d,f⟩:=bind_some f
  refine c_call g (f82_ok fuel k i d q _ _ z b c l) ?_
  rintro c d g ⟨j,k,rfl,l⟩ b
  refine tv (c_z [] [0,1,5] b .nil fun c b=>n_block (n_then (⟨x,Nat.lt_succ_self x,j,(w64 (m - i)),(w64 (p - (1:Int))),(zt y k),b.to,l,f⟩)))
 have f:=cond_f s u
 refine c_exit 0 (x_then (x_then (x_block (n_then (c_sq [] [4] t .nil fun c b=>(c_ret (c_rt [] (vI p) b .nil ?_)))))))
 obtain rfl:=some_eq f
 exact ⟨_,rfl,q,y,rfl,z⟩
def F104_j1 (k1:(List Bool)→Int→Option (List Bool)) (y1:Int) (y2:List Bool):Option (List Bool) :=
  (k1 y2 (w64 (y1 + (1:Int))))
def F104_l2 (x0:List (List Part)) (x1:List Bool) (y3:List Int) (r1:List Int):Nat→(List Bool)→Int→Option (List Bool)
  | 0,_,_=>none
  | n1 + 1,y4,y1 =>
    let k1:(List Bool)→Int→Option (List Bool):=F104_l2 x0 x1 y3 r1 n1
    (cond (decide (y1<(x0.length:Int))) ((getI r1 y1).bind fun p1=>((getI y3 y1).bind fun p2=>(cond (decide (p1<p2)) ((getI x1 y1).bind fun p3=>((appC y4 ([p3])).bind fun d1=>(F104_j1 k1 y1 d1))) (F104_j1 k1 y1 y4)))) (some (y4)))
def F104_l1 (fuel:Nat) (x0:List (List Part)) (x1:List Bool) (x2:Int):Nat→(List Int)→Int→Option (List Bool)
  | 0,_,_=>none
  | n2 + 1,y3,y5 =>
    let k2:(List Int)→Int→Option (List Bool):=F104_l1 fuel x0 x1 x2 n2
    (cond (decide (y5<(x0.length:Int))) ((getI x0 y5).bind fun p4=>((F82 fuel p4).bind fun r2=>((appC y3 ([r2])).bind fun d2=>(k2 d2 (w64 (y5 + (1:Int))))))) ((F84 fuel x2 y3).bind fun r1=>(F104_l2 x0 x1 y3 r1 fuel ([]) 0)))
def F104 (fuel:Nat) (x0:List (List Part)) (x1:List Bool) (x2:Int):Option (List Bool) :=
  (F104_l1 fuel x0 x1 x2 fuel ([]) 0)
set_option maxRecDepth 100000 in
theorem f104_ok (fuel:Nat) (x0:List (List Part)) (x1:List Bool) (x2:Int) (r:List Bool) (hr:F104 fuel x0 x1 x2=some r) (h:Zone) (L:List Atom) (w:World) (hS:St h L w) (o_x0:Option Addr) (c_x0:Nat) (hx_x0:SliceR (Ty.slice PartT) h o_x0 c_x0 x0) (o_x1:Option Addr) (c_x1:Nat) (hx_x1:SliceR Ty.bool h o_x1 c_x1 x1) :
    Calls Tryz.prog 104 #[.slice o_x0 x0.length c_x0, .slice o_x1 x1.length c_x1,vI x2] w fun e w'=>∃v,e= .returned v∧(∃h',∃o0:Option Addr,∃c0:Nat,Zone.le h h'∧v= .slice o0 r.length c0∧St h' (ownS Ty.bool 4 o0 c0 r::L) w'):=by
 refine calls_intro (N:=52) Tryz.func104 (by kernel_rfl) fun a hf=>c_sq [] [0,1,2] hf .nil fun g f=>c_sq [] [0,1,2,7] f .nil fun g f=>c_seq (c_sq [] [0,1,2,7,8] f .nil fun f g=>(c_block 0 ?_))
 have f:=hS.ownNil Ty.int 3
 refine c_loop (fun n a w=>∃t:Zone,∃x:List Int,∃u:Int,∃K:Option Addr,∃M:Nat,Zone.le h t∧Fr a 52 [(0,sL o_x0 x0 c_x0),(1,sL o_x1 x1 c_x1),(2,vI x2),(7,sL K x M),(8,vI u)]∧St t (ownS Ty.int 3 K M x::L) w∧(F104_l1 fuel x0 x1 x2 n x u)=some r) fuel ⟨h,[],0,none,0,zr,g.to,f,hr⟩ ?_
 rintro f g k ⟨t,x,u,K,M,X,l,A,J⟩
 cases f with
 | zero=>cases J
 | succ B =>
 refine c_seq (c_sq [] [0,1,2,7,8,15] l .nil fun f z=>(c_if (decide (u<(x0.length:Int))) z (fun y=>?_) (fun y=>?_)))
 ·have o:=cond_t y J
  refine c_skip (n_then (c_seq (c_block 1 (c_reg ?_))))
  obtain ⟨q,f,o⟩:=bind_some o
  obtain ⟨g,l,m,k,f,p⟩:=SliceR.getI (SliceR.mono X hx_x0) f
  obtain ⟨f,k,rfl,s⟩:=f
  refine c_n 5 [.pointer (some g),sL f q k] [0,1,2,8,18,22] z (.prop l (.prop m (.cell (A.cell (p 0 _ rfl)) .nil))) fun g m=>?_
  obtain ⟨g,l,o⟩:=bind_some o
  refine c_call m (f82_ok fuel q g l t _ _ A f k s) ?_
  rintro f m p ⟨s,t,rfl,k⟩ l
  refine tv (p_box (i:=6) (d:=(some 24)) (cs:=[vI g]) (T:=3) (v:=fun f=> .slice (some ⟨f,0,none⟩) 1 1) k l (fun b=>by kernel_rfl) fun f l m k p=>tv ?_)
  have k:=k.ownBox (T:=Ty.int) (E:=3) (n:=1) (xs:=[g]) (i:=0) rfl (Rows.cons (c:=[vI g]) rfl rfl) rfl (by decide)
  obtain ⟨q,l,o⟩:=bind_some o
  refine p_append (T:=Ty.int) (i:=7) (j:=1) (d:=some 25) (o2:=(some ⟨f,0,none⟩)) (c2:=1) (ys:=([g])) el76 k p rfl (by kernel_rfl) (k.ownSrc (j:=0) rfl) l fun g k l m p f=>tv (c_z [] [0,1,2,7,8] f .nil fun l f=>n_block (n_then (c_q [] [0,1,2,7,8] f .nil fun l f=>(n_then (⟨B,Nat.lt_succ_self B,s,q,(w64 (u + (1:Int))),g,k,(zt X t),f.to,(St.drop 1 p),o⟩)))))
 have o:=cond_f y J
 refine c_exit 0 (x_then (x_then (x_block (n_then (c_sr (c_n 2 [] [0,1,7,26,27] z .nil fun f l=>?_))))))
 obtain ⟨g,Y,k,R⟩:=A.share (j:=0) rfl
 obtain ⟨m,f,o⟩:=bind_some o
 refine c_call l (f84_ok fuel x2 x m f g _ _ k K M R) ?_
 rintro g k l ⟨p,s,t,V,rfl,q,u⟩ f
 refine tv (c_t [] [0,1,7,9] f .nil fun g f=>c_sq [] [0,1,7,9,10] f .nil fun g f=>c_seq (c_sq [] [0,1,7,9,10,11] f .nil fun f g=>(c_block 2 ?_)))
 have f:=q.ownNil Ty.bool 4
 refine c_loop (fun n a w=>∃B:Zone,∃C:List Bool,∃z:Int,∃D:Option Addr,∃F:Nat,Zone.le p B∧Fr a 52 [(0,sL o_x0 x0 c_x0),(1,sL o_x1 x1 c_x1),(7,sL K x M),(9,sL s m t),(10,sL D C F),(11,vI z)]∧St B (ownS Ty.bool 4 D F C::emp::L) w∧(F104_l2 x0 x1 x m n C z)=some r) fuel ⟨p,[],0,none,0,zr,g.to,f,o⟩ ?_
 rintro f g k ⟨B,C,z,D,F,O,l,W,U⟩
 cases f with
 | zero=>cases U
 | succ P =>
 refine c_seq (c_sq [] [0,1,7,9,10,11,32] l .nil fun f S=>(c_if (decide (z<(x0.length:Int))) S (fun Q=>?_) (fun Q=>?_)))
 ·have o:=cond_t Q U
  refine c_skip (n_then (c_mid (fun a w=>∃G:Zone,∃A:List Bool,∃H:Option Addr,∃I:Nat,Zone.le B G∧Fr a 52 [(0,sL o_x0 x0 c_x0),(1,sL o_x1 x1 c_x1),(7,sL K x M),(9,sL s m t),(10,sL H A I),(11,vI z)]∧St G (ownS Ty.bool 4 H I A::emp::L) w∧(F104_j1 (F104_l2 x0 x1 x m P) z A)=some r) ?_ ?_))
  ·skip
   refine c_block 3 ?_
   have y:=W.drew
   obtain ⟨p,f,o⟩:=bind_some o
   obtain ⟨q,s,t,f,rfl,u⟩:=SliceR.getI (SliceR.mono O u) f
   obtain ⟨f,g,J⟩:=bind_some o
   obtain ⟨g,k,l,x,rfl,m⟩:=SliceR.getI (SliceR.mono (zt V O) R) g
   refine c_sqD [(0,true),(1,true),(2,true),(3,true),(4,true),(5,true),(6,true),(7,true),(8,true)] [] [.pointer (some q),vI p, .pointer (some g),vI f] [0,1,7,9,10,11,43] S (.prop s (.prop t (.cell (y.cell (u 0 _ rfl)) (.prop k (.prop l (.cell (y.cell (m 0 _ rfl)) .nil)))))) .nil fun g t=>c_if (decide (p<f)) t (fun s=>?_) (fun s=>?_)
   ·have o:=cond_t s J
    refine c_reg ?_
    obtain ⟨f,g,o⟩:=bind_some o
    obtain ⟨g,k,l,p,rfl,m⟩:=SliceR.getI (SliceR.mono (zt (zt (zt X Y) V) O) hx_x1) g
    refine c_n 5 [.pointer (some g), .bool f] [0,1,7,9,11,44,48] t (.prop k (.prop l (.cell (y.cell (m 0 _ rfl)) .nil))) fun g k=>p_box (i:=5) (d:=(some 49)) (cs:=[.bool f]) (T:=4) (v:=fun g=> .slice (some ⟨g,0,none⟩) 1 1) y k (fun b=>by kernel_rfl) fun g l m k p=>tv ?_
    have k:=k.ownBox (T:=Ty.bool) (E:=4) (n:=1) (xs:=[f]) (i:=0) rfl (Rows.cons (c:=[.bool f]) rfl rfl) rfl (by decide)
    obtain ⟨q,l,o⟩:=bind_some o
    refine p_append (T:=Ty.bool) (i:=6) (j:=1) (d:=some 50) (o2:=(some ⟨g,0,none⟩)) (c2:=1) (ys:=([f])) el126 k p rfl (by kernel_rfl) (k.ownSrc (j:=0) rfl) l fun g k l m p f=>tv (c_z [] [0,1,7,9,10,11] f .nil fun l f=>n_block (n_then (⟨B,q,g,k,zr,f.to,(St.drop 1 p),o⟩)))
   have o:=cond_f s J
   refine c_skip (n_block (n_then (⟨B,C,D,F,zr,t.to,y,o⟩)))
  rintro g k ⟨G,A,H,I,l,f,m,o⟩
  refine c_q [] [0,1,7,9,10,11] f .nil fun g f=>n_then (⟨P,Nat.lt_succ_self P,G,A,(w64 (z + (1:Int))),H,I,(zt O l),f.to,m,o⟩)
 have o:=cond_f Q U
 refine c_exit 2 (x_then (x_then (x_block (n_then (c_sq [] [6] S .nil fun g f=>(c_ret (c_rt [] (sL D C F) f .nil ?_)))))))
 obtain rfl:=some_eq o
 exact ⟨_,rfl,B,D,F,(zt (zt (zt X Y) V) O),rfl,(St.pick 2 [0] W (by kernel_rfl))⟩
def F105 (fuel:Nat) (x0:List (List Bool)) (x1k:Int) (x1o:Int) (x1f:Int) (x1t:Int) (x1m:Int):Option (List Bool) :=
  ((getI x0 x1f).bind fun p1=>(some (p1)))
set_option maxRecDepth 100000 in
theorem f105_ok (fuel:Nat) (x0:List (List Bool)) (x1k:Int) (x1o:Int) (x1f:Int) (x1t:Int) (x1m:Int) (r:List Bool) (hr:F105 fuel x0 x1k x1o x1f x1t x1m=some r) (h:Zone) (L:List Atom) (w:World) (hS:St h L w) (v0_x0 v1_x0 v2_x0 v3_x0 v4_x0 v5_x0 v6_x0 v7_x0 v8_x0:Value) (hx_x0:(Ty.arr 9 (Ty.slice Ty.bool)).rep h [v0_x0,v1_x0,v2_x0,v3_x0,v4_x0,v5_x0,v6_x0,v7_x0,v8_x0] x0) :
    Calls Tryz.prog 105 #[.agg #[v0_x0,v1_x0,v2_x0,v3_x0,v4_x0,v5_x0,v6_x0,v7_x0,v8_x0], .agg #[vI x1k,vI x1o,vI x1f,vI x1t,vI x1m]] w fun e w'=>∃v,e= .returned v∧(∃h',∃o0:Option Addr,∃c0:Nat,Zone.le h h'∧v= .slice o0 r.length c0∧St h' L w'∧SliceR Ty.bool h' o0 c0 r):=by
 refine calls_intro (N:=10) Tryz.func105 (by kernel_rfl) fun a hf=>c_sr (c_box [v0_x0,v1_x0,v2_x0,v3_x0,v4_x0,v5_x0,v6_x0,v7_x0,v8_x0] 129 hS hf fun o f j b c=>tv (c_box [vI x1k,vI x1o,vI x1f,vI x1t,vI x1m] 74 b c fun k l m g d=>tv (c_t [] [2,3] d .nil fun n p=>?_)))
 obtain ⟨f,b,q⟩:=bind_some hr
 obtain ⟨d,_,j,b,c,hehv18,k⟩:=arrGet (Ty.mono _ zr hx_x0) rfl b
 obtain rfl:=List.head_eq_of_cons_eq hehv18
 refine c_sq [vI x1f,sL b f c] [4] p (.cell (g.bx 0 2 rfl rfl) (.prop d (.cell ((arrAddr o 0 x1f.toNat) ▸ (g.box (i:=1) rfl (getElem?_app_right [] _ _ j []))) .nil))) fun j d=>?_
 refine c_ret (c_rt [] (sL b f c) d .nil ?_)
 obtain rfl:=some_eq q
 exact ⟨_,rfl,h,b,c,zr,rfl,(St.drop 2 g),k⟩
def F68_l1 (x0:List Bool):Nat→Int→Option (Bool)
  | 0,_=>none
  | n1 + 1,y1 =>
    let k1:Int→Option (Bool):=F68_l1 x0 n1
    (cond (decide (y1<(x0.length:Int))) ((getI x0 y1).bind fun p1=>(cond p1 (some (true)) (k1 (w64 (y1 + (1:Int)))))) (some (false)))
def F68 (fuel:Nat) (x0:List Bool):Option (Bool) :=
  (F68_l1 x0 fuel 0)
set_option maxRecDepth 100000 in
theorem f68_ok (fuel:Nat) (x0:List Bool) (r:Bool) (hr:F68 fuel x0=some r) (h:Zone) (L:List Atom) (w:World) (hS:St h L w) (o_x0:Option Addr) (c_x0:Nat) (hx_x0:SliceR Ty.bool h o_x0 c_x0 x0) :
    Calls Tryz.prog 68 #[.slice o_x0 x0.length c_x0] w fun e w'=>∃v,e= .returned v∧(∃h',Zone.le h h'∧v= .bool r∧St h' L w'):=by
 refine calls_intro (N:=14) Tryz.func68 (by kernel_rfl) fun a hf=>c_sq [] [0] hf .nil fun c b=>c_seq (c_sq [] [0,3] b .nil fun c b=>(c_block 0 (c_loop (fun n a w=>∃l:Zone,∃k:Int,Zone.le h l∧Fr a 14 [(0,sL o_x0 x0 c_x0),(3,vI k)]∧St l (L) w∧(F68_l1 x0 n k)=some r) fuel ⟨h,0,zr,b.to,hS,hr⟩ ?_)))
 rintro b c d ⟨l,k,q,f,s,t⟩
 cases b with
 | zero=>cases t
 | succ u =>
 refine c_seq (c_sq [] [0,3,7] f .nil fun b p=>(c_if (decide (k<(x0.length:Int))) p (fun o=>?_) (fun o=>?_)))
 ·have i:=cond_t o t
  refine c_skip (n_then (c_seq (c_block 1 ?_)))
  obtain ⟨b,c,m⟩:=bind_some i
  obtain ⟨c,d,f,j,rfl,g⟩:=SliceR.getI (SliceR.mono q hx_x0) c
  refine c_sq [.pointer (some c), .bool b] [0,3,13] p (.prop d (.prop f (.cell (s.cell (g 0 _ rfl)) .nil))) fun c d=>c_if b d (fun c=>?_) (fun c=>?_)
  ·have i:=cond_t c m
   refine c_sq [] [2] d .nil fun f b=>c_ret (r_block (r_then (r_then (r_block (r_then (c_rt [] (.bool true) b .nil ?_))))))
   obtain rfl:=some_eq i
   exact ⟨_,rfl,l,q,rfl,s⟩
  have i:=cond_f c m
  refine c_skip (n_block (n_then (c_q [] [0,3] d .nil fun c b=>(n_then (⟨u,Nat.lt_succ_self u,l,(w64 (k + (1:Int))),q,b.to,s,i⟩)))))
 have i:=cond_f o t
 refine c_exit 0 (x_then (x_then (x_block (n_then (c_sq [] [2] p .nil fun c b=>(c_ret (c_rt [] (.bool false) b .nil ?_)))))))
 obtain rfl:=some_eq i
 exact ⟨_,rfl,l,q,rfl,s⟩
def F89_j1 (y1:List (List Bool)):Option (List (List Bool)) :=
  (some (y1))
def F89_j2 (fuel:Nat) (x0:List (List Bool)) (x1h:List (List (List Part))) (x2h:List (List (List Part))) (x3k:Int) (x3o:Int) (x3f:Int) (x3t:Int) (x3m:Int) (y2:List (List Bool)) (y3:Bool):Option (List (List Bool)) :=
  (cond y3 ((getI y2 x3f).bind fun p1=>((getI x2h x3f).bind fun p2=>((getI x1h x3f).bind fun p3=>((F103 fuel p3 x3m).bind fun r1=>((subI p1 r1 (p1.length:Int)).bind fun d1=>((F68 fuel d1).bind fun r2=>((subI p1 0 (p2.length:Int)).bind fun d2=>(cond (x3k == (3:Int)) (F89_j1 (y2.set (Int.toNat x3f) d2)) ((getI (y2.set (Int.toNat x3f) d2) x3t).bind fun p4=>(cond ((p4.length:Int) == (0:Int)) ((getI (y2.set (Int.toNat x3f) d2) x3t).bind fun p5=>(F89_j1 ((y2.set (Int.toNat x3f) d2).set (Int.toNat x3t) ([r2])))) ((getI (y2.set (Int.toNat x3f) d2) x3t).bind fun p6=>((getI p6 (w64 ((p4.length:Int) - (1:Int)))).bind fun p7=>(cond p7 ((getI p6 (w64 ((p4.length:Int) - (1:Int)))).bind fun p8=>((setI p6 (w64 ((p4.length:Int) - (1:Int))) true).bind fun d3=>(F89_j1 ((y2.set (Int.toNat x3f) d2).set (Int.toNat x3t) d3)))) ((getI p6 (w64 ((p4.length:Int) - (1:Int)))).bind fun p9=>((setI p6 (w64 ((p4.length:Int) - (1:Int))) r2).bind fun d4=>(F89_j1 ((y2.set (Int.toNat x3f) d2).set (Int.toNat x3t) d4))))))))))))))))) (cond (x3k == (5:Int)) ((getI y2 x3f).bind fun p10=>((getI x1h x3f).bind fun p11=>((F105 fuel x0 x3k x3o x3f x3t x3m).bind fun r3=>((F104 fuel p11 r3 x3m).bind fun r4=>(F89_j1 (y2.set (Int.toNat x3f) r4)))))) (cond (x3k == (6:Int)) ((getI y2 x3f).bind fun p12=>((getI y2 x3f).bind fun p13=>((subI p13 (w64 ((p12.length:Int) - (2:Int))) (p13.length:Int)).bind fun d5=>((F68 fuel d5).bind fun r5=>((getI y2 x3f).bind fun p14=>((subI p14 0 (w64 ((p12.length:Int) - (2:Int)))).bind fun d6=>((appC d6 ([r5])).bind fun d7=>(F89_j1 (y2.set (Int.toNat x3f) d7))))))))) (F89_j1 y2))))
def F89_l1 (fuel:Nat) (x0:List (List Bool)) (x1h:List (List (List Part))) (x2h:List (List (List Part))) (x3k:Int) (x3o:Int) (x3f:Int) (x3t:Int) (x3m:Int) (x4:Int):Nat→(List (List Bool))→Int→Option (List (List Bool))
  | 0,_,_=>none
  | n1 + 1,y2,y4 =>
    let k1:(List (List Bool))→Int→Option (List (List Bool)):=F89_l1 fuel x0 x1h x2h x3k x3o x3f x3t x3m x4 n1
    (cond (decide (y4<(9:Int))) ((getI y2 y4).bind fun p15=>((getI x0 y4).bind fun p16=>((appC ([]) p16).bind fun d8=>(k1 (y2.set (Int.toNat y4) d8) (w64 (y4 + (1:Int))))))) (cond (x3k == (1:Int)) ((getI y2 x3t).bind fun p17=>(cond ((p17.length:Int) == (0:Int)) ((getI y2 x3t).bind fun p18=>(F89_j1 (y2.set (Int.toNat x3t) ([(x3o == x4)])))) (cond (x3o == x4) ((getI y2 x3t).bind fun p19=>((getI p19 (w64 ((p17.length:Int) - (1:Int)))).bind fun p20=>((setI p19 (w64 ((p17.length:Int) - (1:Int))) true).bind fun d9=>(F89_j1 (y2.set (Int.toNat x3t) d9))))) (F89_j1 y2)))) (cond (x3k == (2:Int)) ((getI y2 x3t).bind fun p21=>((appC p21 ([(x3o == x4)])).bind fun d10=>(F89_j1 (y2.set (Int.toNat x3t) d10)))) (cond (x3k == (3:Int)) (F89_j2 fuel x0 x1h x2h x3k x3o x3f x3t x3m y2 (x3k == (3:Int))) (F89_j2 fuel x0 x1h x2h x3k x3o x3f x3t x3m y2 (x3k == (4:Int)))))))
def F89 (fuel:Nat) (x0:List (List Bool)) (x1l:List Lot) (x1h:List (List (List Part))) (x2l:List Lot) (x2h:List (List (List Part))) (x3k:Int) (x3o:Int) (x3f:Int) (x3t:Int) (x3m:Int) (x4:Int):Option (List (List Bool)) :=
  (F89_l1 fuel x0 x1h x2h x3k x3o x3f x3t x3m x4 fuel ([[],[],[],[],[],[],[],[],[]]) 0)
set_option maxRecDepth 100000 in
theorem f89_ok (fuel:Nat) (x0:List (List Bool)) (x1l:List Lot) (x1h:List (List (List Part))) (x2l:List Lot) (x2h:List (List (List Part))) (x3k:Int) (x3o:Int) (x3f:Int) (x3t:Int) (x3m:Int) (x4:Int) (r:List (List Bool)) (hr:F89 fuel x0 x1l x1h x2l x2h x3k x3o x3f x3t x3m x4=some r) (h:Zone) (L:List Atom) (w:World) (hS:St h L w) (v0_x0 v1_x0 v2_x0 v3_x0 v4_x0 v5_x0 v6_x0 v7_x0 v8_x0:Value) (hx_x0:(Ty.arr 9 (Ty.slice Ty.bool)).rep h [v0_x0,v1_x0,v2_x0,v3_x0,v4_x0,v5_x0,v6_x0,v7_x0,v8_x0] x0) (o_x1l:Option Addr) (c_x1l:Nat) (hx_x1l:SliceR LotT h o_x1l c_x1l x1l) (V10 V11 V12 V13 V14 V15 V16 V17 V18:Value) (hx_x1h:(Ty.arr 9 (Ty.slice (Ty.slice PartT))).rep h [V10,V11,V12,V13,V14,V15,V16,V17,V18] x1h) (o_x2l:Option Addr) (c_x2l:Nat) (hx_x2l:SliceR LotT h o_x2l c_x2l x2l) (V20 V21 V22 V23 V24 V25 V26 V27 V28:Value) (hx_x2h:(Ty.arr 9 (Ty.slice (Ty.slice PartT))).rep h [V20,V21,V22,V23,V24,V25,V26,V27,V28] x2h) :
    Calls Tryz.prog 89 #[.agg #[v0_x0,v1_x0,v2_x0,v3_x0,v4_x0,v5_x0,v6_x0,v7_x0,v8_x0], .agg #[.slice o_x1l x1l.length c_x1l,V10,V11,V12,V13,V14,V15,V16,V17,V18], .agg #[.slice o_x2l x2l.length c_x2l,V20,V21,V22,V23,V24,V25,V26,V27,V28], .agg #[vI x3k,vI x3o,vI x3f,vI x3t,vI x3m],vI x4] w fun e w'=>∃v,e= .returned v∧(∃h',∃v0_0:Value,∃v0_1:Value,∃v0_2:Value,∃v0_3:Value,∃v0_4:Value,∃v0_5:Value,∃v0_6:Value,∃v0_7:Value,∃v0_8:Value,Zone.le h h'∧v= .agg #[v0_0,v0_1,v0_2,v0_3,v0_4,v0_5,v0_6,v0_7,v0_8]∧St h' L w'∧(Ty.arr 9 (Ty.slice Ty.bool)).rep h' [v0_0,v0_1,v0_2,v0_3,v0_4,v0_5,v0_6,v0_7,v0_8] r):=by
 refine calls_intro (N:=204) Tryz.func89 (by kernel_rfl) fun a hf=>c_sr (c_box [v0_x0,v1_x0,v2_x0,v3_x0,v4_x0,v5_x0,v6_x0,v7_x0,v8_x0] 129 hS hf fun V C D f g=>tv (c_box [sL o_x1l x1l c_x1l,V10,V11,V12,V13,V14,V15,V16,V17,V18] 29 f g fun b2 F G l m=>tv (c_box [sL o_x2l x2l c_x2l,V20,V21,V22,V23,V24,V25,V26,V27,V28] 29 l m fun W H I o p=>tv (c_box [vI x3k,vI x3o,vI x3f,vI x3t,vI x3m] 74 o p fun X J K q t=>tv (c_box [N0,N0,N0,N0,N0,N0,N0,N0,N0] 129 q t fun b5 M O u y=>tv (c_dt (c_sr (c_box [N0,N0,N0,N0,N0,N0,N0,N0,N0] 129 u y fun b6 P Q A z=>tv (c_dt (c_seq (c_sq [] [4,5,6,7,8,10,11,12] z .nil fun R S=>(c_block 0 ?_))))))))))))
 have f:=A.ownNew Ty.bool 4 9
 have f:=f
 refine c_loop (fun n a w=>∃O:Zone,∃y2:List (List Bool),∃t:Int,∃v1:Value,∃v2:Value,∃v3:Value,∃v4:Value,∃v5:Value,∃v6:Value,∃v7:Value,∃v8:Value,∃v9:Value,Zone.le h O∧Fr a 204 [(4,vI x4),(5,pB V 0),(6,pB b2 0),(7,pB W 0),(8,pB X 0),(10,pB b5 0),(11,pB b6 0),(12,vI t)]∧St O (ownA Ty.bool 4 [v1,v2,v3,v4,v5,v6,v7,v8,v9] y2::box b6 [v1,v2,v3,v4,v5,v6,v7,v8,v9] 129::box b5 [N0,N0,N0,N0,N0,N0,N0,N0,N0] 129::box X [vI x3k,vI x3o,vI x3f,vI x3t,vI x3m] 74::box W [sL o_x2l x2l c_x2l,V20,V21,V22,V23,V24,V25,V26,V27,V28] 29::box b2 [sL o_x1l x1l c_x1l,V10,V11,V12,V13,V14,V15,V16,V17,V18] 29::box V [v0_x0,v1_x0,v2_x0,v3_x0,v4_x0,v5_x0,v6_x0,v7_x0,v8_x0] 129::L) w∧(F89_l1 fuel x0 x1h x2h x3k x3o x3f x3t x3m x4 n y2 t)=some r) fuel ⟨h,[[],[],[],[],[],[],[],[],[]],0,(N0),(N0),(N0),(N0),(N0),(N0),(N0),(N0),(N0),zr,S.to,f,hr⟩ ?_
 rintro f g l ⟨O,y2,t,v1,v2,v3,v4,v5,v6,v7,v8,v9,k2,m,Q,U⟩
 cases f with
 | zero=>cases U
 | succ M =>
 refine c_seq (c_sq [] [4,5,6,7,8,10,11,12,22] m .nil fun f K=>(c_if (decide (t<(9:Int))) K (fun J=>?_) (fun J=>?_)))
 ·have B:=cond_t J U
  refine c_skip (n_then (c_seq (c_block 1 ?_)))
  obtain ⟨f,I,B⟩:=bind_some B
  obtain ⟨f,g,m,p,l⟩:=Q.ownOpen (j:=0) rfl I
  refine c_reg (c_n 1 [] [4,5,6,7,8,10,11,12,25] K .nil fun m g=>(p_box (i:=1) (d:=(some 26)) (cs:=[]) (T:=4) (v:=fun f=> .slice (some ⟨f,0,none⟩) 0 0) l g (fun b=>by kernel_rfl) fun f o q l u=>tv ?_))
  have g:=l.ownBox (T:=Ty.bool) (E:=4) (n:=0) (xs:=[]) (i:=0) rfl rfl rfl (by decide)
  obtain ⟨q,f,B⟩:=bind_some B
  obtain ⟨f,_,o,l,m,hehv1420,y⟩:=arrGet (Ty.mono _ k2 hx_x0) rfl f
  obtain rfl:=List.head_eq_of_cons_eq hehv1420
  refine c_n 4 [sL l q m] [4,5,6,7,8,10,11,12,25,26,30] u (.prop f (.cell ((arrAddr V 0 t.toNat) ▸ (g.box (i:=8) rfl (getElem?_app_right [] _ _ o []))) .nil)) fun f o=>?_
  obtain ⟨u,f,B⟩:=bind_some B
  refine p_append (T:=Ty.bool) (i:=6) (j:=0) (d:=some 31) (o2:=l) (c2:=m) (ys:=q) el126 g o rfl (by kernel_rfl) (SliceR.src y g) f fun f g o q m l=>tv (c_n 2 [] [4,5,6,7,8,10,11,12,31,33] l (.prop p .nil) fun o l=>p_storeA (i:=9) (j:=3) (b:=b6) (ix:=t) (pre:=[]) (vs:=[v1,v2,v3,v4,v5,v6,v7,v8,v9]) (post:=[]) (v:=sL f u g) m l rfl (by have z2:=p.1; have P:=p.2; simp at P ⊢; omega) (by kernel_rfl) rfl fun l o m H=>tv ?_)
  obtain ⟨o,q,y,z,A,C,D,F,G,l⟩:=nine (vs:=[v1,v2,v3,v4,v5,v6,v7,v8,v9].set (Int.toNat t) (sL f u g)) (by simp)
  rw [l] at m
  have f:[o,q,y,z,A,C,D,F,G][Int.toNat t]? =some (sL f u g):=by rw [← l]; exact List.getElem?_set_self (by have z2:=p.1; have P:=p.2; simp at P ⊢; omega)
  have f:=m
  refine c_done ?_
  have f:=f.ownClose (j:=2) (k:=0) rfl rfl (by decide) (List.getElem?_eq_some_iff.1 (getI_spec I).2).1
  rw [l] at f
  refine n_block (n_then (c_q [] [4,5,6,7,8,10,11,12] H .nil fun l g=>(n_then (⟨M,Nat.lt_succ_self M,O,(y2.set (Int.toNat t) u),(w64 (t + (1:Int))),o,q,y,z,A,C,D,F,G,k2,g.to,(St.drop 2 f),B⟩))))
 have a0:=cond_f J U
 refine c_exit 0 (x_then (x_then (x_block (n_then (c_mid (fun a w=>∃z4:Zone,∃y1:List (List Bool),∃a4:Value,∃a5:Value,∃a6:Value,∃a7:Value,∃a8:Value,∃a9:Value,∃aa:Value,∃ab:Value,∃ac:Value,Zone.le O z4∧Fr a 204 [(10,pB b5 0),(11,pB b6 0)]∧St z4 (ownA Ty.bool 4 [a4,a5,a6,a7,a8,a9,aa,ab,ac] y1::box b6 [a4,a5,a6,a7,a8,a9,aa,ab,ac] 129::box b5 [N0,N0,N0,N0,N0,N0,N0,N0,N0] 129::box X [vI x3k,vI x3o,vI x3f,vI x3t,vI x3m] 74::box W [sL o_x2l x2l c_x2l,V20,V21,V22,V23,V24,V25,V26,V27,V28] 29::box b2 [sL o_x1l x1l c_x1l,V10,V11,V12,V13,V14,V15,V16,V17,V18] 29::box V [v0_x0,v1_x0,v2_x0,v3_x0,v4_x0,v5_x0,v6_x0,v7_x0,v8_x0] 129::L) w∧(F89_j1 y1)=some r) ?_ ?_)))))
 ·skip
  refine c_sq [vI x3k] [4,5,6,7,8,10,11,35] K (.cell (Q.bx 3 0 rfl rfl) .nil) fun g f=>c_block 2 (c_sq [] [4,5,6,7,8,10,11,35,36] f .nil fun f M=>(c_if (x3k == (1:Int)) M (fun K=>?_) (fun K=>?_)))
  ·have B:=cond_t K a0
   obtain ⟨J,l,U⟩:=bind_some B
   obtain ⟨m,o,g,p,f⟩:=Q.ownOpen (j:=0) rfl l
   refine c_seq (c_q [vI x3t,sL m J o] [4,8,10,11,13] M (.cell (f.bx 4 3 rfl rfl) (.prop p (.cell ((arrAddr b6 0 (Int.toNat x3t)) ▸ (f.box (i:=2) rfl (getElem?_app_right [] _ _ g []))) .nil))) fun o m=>?_)
   have I:=f.ownClose' (j:=1) (k:=0) rfl rfl (by decide) g (getI_spec l).2
   refine n_then (c_sq [] [4,8,10,11,13,45] m .nil fun f G=>(c_if ((J.length:Int) == (0:Int)) G (fun F=>?_) (fun F=>?_)))
   ·have B:=cond_t F U
    obtain ⟨f,D,B⟩:=bind_some B
    obtain ⟨g,l,o,m,f⟩:=I.ownOpen (j:=1) rfl D
    refine c_reg (c_n 6 [vI x3t,vI x3o] [10,11,47,51] G (.cell (f.bx 5 3 rfl rfl) (.cell (f.bx 5 1 rfl rfl) .nil)) fun p g=>(p_box (i:=6) (d:=(some 52)) (cs:=[.bool (x3o == x4)]) (T:=4) (v:=fun l=> .slice (some ⟨l,0,none⟩) 1 1) f g (fun b=>by kernel_rfl) fun l q t f o=>tv ?_))
    have g:=f.ownBox (T:=Ty.bool) (E:=4) (n:=1) (xs:=[(x3o == x4)]) (i:=0) rfl (Rows.cons (c:=[.bool (x3o == x4)]) rfl rfl) rfl (by decide)
    refine c_n 2 [] [10,11,52,54] o (.prop m .nil) fun o f=>p_storeA (i:=9) (j:=4) (b:=b6) (ix:=x3t) (pre:=[]) (vs:=[v1,v2,v3,v4,v5,v6,v7,v8,v9]) (post:=[]) (v:= .slice (some ⟨l,0,none⟩) 1 1) g f rfl (by have z2:=m.1; have P:=m.2; simp at P ⊢; omega) (by kernel_rfl) rfl fun g o f H=>tv ?_
    obtain ⟨o,p,q,t,u,y,z,A,C,g⟩:=nine (vs:=[v1,v2,v3,v4,v5,v6,v7,v8,v9].set (Int.toNat x3t) (.slice (some ⟨l,0,none⟩) 1 1)) (by simp)
    rw [g] at f
    have l:[o,p,q,t,u,y,z,A,C][Int.toNat x3t]? =some (.slice (some ⟨l,0,none⟩) 1 1):=by rw [← g]; exact List.getElem?_set_self (by have z2:=m.1; have P:=m.2; simp at P ⊢; omega)
    have f:=f
    refine c_done ?_
    have f:=f.ownClose (j:=3) (k:=0) rfl rfl (by decide) (List.getElem?_eq_some_iff.1 (getI_spec D).2).1
    simp only [List.length_cons,List.length_nil,Nat.zero_add] at f
    rw [g] at f
    refine n_block (n_then (⟨O,(y2.set (Int.toNat x3t) ([(x3o == x4)])),o,p,q,t,u,y,z,A,C,zr,H.to,(St.drop 3 f),B⟩))
   have U:=cond_f F U
   refine c_sq [vI x3o] [8,10,11,13,58] G (.cell (I.bx 4 1 rfl rfl) .nil) fun f D=>c_if (x3o == x4) D (fun C=>?_) (fun C=>?_)
   ·have B:=cond_t C U
    obtain ⟨y,A,B⟩:=bind_some B
    obtain ⟨q,t,z,u,g⟩:=I.ownOpen (j:=1) rfl A
    refine c_reg ?_
    obtain ⟨l,f,B⟩:=bind_some B
    obtain ⟨l,m,f,o,rfl,p⟩:=g.ownGet (j:=0) rfl f
    refine c_n 8 [vI x3t,sL q y t, .pointer (some l)] [10,11,66] D (.cell (g.bx 5 3 rfl rfl) (.prop u (.cell ((arrAddr b6 0 (Int.toNat x3t)) ▸ (g.box (i:=3) rfl (getElem?_app_right [] _ _ z []))) (.prop m (.prop f .nil))))) fun f o=>?_
    obtain ⟨q,f,B⟩:=bind_some B
    have p:=setI_len f
    refine p_setOwnB (i:=8) (j:=0) (ad:=l) (ix:=(w64 ((J.length:Int) - (1:Int)))) (x':=true) g o rfl m (by kernel_rfl) f fun f g l m=>tv (c_done ?_)
    have f:=l.ownCloseL (j:=2) (k:=0) rfl rfl (by decide) z (getI_spec A).2 p.symm
    refine n_block (n_then (⟨O,(y2.set (Int.toNat x3t) q),v1,v2,v3,v4,v5,v6,v7,v8,v9,zr,m.to,(St.drop 2 f),B⟩))
   have B:=cond_f C U
   refine c_skip (n_block (n_then (⟨O,y2,v1,v2,v3,v4,v5,v6,v7,v8,v9,zr,D.to,(St.drop 1 I),B⟩)))
  have U:=cond_f K a0
  refine c_sq [] [4,5,6,7,8,10,11,35,67] M .nil fun f J=>c_if (x3k == (2:Int)) J (fun H=>?_) (fun H=>?_)
  ·have B:=cond_t H U
   obtain ⟨q,I,B⟩:=bind_some B
   obtain ⟨g,m,o,p,f⟩:=Q.ownOpen (j:=0) rfl I
   have l:=f.drew
   have f:=Sub.of zr (l.mask (i:=0) rfl)
   refine c_regD [(0,true),(1,true),(2,true),(3,true),(4,true),(5,true),(6,true),(7,true),(8,true),(9,true),(10,true),(13,true),(11,false),(12,false),(14,true),(15,false)] [15] _ f (c_S 12 [vI x3t,vI x3t,sL g q m,vI x3o] [10,11,70,75,79,82] f J (fun _ s=>(.cell (s.bx 4 3 rfl rfl) (.cell (s.bx 4 3 rfl rfl) (.prop p (.cell ((arrAddr b6 0 (Int.toNat x3t)) ▸ (s.box (i:=2) rfl (getElem?_app_right [] _ _ o []))) (.cell (s.bx 4 1 rfl rfl) .nil)))))) .nil fun g f=>?_)
   refine p_box (i:=11) (d:=(some 80)) (cs:=[.bool (x3o == x4)]) (T:=4) (v:=fun g=> .slice (some ⟨g,0,none⟩) 1 1) l f (fun b=>by kernel_rfl) fun g l m f o=>⟨fun _=>Sub.of zr ((St.drop 1 f).mask (i:=0) rfl),?_⟩
   have f:=f.ownBox (T:=Ty.bool) (E:=4) (n:=1) (xs:=[(x3o == x4)]) (i:=0) rfl (Rows.cons (c:=[.bool (x3o == x4)]) rfl rfl) rfl (by decide)
   have l:=Sub.of zr ((St.drop 1 f).mask (i:=0) rfl)
   obtain ⟨t,l,B⟩:=bind_some B
   refine p_append (T:=Ty.bool) (i:=12) (j:=1) (d:=some 81) (o2:=(some ⟨g,0,none⟩)) (c2:=1) (ys:=([(x3o == x4)])) el126 f o rfl (by kernel_rfl) (f.ownSrc (j:=0) rfl) l fun l m g q f o=>⟨fun _=>Sub.of zr ((St.drop 1 f).mask (i:=0) rfl),?_⟩
   have g:=Sub.of zr ((St.drop 1 f).mask (i:=0) rfl)
   refine c_S 1 [] [10,11,81,83] g o (fun _ s=>(.prop p .nil)) .nil fun o g=>p_storeA (i:=15) (j:=3) (b:=b6) (ix:=x3t) (pre:=[]) (vs:=[v1,v2,v3,v4,v5,v6,v7,v8,v9]) (post:=[]) (v:=sL l t m) f g rfl (by have z2:=p.1; have P:=p.2; simp at P ⊢; omega) (by kernel_rfl) rfl fun g o f G=>⟨fun e=>absurd e (by decide),?_⟩
   obtain ⟨o,q,u,y,z,A,C,D,F,g⟩:=nine (vs:=[v1,v2,v3,v4,v5,v6,v7,v8,v9].set (Int.toNat x3t) (sL l t m)) (by simp)
   rw [g] at f
   have l:[o,q,u,y,z,A,C,D,F][Int.toNat x3t]? =some (sL l t m):=by rw [← g]; exact List.getElem?_set_self (by have z2:=p.1; have P:=p.2; simp at P ⊢; omega)
   have f:=f
   refine c_done ?_
   have f:=f.ownClose (j:=2) (k:=1) rfl rfl (by decide) (List.getElem?_eq_some_iff.1 (getI_spec I).2).1
   rw [g] at f
   refine n_block (n_then (⟨O,(y2.set (Int.toNat x3t) t),o,q,u,y,z,A,C,D,F,zr,G.to,(St.drop 2 f),B⟩))
  have U:=cond_f H U
  refine c_mid (fun a w=>∃z5:Zone,∃l:Bool,Zone.le O z5∧Fr a 204 [(5,pB V 0),(6,pB b2 0),(7,pB W 0),(8,pB X 0),(10,pB b5 0),(11,pB b6 0),(35,vI x3k),(84, .bool l)]∧St z5 (ownA Ty.bool 4 [v1,v2,v3,v4,v5,v6,v7,v8,v9] y2::box b6 [v1,v2,v3,v4,v5,v6,v7,v8,v9] 129::box b5 [N0,N0,N0,N0,N0,N0,N0,N0,N0] 129::box X [vI x3k,vI x3o,vI x3f,vI x3t,vI x3m] 74::box W [sL o_x2l x2l c_x2l,V20,V21,V22,V23,V24,V25,V26,V27,V28] 29::box b2 [sL o_x1l x1l c_x1l,V10,V11,V12,V13,V14,V15,V16,V17,V18] 29::box V [v0_x0,v1_x0,v2_x0,v3_x0,v4_x0,v5_x0,v6_x0,v7_x0,v8_x0] 129::L) w∧(F89_j2 fuel x0 x1h x2h x3k x3o x3f x3t x3m y2 l)=some r) ?_ ?_
  ·skip
   refine c_sq [] [5,6,7,8,10,11,35,84] J .nil fun f g=>c_if (x3k == (3:Int)) g (fun f=>?_) (fun f=>?_)
   ·have B:=cond_t f U
    refine c_skip (n_then (⟨O,(x3k == (3:Int)),zr,g.to,Q,B⟩))
   have B:=cond_f f U
   refine c_q [] [5,6,7,8,10,11,35,84] g .nil fun g f=>n_then (⟨O,(x3k == (4:Int)),zr,f.to,Q,B⟩)
  rintro f t ⟨z5,l,k3,a3,ae,a0⟩
  refine c_if l a3 (fun a2=>?_) (fun a2=>?_)
  ·have B:=cond_t a2 a0
   obtain ⟨D,F,B⟩:=bind_some B
   obtain ⟨y,z,g,A,f⟩:=ae.ownOpen (j:=0) rfl F
   refine c_sq [vI x3f,sL y D z] [6,7,8,10,11,14] a3 (.cell (f.bx 4 2 rfl rfl) (.prop A (.cell ((arrAddr b6 0 (Int.toNat x3f)) ▸ (f.box (i:=2) rfl (getElem?_app_right [] _ _ g []))) .nil))) fun g q=>?_
   obtain ⟨C,g,B⟩:=bind_some B
   obtain ⟨g,_,l,m,o,hehv3599,p⟩:=arrGet (Ty.mono _ (zt k2 k3) hx_x2h) rfl g
   obtain rfl:=List.head_eq_of_cons_eq hehv3599
   refine c_sq [vI x3f,sL m C o] [6,8,10,11,14,15] q (.cell (f.bx 4 2 rfl rfl) (.prop g (.cell ((arrAddr W 1 x3f.toNat) ▸ (f.box (i:=5) rfl (getElem?_app_right [sL o_x2l x2l c_x2l] _ _ l []))) .nil))) fun g p=>?_
   refine c_seq ?_
   have f:=f.drew
   refine c_regD (rD 9 [7]) [7] (fun x=>x=t.drew) rfl ?_
   obtain ⟨q,g,B⟩:=bind_some B
   obtain ⟨g,_,o,l,m,hehv3612,t⟩:=arrGet (Ty.mono _ (zt k2 k3) hx_x1h) rfl g
   obtain rfl:=List.head_eq_of_cons_eq hehv3612
   refine c_E 7 [vI x3f,sL l q m,vI x3m] [8,10,11,14,15,102,104] p (.cell (f.bx 4 2 rfl rfl) (.prop g (.cell ((arrAddr b2 1 x3f.toNat) ▸ (f.box (i:=6) rfl (getElem?_app_right [sL o_x1l x1l c_x1l] _ _ o []))) (.cell (f.bx 4 4 rfl rfl) .nil)))) .nil fun g p=>?_
   obtain ⟨o,g,B⟩:=bind_some B
   refine c_call p (f103_ok fuel q x3m o g z5 _ _ f l m t) ?_
   rintro g l m ⟨p,k4,rfl,u⟩ f
   refine ⟨fun e=>absurd e (by decide),?_⟩
   refine p_qP 1 [] [(8,pB X 0),(10,pB b5 0),(11,pB b6 0),(14,sL y D z),(15,vI (C.length:Int)),(16,vI o)] [] f (by kernel_rfl) (fun _=> .nil) fun f l=>c_dt (c_sr ?_)
   obtain ⟨q,f,B⟩:=bind_some B
   obtain ⟨m,o,f,g,t⟩:=u.ownTail (j:=0) rfl f
   refine c_n 3 [sL m q o] [8,10,11,14,15,108] l (.prop f (.prop g .nil)) fun g f=>?_
   obtain ⟨Z,p,B⟩:=bind_some B
   refine c_call f (lendS u (j:=0) rfl fun f L3655 u g l=>f68_ok fuel q Z p f L3655 _ l m o (t _ g)) ?_
   rintro g o l ⟨z8,k6,rfl,m⟩ f
   refine tv (c_t [] [8,10,11,14,15,17] f .nil fun f p=>c_seq ?_)
   have l:=m.drew
   refine c_regD (rD 8 [7]) [7] (fun x=>x=o.drew) rfl ?_
   obtain ⟨J,f,U⟩:=bind_some B
   obtain ⟨f,g,m⟩:=l.ownSub (j:=0) rfl f
   refine c_E 7 [vI x3f,sL y J z] [8,10,11,17,114,116] p (.cell (l.bx 4 2 rfl rfl) (.prop f (.prop g (.prop A .nil)))) .nil fun g f=>p_storeA (i:=7) (j:=2) (b:=b6) (ix:=x3f) (pre:=[]) (vs:=[v1,v2,v3,v4,v5,v6,v7,v8,v9]) (post:=[]) (v:=sL y J z) m f rfl (by have z2:=A.1; have P:=A.2; simp at P ⊢; omega) (by kernel_rfl) rfl fun a1 f g m=>⟨fun e=>absurd e (by decide),?_⟩
   obtain ⟨K,M,O,Q,R,S,V,W,X,f⟩:=nine (vs:=[v1,v2,v3,v4,v5,v6,v7,v8,v9].set (Int.toNat x3f) (sL y J z)) (by simp)
   rw [f] at g
   have l:[K,M,O,Q,R,S,V,W,X][Int.toNat x3f]? =some (sL y J z):=by rw [← f]; exact List.getElem?_set_self (by have z2:=A.1; have P:=A.2; simp at P ⊢; omega)
   have g:=g
   refine c_done ?_
   have g:=g.ownClose (j:=1) (k:=0) rfl rfl (by decide) (List.getElem?_eq_some_iff.1 (getI_spec F).2).1
   rw [f] at g
   refine n_then (c_seq (c_sq [vI x3k] [8,10,11,17,119] m (.cell (g.bx 4 0 rfl rfl) .nil) fun l q=>(c_if (x3k == (3:Int)) q (fun f=>?_) (fun f=>?_))))
   ·have B:=cond_t f U
    refine c_exit 2 (x_then (x_block (n_then (⟨z8,(y2.set (Int.toNat x3f) J),K,M,O,Q,R,S,V,W,X,(zt (zt k3 k4) k6),q.to,(St.drop 1 g),B⟩))))
   have B:=cond_f f U
   refine c_skip (n_then ?_)
   obtain ⟨Y,l,U⟩:=bind_some B
   obtain ⟨m,o,g,p,f⟩:=g.ownOpen (j:=1) rfl l
   refine c_seq (c_q [vI x3t,sL m Y o] [8,10,11,17,18] q (.cell (f.bx 5 3 rfl rfl) (.prop p (.cell ((arrAddr b6 0 (Int.toNat x3t)) ▸ (f.box (i:=3) rfl (getElem?_app_right [] _ _ g []))) .nil))) fun o m=>?_)
   have I:=f.ownClose' (j:=2) (k:=0) rfl rfl (by decide) g (getI_spec l).2
   refine n_then (c_sq [] [8,10,11,17,18,127] m .nil fun f H=>(c_if ((Y.length:Int) == (0:Int)) H (fun F=>?_) (fun F=>?_)))
   ·have B:=cond_t F U
    obtain ⟨f,D,B⟩:=bind_some B
    obtain ⟨g,l,o,m,f⟩:=I.ownOpen (j:=2) rfl D
    refine c_reg (c_n 3 [vI x3t] [10,11,129,130] H (.cell (f.bx 6 3 rfl rfl) .nil) fun p g=>(p_box (i:=3) (d:=(some 131)) (cs:=[.bool Z]) (T:=4) (v:=fun l=> .slice (some ⟨l,0,none⟩) 1 1) f g (fun b=>by kernel_rfl) fun l q t f o=>tv ?_))
    have g:=f.ownBox (T:=Ty.bool) (E:=4) (n:=1) (xs:=[Z]) (i:=0) rfl (Rows.cons (c:=[.bool Z]) rfl rfl) rfl (by decide)
    refine c_n 2 [] [10,11,131,133] o (.prop m .nil) fun o f=>p_storeA (i:=6) (j:=5) (b:=b6) (ix:=x3t) (pre:=[]) (vs:=[K,M,O,Q,R,S,V,W,X]) (post:=[]) (v:= .slice (some ⟨l,0,none⟩) 1 1) g f rfl (by have z2:=m.1; have P:=m.2; simp at P ⊢; omega) (by kernel_rfl) rfl fun g o f G=>tv ?_
    obtain ⟨o,p,q,t,u,y,z,A,C,g⟩:=nine (vs:=[K,M,O,Q,R,S,V,W,X].set (Int.toNat x3t) (.slice (some ⟨l,0,none⟩) 1 1)) (by simp)
    rw [g] at f
    have l:[o,p,q,t,u,y,z,A,C][Int.toNat x3t]? =some (.slice (some ⟨l,0,none⟩) 1 1):=by rw [← g]; exact List.getElem?_set_self (by have z2:=m.1; have P:=m.2; simp at P ⊢; omega)
    have f:=f
    refine c_done ?_
    have f:=f.ownClose (j:=4) (k:=0) rfl rfl (by decide) (List.getElem?_eq_some_iff.1 (getI_spec D).2).1
    simp only [List.length_cons,List.length_nil,Nat.zero_add] at f
    rw [g] at f
    refine n_block (n_then (⟨z8,((y2.set (Int.toNat x3f) J).set (Int.toNat x3t) ([Z])),o,p,q,t,u,y,z,A,C,(zt (zt k3 k4) k6),G.to,(St.drop 4 f),B⟩))
   have B:=cond_f F U
   obtain ⟨y,C,B⟩:=bind_some B
   obtain ⟨p,q,A,t,f⟩:=I.ownOpen (j:=2) rfl C
   have u:=f.drew
   refine c_regD (rD 21 [20]) [20] (fun x=>x=a1.drew) rfl ?_
   obtain ⟨f,g,U⟩:=bind_some B
   obtain ⟨g,l,m,z,rfl,o⟩:=u.ownGet (j:=0) rfl g
   refine c_E 17 [vI x3t,sL p y q,vI x3t,sL p y q, .pointer (some g), .bool f] [10,11,17,138,140,150] H (.cell (u.bx 6 3 rfl rfl) (.prop t (.cell ((arrAddr b6 0 (Int.toNat x3t)) ▸ (u.box (i:=4) rfl (getElem?_app_right [] _ _ A []))) (.cell (u.bx 6 3 rfl rfl) (.prop t (.cell ((arrAddr b6 0 (Int.toNat x3t)) ▸ (u.box (i:=4) rfl (getElem?_app_right [] _ _ A []))) (.prop l (.prop m (.cell (o 0 _ rfl) .nil))))))))) .nil fun g t=>?_
   rcases bft f with m | m
   ·have B:=cond_t m U
    have o:=t.lit 150 m
    obtain ⟨g,f,B⟩:=bind_some B
    obtain ⟨g,l,f,p,rfl,q⟩:=u.ownGet (j:=0) rfl f
    refine c_E 3 [.pointer (some g)] [10,11,152,153] o (.prop l (.prop f .nil)) .nil fun f o=>?_
    obtain ⟨q,f,B⟩:=bind_some B
    have p:=setI_len f
    refine p_setOwnB (i:=20) (j:=0) (ad:=g) (ix:=(w64 ((Y.length:Int) - (1:Int)))) (x':=true) u o rfl l (by kernel_rfl) f fun f g l o=>⟨fun e=>absurd e (by decide),?_⟩
    refine c_done ?_
    have f:=l.ownCloseL (j:=3) (k:=0) rfl rfl (by decide) A (getI_spec C).2 p.symm
    refine n_block (n_then (⟨z8,((y2.set (Int.toNat x3f) J).set (Int.toNat x3t) q),K,M,O,Q,R,S,V,W,X,(zt (zt k3 k4) k6),o.to,(St.drop 3 f),B⟩))
   have B:=cond_f m U
   have m:=t.lit 150 m
   obtain ⟨g,f,B⟩:=bind_some B
   obtain ⟨g,l,f,o,rfl,p⟩:=u.ownGet (j:=0) rfl f
   refine c_E 3 [.pointer (some g)] [10,11,152,153] m (.prop l (.prop f .nil)) .nil fun f m=>?_
   obtain ⟨p,f,B⟩:=bind_some B
   have o:=setI_len f
   refine p_setOwnB (i:=20) (j:=0) (ad:=g) (ix:=(w64 ((Y.length:Int) - (1:Int)))) (x':=Z) u m rfl l (by kernel_rfl) f fun f g l m=>⟨fun e=>absurd e (by decide),?_⟩
   refine c_done ?_
   have f:=l.ownCloseL (j:=3) (k:=0) rfl rfl (by decide) A (getI_spec C).2 o.symm
   refine n_block (n_then (⟨z8,((y2.set (Int.toNat x3f) J).set (Int.toNat x3t) p),K,M,O,Q,R,S,V,W,X,(zt (zt k3 k4) k6),m.to,(St.drop 3 f),B⟩))
  have U:=cond_f a2 a0
  refine c_sq [] [5,6,8,10,11,35,154] a3 .nil fun f M=>c_if (x3k == (5:Int)) M (fun K=>?_) (fun K=>?_)
  ·have B:=cond_t K U
   obtain ⟨f,O,B⟩:=bind_some B
   obtain ⟨g,l,m,H,f⟩:=ae.ownOpen (j:=0) rfl O
   have m:=f.drew
   have l:=Sub.of zr m
   refine c_regD [(0,true),(1,true),(2,true),(3,true),(4,true),(5,true),(6,true),(7,true),(8,true),(10,true),(11,true),(13,true),(9,false),(12,false),(14,true),(15,false)] [15] _ l ?_
   obtain ⟨D,f,B⟩:=bind_some B
   obtain ⟨f,_,g,A,C,hehv3850,F⟩:=arrGet (Ty.mono _ (zt k2 k3) hx_x1h) rfl f
   obtain rfl:=List.head_eq_of_cons_eq hehv3850
   refine c_S 12 [vI x3f,vI x3f,sL A D C,v0_x0,v1_x0,v2_x0,v3_x0,v4_x0,v5_x0,v6_x0,v7_x0,v8_x0,vI x3k,vI x3o,vI x3f,vI x3t,vI x3m,vI x3m] [10,11,157,162,163,164,167,169] l M (fun _ s=>(.cell (s.bx 4 2 rfl rfl) (.cell (s.bx 4 2 rfl rfl) (.prop f (.cell ((arrAddr b2 1 x3f.toNat) ▸ (s.box (i:=6) rfl (getElem?_app_right [sL o_x1l x1l c_x1l] _ _ g []))) (.cell (s.bx 7 0 rfl rfl) (.cell (s.bx 7 1 rfl rfl) (.cell (s.bx 7 2 rfl rfl) (.cell (s.bx 7 3 rfl rfl) (.cell (s.bx 7 4 rfl rfl) (.cell (s.bx 7 5 rfl rfl) (.cell (s.bx 7 6 rfl rfl) (.cell (s.bx 7 7 rfl rfl) (.cell (s.bx 7 8 rfl rfl) (.cell (s.bx 4 0 rfl rfl) (.cell (s.bx 4 1 rfl rfl) (.cell (s.bx 4 2 rfl rfl) (.cell (s.bx 4 3 rfl rfl) (.cell (s.bx 4 4 rfl rfl) (.cell (s.bx 4 4 rfl rfl) .nil)))))))))))))))))))) .nil fun f g=>?_
   obtain ⟨l,f,B⟩:=bind_some B
   refine c_call g (f105_ok fuel x0 x3k x3o x3f x3t x3m l f z5 _ _ m v0_x0 v1_x0 v2_x0 v3_x0 v4_x0 v5_x0 v6_x0 v7_x0 v8_x0 (Ty.mono _ (zt k2 k3) hx_x0)) ?_
   rintro g m o ⟨q,t,u,p,rfl,f,y⟩ z
   refine ⟨fun _=>Sub.of p f,?_⟩
   have g:=Sub.of p f
   obtain ⟨o,g,B⟩:=bind_some B
   refine c_call z (f104_ok fuel D l x3m o g q _ _ f A C (SliceR.mono p F) t u y) ?_
   rintro g q t ⟨J,l,m,G,rfl,f⟩ u
   refine ⟨fun _=>Sub.of (zt p G) (St.drop 1 f),?_⟩
   have g:=Sub.of (zt p G) (St.drop 1 f)
   refine c_S 1 [] [10,11,168,170] g u (fun _ s=>(.prop H .nil)) .nil fun q g=>p_storeA (i:=15) (j:=3) (b:=b6) (ix:=x3f) (pre:=[]) (vs:=[v1,v2,v3,v4,v5,v6,v7,v8,v9]) (post:=[]) (v:=sL l o m) f g rfl (by have z2:=H.1; have P:=H.2; simp at P ⊢; omega) (by kernel_rfl) rfl fun g q f I=>⟨fun e=>absurd e (by decide),?_⟩
   obtain ⟨q,t,u,y,z,A,C,D,F,g⟩:=nine (vs:=[v1,v2,v3,v4,v5,v6,v7,v8,v9].set (Int.toNat x3f) (sL l o m)) (by simp)
   rw [g] at f
   have l:[q,t,u,y,z,A,C,D,F][Int.toNat x3f]? =some (sL l o m):=by rw [← g]; exact List.getElem?_set_self (by have z2:=H.1; have P:=H.2; simp at P ⊢; omega)
   have f:=f
   refine c_done ?_
   have f:=f.ownClose (j:=2) (k:=0) rfl rfl (by decide) (List.getElem?_eq_some_iff.1 (getI_spec O).2).1
   rw [g] at f
   refine n_block (n_then (⟨J,(y2.set (Int.toNat x3f) o),q,t,u,y,z,A,C,D,F,(zt (zt k3 p) G),I.to,(St.drop 2 f),B⟩))
  have U:=cond_f K U
  refine c_sq [] [8,10,11,171] M .nil fun f J=>c_if (x3k == (6:Int)) J (fun I=>?_) (fun I=>?_)
  ·have B:=cond_t I U
   obtain ⟨q,l,B⟩:=bind_some B
   obtain ⟨m,o,g,p,f⟩:=ae.ownOpen (j:=0) rfl l
   refine c_seq (c_q [vI x3f,sL m q o] [8,10,11,19] J (.cell (f.bx 4 2 rfl rfl) (.prop p (.cell ((arrAddr b6 0 (Int.toNat x3f)) ▸ (f.box (i:=2) rfl (getElem?_app_right [] _ _ g []))) .nil))) fun m D=>?_)
   have f:=f.ownClose' (j:=1) (k:=0) rfl rfl (by decide) g (getI_spec l).2
   refine n_then ?_
   obtain ⟨z,C,B⟩:=bind_some B
   obtain ⟨p,u,A,y,f⟩:=f.ownOpen (j:=1) rfl C
   refine c_sr ?_
   obtain ⟨q,g,B⟩:=bind_some B
   obtain ⟨m,o,g,l,t⟩:=f.ownTail (j:=0) rfl g
   refine c_n 8 [vI x3f,sL p z u,sL m q o] [8,10,11,19,186] D (.cell (f.bx 5 2 rfl rfl) (.prop y (.cell ((arrAddr b6 0 (Int.toNat x3f)) ▸ (f.box (i:=3) rfl (getElem?_app_right [] _ _ A []))) (.prop g (.prop l .nil))))) fun l g=>?_
   obtain ⟨y,p,B⟩:=bind_some B
   refine c_call g (lendS f (j:=0) rfl fun f L3960 u g l=>f68_ok fuel q y p f L3960 _ l m o (t _ g)) ?_
   rintro g l m ⟨K,M,rfl,o⟩ f
   refine tv (c_z [] [8,10,11,19,20] f .nil fun f D=>?_)
   have f:=o.ownClose' (j:=2) (k:=0) rfl rfl (by decide) A (getI_spec C).2
   refine n_then ?_
   obtain ⟨z,H,B⟩:=bind_some B
   obtain ⟨q,t,u,p,f⟩:=f.ownOpen (j:=2) rfl H
   have g:=f.drew
   have l:=Sub.of zr (g.mask (i:=0) rfl)
   refine c_regD [(0,true),(1,true),(2,true),(3,true),(4,true),(5,true),(6,true),(7,true),(8,true),(9,true),(10,true),(13,true),(11,false),(12,false),(14,true),(15,false)] [15] _ l ?_
   obtain ⟨m,f,B⟩:=bind_some B
   obtain ⟨f,g,o⟩:=g.ownSub (j:=0) rfl f
   refine c_S 12 [vI x3f,vI x3f,sL q z t,sL q m t] [10,11,189,197,198,201] l D (fun _ s=>(.cell (s.bx 6 2 rfl rfl) (.cell (s.bx 6 2 rfl rfl) (.prop p (.cell ((arrAddr b6 0 (Int.toNat x3f)) ▸ (s.box (i:=4) rfl (getElem?_app_right [] _ _ u []))) (.prop f (.prop g .nil))))))) .nil fun g f=>?_
   refine p_box (i:=11) (d:=(some 199)) (cs:=[.bool y]) (T:=4) (v:=fun g=> .slice (some ⟨g,0,none⟩) 1 1) o f (fun b=>by kernel_rfl) fun g l m f o=>⟨fun _=>Sub.of zr ((St.drop 1 f).mask (i:=0) rfl),?_⟩
   have f:=f.ownBox (T:=Ty.bool) (E:=4) (n:=1) (xs:=[y]) (i:=0) rfl (Rows.cons (c:=[.bool y]) rfl rfl) rfl (by decide)
   have l:=Sub.of zr ((St.drop 1 f).mask (i:=0) rfl)
   obtain ⟨t,l,B⟩:=bind_some B
   refine p_append (T:=Ty.bool) (i:=12) (j:=1) (d:=some 200) (o2:=(some ⟨g,0,none⟩)) (c2:=1) (ys:=([y])) el126 f o rfl (by kernel_rfl) (f.ownSrc (j:=0) rfl) l fun l m g q f o=>⟨fun _=>Sub.of zr ((St.drop 1 f).mask (i:=0) rfl),?_⟩
   have g:=Sub.of zr ((St.drop 1 f).mask (i:=0) rfl)
   refine c_S 1 [] [10,11,200,202] g o (fun _ s=>(.prop p .nil)) .nil fun o g=>p_storeA (i:=15) (j:=5) (b:=b6) (ix:=x3f) (pre:=[]) (vs:=[v1,v2,v3,v4,v5,v6,v7,v8,v9]) (post:=[]) (v:=sL l t m) f g rfl (by have z2:=p.1; have P:=p.2; simp at P ⊢; omega) (by kernel_rfl) rfl fun g o f G=>⟨fun e=>absurd e (by decide),?_⟩
   obtain ⟨o,q,u,y,z,A,C,D,F,g⟩:=nine (vs:=[v1,v2,v3,v4,v5,v6,v7,v8,v9].set (Int.toNat x3f) (sL l t m)) (by simp)
   rw [g] at f
   have l:[o,q,u,y,z,A,C,D,F][Int.toNat x3f]? =some (sL l t m):=by rw [← g]; exact List.getElem?_set_self (by have z2:=p.1; have P:=p.2; simp at P ⊢; omega)
   have f:=f
   refine c_done ?_
   have f:=f.ownClose (j:=4) (k:=1) rfl rfl (by decide) (List.getElem?_eq_some_iff.1 (getI_spec H).2).1
   rw [g] at f
   refine n_block (n_then (⟨K,(y2.set (Int.toNat x3f) t),o,q,u,y,z,A,C,D,F,(zt k3 M),G.to,(St.drop 4 f),B⟩))
  have B:=cond_f I U
  refine c_skip (n_block (n_then (⟨z5,y2,v1,v2,v3,v4,v5,v6,v7,v8,v9,k3,J.to,ae,B⟩)))
 rintro l m ⟨z4,y1,a4,a5,a6,a7,a8,a9,aa,ab,ac,p,g,f,B⟩
 refine c_sr (c_n 1 [a4,a5,a6,a7,a8,a9,aa,ab,ac] [10,203] g (.cell (f.bx 1 0 rfl rfl) (.cell (f.bx 1 1 rfl rfl) (.cell (f.bx 1 2 rfl rfl) (.cell (f.bx 1 3 rfl rfl) (.cell (f.bx 1 4 rfl rfl) (.cell (f.bx 1 5 rfl rfl) (.cell (f.bx 1 6 rfl rfl) (.cell (f.bx 1 7 rfl rfl) (.cell (f.bx 1 8 rfl rfl) .nil))))))))) fun g l=>?_)
 have g:=f.ownOnes (j:=0) rfl
 refine p_store_eq (i:=1) (j:=2) (b:=b5) (off:=0) (vs:=[a4,a5,a6,a7,a8,a9,aa,ab,ac]) (cs':=[a4,a5,a6,a7,a8,a9,aa,ab,ac]) f l rfl (by kernel_rfl) g rfl fun g l f m=>tv (c_dt (c_ret ?_))
 obtain ⟨g,l,f,o⟩:=f.ownShareN (j:=0) rfl (n:=9) rfl
 refine c_rt [a4,a5,a6,a7,a8,a9,aa,ab,ac] (.agg #[a4,a5,a6,a7,a8,a9,aa,ab,ac]) m (.cell (f.bx 2 0 rfl rfl) (.cell (f.bx 2 1 rfl rfl) (.cell (f.bx 2 2 rfl rfl) (.cell (f.bx 2 3 rfl rfl) (.cell (f.bx 2 4 rfl rfl) (.cell (f.bx 2 5 rfl rfl) (.cell (f.bx 2 6 rfl rfl) (.cell (f.bx 2 7 rfl rfl) (.cell (f.bx 2 8 rfl rfl) .nil))))))))) ?_
 obtain rfl:=some_eq B
 exact ⟨_,rfl,g,a4,a5,a6,a7,a8,a9,aa,ab,ac,(zt (zt k2 p) l),rfl,(St.drop 7 f),(Ty.mono _ zr o)⟩
end Go.Proofs.YtlmgjjmighajdaaGreat
