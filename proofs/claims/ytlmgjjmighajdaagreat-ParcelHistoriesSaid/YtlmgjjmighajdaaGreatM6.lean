/-
  A part of the walk and of the plain law of one given statement. No condition.
-/
import Derived.Test.YtlmgjjmighajdaaGreatM4
set_option linter.unusedVariables false
namespace Go.Proofs.YtlmgjjmighajdaaGreat
open Go.Sl Go.Sx
def F58_j1 (k1:(List (List Part))→(List Part)→Int→Option (List (List Part)×List Part)) (y1:Int) (y2:List (List Part)) (y3:List Part):Option (List (List Part)×List Part) :=
  (k1 y2 y3 (w64 (y1 + (1:Int))))
def F58_j2 (fuel:Nat) (k1:(List (List Part))→(List Part)→Int→Option (List (List Part)×List Part)) (y4:List (List Part)) (y5:List Part) (y1:Int) (y6:List Part) (y7:List Part):Option (List (List Part)×List Part) :=
  ((F59 fuel y5 y6).bind fun r1=>(cond (decide ((y7.length:Int) > (0:Int))) ((appC y4 ([y7])).bind fun d1=>(F58_j1 k1 y1 d1 r1)) (F58_j1 k1 y1 y4 r1)))
def F58_l2 (fuel:Nat) (x0:List (List Part)) (r2:List Int):Nat→(List (List Part))→(List Part)→Int→Option (List (List Part)×List Part)
  | 0,_,_,_=>none
  | n1 + 1,y4,y5,y1 =>
    let k1:(List (List Part))→(List Part)→Int→Option (List (List Part)×List Part):=F58_l2 fuel x0 r2 n1
    (cond (decide (y1<(x0.length:Int))) ((getI x0 y1).bind fun p1=>((getI r2 y1).bind fun p2=>((F83 fuel p1 p2).bind fun r3=>(F58_j2 fuel k1 y4 y5 y1 r3.1 r3.2)))) (some (y4,y5)))
def F58_l1 (fuel:Nat) (x0:List (List Part)) (x1:Int):Nat→(List Int)→Int→Option (List (List Part)×List Part)
  | 0,_,_=>none
  | n2 + 1,y8,y9 =>
    let k2:(List Int)→Int→Option (List (List Part)×List Part):=F58_l1 fuel x0 x1 n2
    (cond (decide (y9<(x0.length:Int))) ((getI x0 y9).bind fun p3=>((F82 fuel p3).bind fun r4=>((appC y8 ([r4])).bind fun d2=>(k2 d2 (w64 (y9 + (1:Int))))))) ((F84 fuel x1 y8).bind fun r2=>(F58_l2 fuel x0 r2 fuel ([]) ([]) 0)))
def F58 (fuel:Nat) (x0:List (List Part)) (x1:Int):Option (List (List Part)×List Part) :=
  (F58_l1 fuel x0 x1 fuel ([]) 0)
set_option maxRecDepth 100000 in
theorem f58_ok (fuel:Nat) (x0:List (List Part)) (x1:Int) (r:List (List Part)×List Part) (hr:F58 fuel x0 x1=some r) (h:Zone) (L:List Atom) (w:World) (hS:St h L w) (o_x0:Option Addr) (c_x0:Nat) (hx_x0:SliceR (Ty.slice PartT) h o_x0 c_x0 x0) :
    Calls Tryz.prog 58 #[.slice o_x0 x0.length c_x0,vI x1] w fun e w'=>∃v,e= .returned v∧(∃h',∃o0:Option Addr,∃c0:Nat,∃o1:Option Addr,∃c1:Nat,Zone.le h h'∧v= .tuple #[.slice o0 r.1.length c0, .agg #[.slice o1 r.2.length c1]]∧St h' (ownS (Ty.slice PartT) 49 o0 c0 r.1::L) w'∧SliceR PartT h' o1 c1 r.2):=by
 refine calls_intro (N:=62) Tryz.func58 (by kernel_rfl) fun a hf=>?_
 refine c_sr (c_n 1 [] [0,1] hf .nil fun p f=>(c_box [N0] 49 hS f fun O q t l g=>tv (c_dt (c_sq [] [0,1,5,6] g .nil fun u k=>(c_seq (c_sq [] [0,1,5,6,7] k .nil fun y m=>(c_block 0 ?_)))))))
 have f:=l.ownNil Ty.int 3
 refine c_loop (fun n a w=>∃u:Zone,∃z:List Int,∃y:Int,∃C:Option Addr,∃D:Nat,Zone.le h u∧Fr a 62 [(0, .slice o_x0 x0.length c_x0),(1,vI x1),(5,pB O 0),(6, .slice C z.length D),(7,vI y)]∧St u (ownS Ty.int 3 C D z::box O [N0] 49::L) w∧(F58_l1 fuel x0 x1 n z y)=some r) fuel ⟨h,[],0,none,0,zr,m.to,f,hr⟩ ?_
 rintro f g k ⟨u,z,y,C,D,k3,l,F,G⟩
 cases f with
 | zero=>cases G
 | succ H =>
 refine c_seq (c_sq [] [0,1,5,6,7,17] l .nil fun f B=>(c_if (decide (y<(x0.length:Int))) B (fun A=>?_) (fun A=>?_)))
 ·have o:=cond_t A G
  refine c_skip (n_then (c_seq (c_block 1 (c_reg ?_))))
  obtain ⟨q,f,o⟩:=bind_some o
  obtain ⟨g,l,m,k,f,p⟩:=SliceR.getI (SliceR.mono k3 hx_x0) f
  obtain ⟨f,k,rfl,t⟩:=f
  refine c_n 5 [.pointer (some g), .slice f q.length k] [0,1,5,7,20,24] B (.prop l (.prop m (.cell (F.cell (p 0 _ rfl)) .nil))) fun g m=>?_
  obtain ⟨g,l,o⟩:=bind_some o
  refine c_call m (f82_ok fuel q g l u _ _ F f k t) ?_
  rintro f m p ⟨t,u,rfl,k⟩ l
  refine tv ?_
  refine p_box (i:=6) (d:=(some 26)) (cs:=[vI g]) (T:=3) (v:=fun f=> .slice (some ⟨f,0,none⟩) 1 1) k l (fun b=>by kernel_rfl) fun f l m k p=>tv ?_
  have k:=k.ownBox (T:=Ty.int) (E:=3) (n:=1) (xs:=[g]) (i:=0) rfl (Rows.cons (c:=[vI g]) rfl rfl) rfl (by decide)
  obtain ⟨q,l,o⟩:=bind_some o
  refine p_append (T:=Ty.int) (i:=7) (j:=1) (d:=some 27) (o2:=(some ⟨f,0,none⟩)) (c2:=1) (ys:=([g])) el76 k p rfl (by kernel_rfl) (k.ownSrc (j:=0) rfl) l fun g k l m p f=>tv ?_
  refine c_z [] [0,1,5,6,7] f .nil fun l f=>?_
  refine n_block (n_then (c_q [] [0,1,5,6,7] f .nil fun l f=>(n_then ?_)))
  exact ⟨H,Nat.lt_succ_self H,t,q,(w64 (y + (1:Int))),g,k,(zt k3 u),f.to,(St.drop 1 p),o⟩
 ·have o:=cond_f A G
  refine c_exit 0 (x_then (x_then (x_block (n_then (c_sr (c_n 2 [] [0,5,28,29] B .nil fun f m=>?_))))))
  obtain ⟨g,k5,k,l⟩:=F.share (j:=0) rfl
  obtain ⟨M,f,o⟩:=bind_some o
  refine c_call m (f84_ok fuel x1 z M f g _ _ k C D l) ?_
  rintro g k l ⟨m,X,Y,k6,rfl,p,z⟩ f
  refine tv ?_
  refine c_t [] [0,5,8] f .nil fun g f=>?_
  refine c_sq [] [0,5,8,9] f .nil fun g f=>?_
  refine c_sr (c_box [N0] 49 p f fun I l p g f=>tv (c_dt (c_seq (c_sq [] [0,5,8,9,10,11] f .nil fun q k=>(c_block 2 ?_)))))
  have f:=g.ownNil (Ty.slice PartT) 49
  refine c_loop (fun n a w=>∃U:Zone,∃J:List (List Part),∃R:List Part,∃K:Int,∃P:Option Addr,∃Q:Nat,∃V:Option Addr,∃W:Nat,Zone.le m U∧Fr a 62 [(0, .slice o_x0 x0.length c_x0),(5,pB O 0),(8, .slice X M.length Y),(9, .slice P J.length Q),(10,pB I 0),(11,vI K)]∧St U (ownS (Ty.slice PartT) 49 P Q J::box I [.slice V R.length W] 49::emp::box O [N0] 49::L) w∧SliceR PartT U V W R∧(F58_l2 fuel x0 M n J R K)=some r) fuel ⟨m,[],[],0,none,0,none,0,zr,k.to,f,SliceR.nil' _ _,o⟩ ?_
  rintro f g ac ⟨U,J,R,K,P,Q,V,W,k7,k,aa,ab,a8⟩
  cases f with
  | zero=>cases a8
  | succ n1 =>
  refine c_seq (c_sq [] [0,5,8,9,10,11,34] k .nil fun f a9=>(c_if (decide (K<(x0.length:Int))) a9 (fun a7=>?_) (fun a7=>?_)))
  ·have o:=cond_t a7 a8
   refine c_skip (n_then (c_mid (fun a w=>∃z6:Zone,∃y2:List (List Part),∃y3:List Part,∃e7:Option Addr,∃q7:Nat,∃e8:Option Addr,∃q8:Nat,Zone.le U z6∧Fr a 62 [(0, .slice o_x0 x0.length c_x0),(5,pB O 0),(8, .slice X M.length Y),(9, .slice e7 y2.length q7),(10,pB I 0),(11,vI K)]∧St z6 (ownS (Ty.slice PartT) 49 e7 q7 y2::box I [.slice e8 y3.length q8] 49::emp::box O [N0] 49::L) w∧SliceR PartT z6 e8 q8 y3∧(F58_j1 (F58_l2 fuel x0 M n1) K y2 y3)=some r) ?_ ?_))
   ·skip
    refine c_block 3 (c_mid (fun a w=>∃z7:Zone,∃y6:List Part,∃S:List Part,∃b4:Nat,∃b5:Nat,∃e9:Option Addr,∃q9:Nat,∃a2:Option Addr,∃a3:Nat,Zone.le U z7∧Fr a 62 [(0, .slice o_x0 x0.length c_x0),(5,pB O 0),(8, .slice X M.length Y),(9, .slice P J.length Q),(10,pB I 0),(11,vI K),(12,pB b4 0),(13,pB b5 0)]∧St z7 (box b4 [.slice e9 y6.length q9] 49::box b5 [.slice a2 S.length a3] 49::ownS (Ty.slice PartT) 49 P Q J::box I [.slice V R.length W] 49::emp::box O [N0] 49::L) w∧SliceR PartT z7 e9 q9 y6∧SliceR PartT z7 a2 a3 S∧(F58_j2 fuel (F58_l2 fuel x0 M n1) J R K y6 S)=some r) ?_ ?_)
    ·skip
     have a4:=aa.drew
     have y:=Sub.of zr a4
     refine w_regB (by kernel_rfl) [8,14,15] (Sub U (ownS (Ty.slice PartT) 49 P Q J::box I [.slice V R.length W] 49::emp::box O [N0] 49::L)) (by kernel_rfl) ?_
     refine k_seg' 8 [(0,true),(1,true),(2,true),(3,true),(4,true),(5,true),(6,true),(7,true)] (by kernel_rfl) (by kernel_rfl) (At.start y) (by kernel_rfl) ?_
     obtain ⟨p1,f,o⟩:=bind_some o
     obtain ⟨p,q,t,g,f,u⟩:=SliceR.getI (SliceR.mono (zt (zt (zt k3 k5) k6) k7) hx_x0) f
     obtain ⟨a0,a1,rfl,a5⟩:=f
     obtain ⟨Z,f,G⟩:=bind_some o
     obtain ⟨f,g,k,m,rfl,l⟩:=SliceR.getI (SliceR.mono k7 z) f
     refine c_S 8 [.pointer (some p), .slice a0 p1.length a1, .pointer (some f),vI Z] [0,5,8,9,10,11,41,45] y a9 (fun _ s=>(.prop q (.prop t (.cell (s.cell (u 0 _ rfl)) (.prop g (.prop k (.cell (s.cell (l 0 _ rfl)) .nil))))))) .nil fun f a6=>?_
     refine c_done ?_
     intro f
     refine k_any' 7 [8,12,13] (by kernel_rfl) f (by kernel_rfl) (by kernel_rfl) ?_
     refine (all_cons ?_ (all_cons ?_ (all_cons ?_ all_nil)))
     ·skip
      obtain ⟨m,f,o⟩:=bind_some G
      refine c_call a6 (f83_ok fuel p1 Z m f U _ _ a4 a0 a1 a5) ?_
      rintro f g k ⟨D,t,u,y,z,p,rfl,C,F,H⟩ l
      refine ⟨fun e=>absurd e (by decide),?_⟩
      refine c_done ?_
      intro f
      refine k_seg' 4 [(9,true),(10,true),(11,true)] (by kernel_rfl) (by kernel_rfl) f (by kernel_rfl) ?_
      refine p_qP 3 [] [(0, .slice o_x0 x0.length c_x0),(5,pB O 0),(8, .slice X M.length Y),(9, .slice P J.length Q),(10,pB I 0),(11,vI K),(47, .agg #[.slice t m.1.length u]),(48, .agg #[.slice y m.2.length z])] [] l (by kernel_rfl) (fun _=> .nil) fun f B=>?_
      refine c_done ?_
      intro f
      refine k_any' 3 [12,13] (by kernel_rfl) f (by kernel_rfl) (by kernel_rfl) ?_
      refine (all_cons ?_ (all_cons ?_ all_nil))
      ·skip
       refine c_box [N0] 49 C B fun A f k g l=>⟨fun _=>Sub.of p (St.drop 1 g),?_⟩
       refine c_done ?_
       intro f
       refine k_seg' 0 [(13,false),(14,false),(15,false)] (by kernel_rfl) (by kernel_rfl) f (by kernel_rfl) ?_
       refine c_box [N0] 49 g l fun q k l f g=>⟨fun _=>Sub.of p (St.drop 2 f),?_⟩
       have k:=Sub.of p (St.drop 2 f)
       refine c_st 1 [.slice t m.1.length u] f g rfl fun k l f g=>⟨fun e=>absurd e (by decide),?_⟩
       refine c_st 0 [.slice y m.2.length z] f g rfl fun f g k l=>⟨fun e=>absurd e (by decide),?_⟩
       refine c_done ?_
       intro f
       refine k_done' (by kernel_rfl) (by kernel_rfl) ?_
       refine n_then ?_
       exact ⟨D,m.1,m.2,A,q,t,u,y,z,p,l.to,(St.pick 2 [1,0] k (by kernel_rfl)),F,H,o⟩
      ·skip
       refine c_box [N0] 49 C B fun A f k g l=>⟨fun _=>Sub.of p (St.drop 1 g),?_⟩
       refine c_done ?_
       intro f
       refine k_seg' 0 [(12,false),(14,false),(15,false)] (by kernel_rfl) (by kernel_rfl) f (by kernel_rfl) ?_
       refine c_box [N0] 49 g l fun q k l f g=>⟨fun _=>Sub.of p (St.drop 2 f),?_⟩
       have k:=Sub.of p (St.drop 2 f)
       refine c_st 0 [.slice t m.1.length u] f g rfl fun k l f g=>⟨fun e=>absurd e (by decide),?_⟩
       refine c_st 1 [.slice y m.2.length z] f g rfl fun f g k l=>⟨fun e=>absurd e (by decide),?_⟩
       refine c_done ?_
       intro f
       refine k_done' (by kernel_rfl) (by kernel_rfl) ?_
       refine n_then ?_
       exact ⟨D,m.1,m.2,q,A,t,u,y,z,p,l.to,(St.pick 2 [0,1] k (by kernel_rfl)),F,H,o⟩
     ·skip
      refine c_box [N0] 49 a4 a6 fun F f g A H=>⟨fun _=>Sub.of zr (St.drop 1 A),?_⟩
      refine c_done ?_
      intro f
      have g:=Sub.of zr (St.drop 1 A)
      refine k_seg' 7 [] (by kernel_rfl) (by kernel_rfl) f (by kernel_rfl) ?_
      refine c_done ?_
      intro f
      refine k_any' 6 [8,13] (by kernel_rfl) f (by kernel_rfl) (by kernel_rfl) ?_
      refine (all_cons ?_ (all_cons ?_ all_nil))
      ·skip
       obtain ⟨k,f,o⟩:=bind_some G
       refine c_call H (f83_ok fuel p1 Z k f U _ _ A a0 a1 a5) ?_
       rintro f g l ⟨B,p,q,t,u,y,rfl,z,C,D⟩ m
       refine ⟨fun e=>absurd e (by decide),?_⟩
       refine c_done ?_
       intro f
       refine k_seg' 0 [(9,true),(10,true),(11,true),(13,false),(14,false),(15,false)] (by kernel_rfl) (by kernel_rfl) f (by kernel_rfl) ?_
       refine p_qP 3 [] [(0, .slice o_x0 x0.length c_x0),(5,pB O 0),(8, .slice X M.length Y),(9, .slice P J.length Q),(10,pB I 0),(11,vI K),(12,pB F 0),(47, .agg #[.slice p k.1.length q]),(48, .agg #[.slice t k.2.length u])] [] m (by kernel_rfl) (fun _=> .nil) fun g f=>?_
       refine c_box [N0] 49 z f fun z l m f g=>⟨fun _=>Sub.of y (St.drop 2 f),?_⟩
       have l:=Sub.of y (St.drop 2 f)
       refine c_st 1 [.slice p k.1.length q] f g rfl fun l m f g=>⟨fun e=>absurd e (by decide),?_⟩
       refine c_st 0 [.slice t k.2.length u] f g rfl fun f g l m=>⟨fun e=>absurd e (by decide),?_⟩
       refine c_done ?_
       intro f
       refine k_done' (by kernel_rfl) (by kernel_rfl) ?_
       refine n_then ?_
       exact ⟨B,k.1,k.2,F,z,p,q,t,u,y,m.to,(St.pick 2 [1,0] l (by kernel_rfl)),C,D,o⟩
      ·skip
       refine c_box [N0] 49 A H fun D f g k l=>⟨fun _=>Sub.of zr (St.drop 2 k),?_⟩
       refine c_done ?_
       intro f
       have g:=Sub.of zr (St.drop 2 k)
       refine k_seg' 0 [(8,false),(9,true),(10,true),(11,true),(14,false),(15,false)] (by kernel_rfl) (by kernel_rfl) f (by kernel_rfl) ?_
       obtain ⟨f,g,o⟩:=bind_some G
       refine c_call l (f83_ok fuel p1 Z f g U _ _ k a0 a1 a5) ?_
       rintro k l m ⟨z,p,q,t,u,A,rfl,y,B,C⟩ g
       refine ⟨fun e=>absurd e (by decide),?_⟩
       refine p_qP 3 [] [(0, .slice o_x0 x0.length c_x0),(5,pB O 0),(8, .slice X M.length Y),(9, .slice P J.length Q),(10,pB I 0),(11,vI K),(12,pB F 0),(13,pB D 0),(47, .agg #[.slice p f.1.length q]),(48, .agg #[.slice t f.2.length u])] [] g (by kernel_rfl) (fun _=> .nil) fun k g=>?_
       refine c_st 1 [.slice p f.1.length q] y g rfl fun l m g k=>⟨fun e=>absurd e (by decide),?_⟩
       refine c_st 0 [.slice t f.2.length u] g k rfl fun g k l m=>⟨fun e=>absurd e (by decide),?_⟩
       refine c_done ?_
       intro g
       refine k_done' (by kernel_rfl) (by kernel_rfl) ?_
       refine n_then ?_
       exact ⟨z,f.1,f.2,F,D,p,q,t,u,A,m.to,(St.pick 2 [1,0] l (by kernel_rfl)),B,C,o⟩
     ·skip
      refine c_box [N0] 49 a4 a6 fun F f g A H=>⟨fun _=>Sub.of zr (St.drop 1 A),?_⟩
      refine c_done ?_
      intro f
      have g:=Sub.of zr (St.drop 1 A)
      refine k_seg' 7 [] (by kernel_rfl) (by kernel_rfl) f (by kernel_rfl) ?_
      refine c_done ?_
      intro f
      refine k_any' 6 [8,12] (by kernel_rfl) f (by kernel_rfl) (by kernel_rfl) ?_
      refine (all_cons ?_ (all_cons ?_ all_nil))
      ·skip
       obtain ⟨k,f,o⟩:=bind_some G
       refine c_call H (f83_ok fuel p1 Z k f U _ _ A a0 a1 a5) ?_
       rintro f g l ⟨B,p,q,t,u,y,rfl,z,C,D⟩ m
       refine ⟨fun e=>absurd e (by decide),?_⟩
       refine c_done ?_
       intro f
       refine k_seg' 0 [(9,true),(10,true),(11,true),(12,false),(14,false),(15,false)] (by kernel_rfl) (by kernel_rfl) f (by kernel_rfl) ?_
       refine p_qP 3 [] [(0, .slice o_x0 x0.length c_x0),(5,pB O 0),(8, .slice X M.length Y),(9, .slice P J.length Q),(10,pB I 0),(11,vI K),(13,pB F 0),(47, .agg #[.slice p k.1.length q]),(48, .agg #[.slice t k.2.length u])] [] m (by kernel_rfl) (fun _=> .nil) fun g f=>?_
       refine c_box [N0] 49 z f fun z l m f g=>⟨fun _=>Sub.of y (St.drop 2 f),?_⟩
       have l:=Sub.of y (St.drop 2 f)
       refine c_st 0 [.slice p k.1.length q] f g rfl fun l m f g=>⟨fun e=>absurd e (by decide),?_⟩
       refine c_st 1 [.slice t k.2.length u] f g rfl fun f g l m=>⟨fun e=>absurd e (by decide),?_⟩
       refine c_done ?_
       intro f
       refine k_done' (by kernel_rfl) (by kernel_rfl) ?_
       refine n_then ?_
       exact ⟨B,k.1,k.2,z,F,p,q,t,u,y,m.to,(St.pick 2 [0,1] l (by kernel_rfl)),C,D,o⟩
      ·skip
       refine c_box [N0] 49 A H fun D f g k l=>⟨fun _=>Sub.of zr (St.drop 2 k),?_⟩
       refine c_done ?_
       intro f
       have g:=Sub.of zr (St.drop 2 k)
       refine k_seg' 0 [(8,false),(9,true),(10,true),(11,true),(14,false),(15,false)] (by kernel_rfl) (by kernel_rfl) f (by kernel_rfl) ?_
       obtain ⟨f,g,o⟩:=bind_some G
       refine c_call l (f83_ok fuel p1 Z f g U _ _ k a0 a1 a5) ?_
       rintro k l m ⟨z,p,q,t,u,A,rfl,y,B,C⟩ g
       refine ⟨fun e=>absurd e (by decide),?_⟩
       refine p_qP 3 [] [(0, .slice o_x0 x0.length c_x0),(5,pB O 0),(8, .slice X M.length Y),(9, .slice P J.length Q),(10,pB I 0),(11,vI K),(12,pB D 0),(13,pB F 0),(47, .agg #[.slice p f.1.length q]),(48, .agg #[.slice t f.2.length u])] [] g (by kernel_rfl) (fun _=> .nil) fun k g=>?_
       refine c_st 0 [.slice p f.1.length q] y g rfl fun l m g k=>⟨fun e=>absurd e (by decide),?_⟩
       refine c_st 1 [.slice t f.2.length u] g k rfl fun g k l m=>⟨fun e=>absurd e (by decide),?_⟩
       refine c_done ?_
       intro g
       refine k_done' (by kernel_rfl) (by kernel_rfl) ?_
       refine n_then ?_
       exact ⟨z,f.1,f.2,D,F,p,q,t,u,A,m.to,(St.pick 2 [0,1] l (by kernel_rfl)),B,C,o⟩
    ·rintro k l ⟨z7,y6,S,b4,b5,e9,q9,a2,a3,F,g,f,m,z,o⟩
     refine c_sr (c_n 2 [.slice V R.length W, .slice e9 y6.length q9] [0,5,8,9,10,11,13,49,50] g (.cell (f.bx 3 0 rfl rfl) (.cell (f.bx 0 0 rfl rfl) .nil)) fun g k=>?_)
     obtain ⟨A,g,G⟩:=bind_some o
     refine c_call k (f59_ok fuel R y6 A g z7 _ _ f V W (SliceR.mono F ab) e9 q9 m) ?_
     rintro k l m ⟨H,B,C,D,rfl,f,I⟩ g
     refine tv ?_
     refine c_st 3 [.slice B A.length C] f g rfl fun g k l f=>tv ?_
     refine c_dt (c_sq [.slice a2 S.length a3] [0,5,8,9,10,11,13,55] f (.cell (l.bx 1 0 rfl rfl) .nil) fun f y=>(c_if (decide ((S.length:Int) > (0:Int))) y (fun m=>?_) (fun m=>?_)))
     ·have o:=cond_t m G
      refine c_reg (c_n 2 [.slice a2 S.length a3] [0,5,8,10,11,56,57] y (.cell (l.bx 1 0 rfl rfl) .nil) fun p f=>(p_box (i:=2) (d:=(some 58)) (cs:=[.slice a2 S.length a3]) (T:=49) (v:=fun g=> .slice (some ⟨g,0,none⟩) 1 1) l f (fun b=>by kernel_rfl) fun g q t k u=>tv ?_))
      have f:=k.ownBox (T:=(Ty.slice PartT)) (E:=49) (n:=1) (xs:=[S]) (i:=0) rfl (Rows.cons (c:=[.slice a2 S.length a3]) (sliceRep ((SliceR.mono D z))) rfl) rfl (by decide)
      obtain ⟨z,k,o⟩:=bind_some o
      refine p_append (T:=(Ty.slice PartT)) (i:=3) (j:=3) (d:=some 59) (o2:=(some ⟨g,0,none⟩)) (c2:=1) (ys:=([S])) el26 f u rfl (by kernel_rfl) (f.ownSrc (j:=0) rfl) k fun g k p q t f=>tv ?_
      refine c_z [] [0,5,8,9,10,11] f .nil fun p f=>?_
      refine n_block (n_then ?_)
      exact ⟨H,z,A,g,k,B,C,(zt F D),f.to,(St.drop 3 t),I,o⟩
     ·have o:=cond_f m G
      refine c_skip (n_block (n_then ?_))
      exact ⟨H,J,A,P,Q,B,C,(zt F D),y.to,(St.drop 2 l),I,o⟩
   ·rintro g k ⟨z6,y2,y3,e7,q7,e8,q8,l,f,m,p,o⟩
    refine c_q [] [0,5,8,9,10,11] f .nil fun g f=>?_
    refine n_then ?_
    exact ⟨n1,Nat.lt_succ_self n1,z6,y2,y3,(w64 (K + (1:Int))),e7,q7,e8,q8,(zt k7 l),f.to,m,p,o⟩
  ·have o:=cond_f a7 a8
   refine c_exit 2 (x_then (x_then (x_block (n_then (c_seq ?_)))))
   have f:=aa.drew
   refine c_regD (rD 4 [3]) [3] (fun x=>x=ac.drew) rfl ?_
   refine c_E 3 [.slice V R.length W] [4,5,61] a9 (.cell (f.bx 1 0 rfl rfl) .nil) .nil fun k g=>?_
   refine c_st 3 [.slice V R.length W] f g rfl fun k l f g=>⟨fun e=>absurd e (by decide),?_⟩
   refine c_dt (c_ret (c_rt [.slice V R.length W] (.tuple #[.slice P J.length Q, .agg #[.slice V R.length W]]) g (.cell (f.bx 3 0 rfl rfl) .nil) ?_))
   obtain rfl:=some_eq o
   exact ⟨_,rfl,U,P,Q,V,W,(zt (zt (zt k3 k5) k6) k7),rfl,(St.pick 4 [0] f (by kernel_rfl)),ab⟩
def F22_j2 (y1:List Part) (y2:List Lot) (y3:List (List (List Part))):Option (List Lot×List (List (List Part))×List Part×Int) :=
  (some (y2,y3,y1,0))
def F22_j1 (fuel:Nat) (r1:List Lot×List (List (List Part))) (y4:List (List (List Part))) (y5:List Part):Option (List Lot×List (List (List Part))×List Part×Int) :=
  ((F55 fuel r1.1 y4).bind fun r2=>((appC ([]) y5).bind fun d1=>(F22_j2 d1 r2.1 r2.2)))
def F22 (fuel:Nat) (x0l:List Lot) (x0h:List (List (List Part))) (x1k:Int) (x1o:Int) (x1f:Int) (x1t:Int) (x1m:Int):Option (List Lot×List (List (List Part))×List Part×Int) :=
  ((F54 fuel x0l x0h x1k x1o x1f x1t x1m).bind fun r3=>(cond (r3 != (0:Int)) (some ([],[[],[],[],[],[],[],[],[],[]],[],r3)) ((F55 fuel x0l x0h).bind fun r1=>(cond (x1k == (1:Int)) ((getI r1.2 x1t).bind fun p1=>((F56 fuel p1 ([⟨x1o,x1m⟩])).bind fun r4=>(F22_j1 fuel r1 (r1.2.set (Int.toNat x1t) r4) ([⟨x1o,x1m⟩])))) (cond (x1k == (2:Int)) ((getI r1.2 x1t).bind fun p2=>((appC p2 ([[⟨x1o,x1m⟩]])).bind fun d2=>(F22_j1 fuel r1 (r1.2.set (Int.toNat x1t) d2) ([⟨x1o,x1m⟩])))) (cond (x1k == (3:Int)) ((getI r1.2 x1f).bind fun p3=>((F57 fuel p3 x1m).bind fun r5=>(F22_j1 fuel r1 (r1.2.set (Int.toNat x1f) r5.1) r5.2))) (cond (x1k == (4:Int)) ((getI r1.2 x1f).bind fun p4=>((F57 fuel p4 x1m).bind fun r6=>((getI (r1.2.set (Int.toNat x1f) r6.1) x1t).bind fun p5=>((F56 fuel p5 r6.2).bind fun r7=>(F22_j1 fuel r1 ((r1.2.set (Int.toNat x1f) r6.1).set (Int.toNat x1t) r7) r6.2))))) (cond (x1k == (5:Int)) ((getI r1.2 x1f).bind fun p6=>((F58 fuel p6 x1m).bind fun r8=>(F22_j1 fuel r1 (r1.2.set (Int.toNat x1f) r8.1) r8.2))) (cond (x1k == (6:Int)) ((getI r1.2 x1f).bind fun p7=>((subI p7 0 (w64 ((p7.length:Int) - (2:Int)))).bind fun d3=>((getI p7 (w64 ((p7.length:Int) - (2:Int)))).bind fun p8=>((getI p7 (w64 ((p7.length:Int) - (1:Int)))).bind fun p9=>((appC ([]) d3).bind fun d4=>((F59 fuel p8 p9).bind fun r9=>((appC d4 ([r9])).bind fun d5=>(F22_j1 fuel r1 (r1.2.set (Int.toNat x1f) d5) ([]))))))))) (F22_j1 fuel r1 r1.2 ([])))))))))))
set_option maxRecDepth 100000 in
theorem f22_ok (fuel:Nat) (x0l:List Lot) (x0h:List (List (List Part))) (x1k:Int) (x1o:Int) (x1f:Int) (x1t:Int) (x1m:Int) (r:List Lot×List (List (List Part))×List Part×Int) (hr:F22 fuel x0l x0h x1k x1o x1f x1t x1m=some r) (h:Zone) (L:List Atom) (w:World) (hS:St h L w) (o_x0l:Option Addr) (c_x0l:Nat) (hx_x0l:SliceR LotT h o_x0l c_x0l x0l) (V00 V01 V02 V03 V04 V05 V06 V07 V08:Value) (hx_x0h:(Ty.arr 9 (Ty.slice (Ty.slice PartT))).rep h [V00,V01,V02,V03,V04,V05,V06,V07,V08] x0h) :
    Calls Tryz.prog 22 #[.agg #[.slice o_x0l x0l.length c_x0l,V00,V01,V02,V03,V04,V05,V06,V07,V08], .agg #[vI x1k,vI x1o,vI x1f,vI x1t,vI x1m]] w fun e w'=>∃v,e= .returned v∧(∃h',∃o0:Option Addr,∃c0:Nat,∃v1_0:Value,∃v1_1:Value,∃v1_2:Value,∃v1_3:Value,∃v1_4:Value,∃v1_5:Value,∃v1_6:Value,∃v1_7:Value,∃v1_8:Value,∃o2:Option Addr,∃c2:Nat,Zone.le h h'∧v= .tuple #[.agg #[.slice o0 r.1.length c0,v1_0,v1_1,v1_2,v1_3,v1_4,v1_5,v1_6,v1_7,v1_8], .agg #[.slice o2 r.2.2.1.length c2],vI r.2.2.2]∧St h' L w'∧SliceR LotT h' o0 c0 r.1∧(Ty.arr 9 (Ty.slice (Ty.slice PartT))).rep h' [v1_0,v1_1,v1_2,v1_3,v1_4,v1_5,v1_6,v1_7,v1_8] r.2.1∧SliceR PartT h' o2 c2 r.2.2.1):=by
 refine calls_intro (N:=162) Tryz.func22 (by kernel_rfl) fun a hf=>?_
 refine c_sr (c_box [.slice o_x0l x0l.length c_x0l,V00,V01,V02,V03,V04,V05,V06,V07,V08] 29 hS hf fun b1 z A g l=>tv (c_box [vI x1k,vI x1o,vI x1f,vI x1t,vI x1m] 74 g l fun b2 B C m o=>tv (c_box [N0,N0,N0,N0,N0,N0,N0,N0,N0,N0] 29 m o fun b3 D F p q=>tv (c_box [N0] 49 p q fun b4 G H f t=>tv (c_t [] [2,3,4,5] t .nil fun I u=>(c_sr (c_n 2 [.slice o_x0l x0l.length c_x0l,V00,V01,V02,V03,V04,V05,V06,V07,V08,vI x1k,vI x1o,vI x1f,vI x1t,vI x1m] [2,3,4,5,13,14] u (.cell (f.bx 3 0 rfl rfl) (.cell (f.bx 3 1 rfl rfl) (.cell (f.bx 3 2 rfl rfl) (.cell (f.bx 3 3 rfl rfl) (.cell (f.bx 3 4 rfl rfl) (.cell (f.bx 3 5 rfl rfl) (.cell (f.bx 3 6 rfl rfl) (.cell (f.bx 3 7 rfl rfl) (.cell (f.bx 3 8 rfl rfl) (.cell (f.bx 3 9 rfl rfl) (.cell (f.bx 2 0 rfl rfl) (.cell (f.bx 2 1 rfl rfl) (.cell (f.bx 2 2 rfl rfl) (.cell (f.bx 2 3 rfl rfl) (.cell (f.bx 2 4 rfl rfl) .nil))))))))))))))) fun J y=>?_)))))))
 obtain ⟨z,g,M⟩:=bind_some hr
 refine c_call y (f54_ok fuel x0l x0h x1k x1o x1f x1t x1m z g h _ _ f o_x0l c_x0l hx_x0l V00 V01 V02 V03 V04 V05 V06 V07 V08 (Ty.mono _ zr hx_x0h)) ?_
 rintro l m o ⟨G,k1,rfl,g⟩ f
 refine tv ?_
 refine c_t [] [2,3,4,5,7] f .nil fun l f=>?_
 refine c_seq (c_sq [] [2,3,4,5,7,17] f .nil fun f u=>(c_if (z != (0:Int)) u (fun t=>?_) (fun t=>?_)))
 ·have x:=cond_t t M
  refine c_sr (c_n 3 [] [4,5,18,19,20] u .nil fun y l=>(c_st 1 [N0,N0,N0,N0,N0,N0,N0,N0,N0,N0] g l rfl fun A B m o=>tv (c_st 0 [N0] m o rfl fun C D f p=>tv (c_t [] [4,5,6] p .nil fun F q=>(c_ret (r_then (c_rt [N0,N0,N0,N0,N0,N0,N0,N0,N0,N0,N0] (.tuple #[.agg #[N0,N0,N0,N0,N0,N0,N0,N0,N0,N0], .agg #[N0],vI z]) q (.cell (f.bx 1 0 rfl rfl) (.cell (f.bx 1 1 rfl rfl) (.cell (f.bx 1 2 rfl rfl) (.cell (f.bx 1 3 rfl rfl) (.cell (f.bx 1 4 rfl rfl) (.cell (f.bx 1 5 rfl rfl) (.cell (f.bx 1 6 rfl rfl) (.cell (f.bx 1 7 rfl rfl) (.cell (f.bx 1 8 rfl rfl) (.cell (f.bx 1 9 rfl rfl) (.cell (f.bx 0 0 rfl rfl) .nil))))))))))) ?_)))))))
  obtain rfl:=some_eq x
  exact ⟨_,rfl,G,none,0,N0,N0,N0,N0,N0,N0,N0,N0,N0,none,0,k1,rfl,(St.drop 4 f),SliceR.nil' _ _,⟨rfl,(Rows.cons (c:=[_]) (sliceRep (SliceR.nil' _ _)) (Rows.cons (c:=[_]) (sliceRep (SliceR.nil' _ _)) (Rows.cons (c:=[_]) (sliceRep (SliceR.nil' _ _)) (Rows.cons (c:=[_]) (sliceRep (SliceR.nil' _ _)) (Rows.cons (c:=[_]) (sliceRep (SliceR.nil' _ _)) (Rows.cons (c:=[_]) (sliceRep (SliceR.nil' _ _)) (Rows.cons (c:=[_]) (sliceRep (SliceR.nil' _ _)) (Rows.cons (c:=[_]) (sliceRep (SliceR.nil' _ _)) (Rows.cons (c:=[_]) (sliceRep (SliceR.nil' _ _)) rfl)))))))))⟩,SliceR.nil' _ _⟩
 ·have x:=cond_f t M
  refine c_skip (n_then (c_sr (c_n 1 [.slice o_x0l x0l.length c_x0l,V00,V01,V02,V03,V04,V05,V06,V07,V08] [3,4,5,21] u (.cell (g.bx 3 0 rfl rfl) (.cell (g.bx 3 1 rfl rfl) (.cell (g.bx 3 2 rfl rfl) (.cell (g.bx 3 3 rfl rfl) (.cell (g.bx 3 4 rfl rfl) (.cell (g.bx 3 5 rfl rfl) (.cell (g.bx 3 6 rfl rfl) (.cell (g.bx 3 7 rfl rfl) (.cell (g.bx 3 8 rfl rfl) (.cell (g.bx 3 9 rfl rfl) .nil)))))))))) fun f l=>?_)))
  obtain ⟨X,f,M⟩:=bind_some x
  refine c_call l (f55_ok fuel x0l x0h X f G _ _ g o_x0l c_x0l (SliceR.mono k1 hx_x0l) V00 V01 V02 V03 V04 V05 V06 V07 V08 (Ty.mono _ k1 hx_x0h)) ?_
  rintro l m o ⟨p,e1,q1,v3,v4,v5,v6,v7,v8,v9,a1,a2,k2,rfl,f,al⟩ g
  refine tv ?_
  refine c_box [N0,N0,N0,N0,N0,N0,N0,N0,N0,N0] 29 f g fun b5 g m f l=>tv ?_
  have g:=f.ownOnes (j:=1) rfl
  refine p_store_eq (i:=3) (j:=0) (b:=b5) (off:=0) (vs:=[.slice e1 X.1.length q1,v3,v4,v5,v6,v7,v8,v9,a1,a2]) (cs':=[.slice e1 X.1.length q1,v3,v4,v5,v6,v7,v8,v9,a1,a2]) f l rfl (by kernel_rfl) g rfl fun l m f g=>tv ?_
  refine c_dt (c_sr (c_n 5 [vI x1o,vI x1m] [3,4,5,8,27] g (.cell (f.bx 4 1 rfl rfl) (.cell (f.bx 4 4 rfl rfl) .nil)) fun m g=>(p_box (i:=5) (d:=(some 28)) (cs:=[vI x1o,vI x1m]) (T:=53) (v:=fun b6=> .slice (some ⟨b6,0,none⟩) 1 1) f g (fun b=>by kernel_rfl) fun b6 o p f l=>tv ?_)))
  have g:=f.ownBox (T:=PartT) (E:=53) (n:=1) (xs:=[⟨x1o,x1m⟩]) (i:=0) rfl (Rows.cons (c:=[vI x1o,vI x1m]) rfl rfl) rfl (by decide)
  refine c_n 1 [] [3,4,5,8,29] l .nil fun l f=>?_
  refine c_box [N0] 49 g f fun b7 l m f g=>tv ?_
  refine c_st 0 [.slice (some ⟨b6,0,none⟩) 1 1] f g rfl fun l m f g=>tv ?_
  refine c_dt (c_sr (c_box [N0] 49 f g fun b8 g l f m=>tv (c_dt ?_)))
  obtain ⟨z3,k3,a5,Q⟩:=f.share (j:=2) rfl
  refine c_mid (fun a w=>∃z4:Zone,∃y4:List (List (List Part)),∃y5:List Part,∃ac:Value,∃ad:Value,∃ae:Value,∃af:Value,∃ag:Value,∃ah:Value,∃ai:Value,∃aj:Value,∃ak:Value,∃e2:Option Addr,∃q2:Nat,Zone.le z3 z4∧Fr a 162 [(4,pB b3 0),(5,pB b4 0),(8,pB b5 0),(10,pB b8 0)]∧St z4 (box b8 [.slice e2 y5.length q2] 49::box b7 [.slice (some ⟨b6,0,none⟩) 1 1] 49::emp::box b5 [.slice e1 X.1.length q1,ac,ad,ae,af,ag,ah,ai,aj,ak] 29::ownA (Ty.slice PartT) 49 [ac,ad,ae,af,ag,ah,ai,aj,ak] y4::box b4 [N0] 49::box b3 [N0,N0,N0,N0,N0,N0,N0,N0,N0,N0] 29::box b2 [vI x1k,vI x1o,vI x1f,vI x1t,vI x1m] 74::box b1 [.slice o_x0l x0l.length c_x0l,V00,V01,V02,V03,V04,V05,V06,V07,V08] 29::L) w∧SliceR PartT z4 e2 q2 y5∧(F22_j1 fuel X y4 y5)=some r) ?_ ?_
  ·skip
   refine c_sq [vI x1k] [3,4,5,8,9,10,31] m (.cell (a5.bx 7 0 rfl rfl) .nil) fun g f=>?_
   refine c_block 0 (c_sq [] [3,4,5,8,9,10,31,32] f .nil fun f O=>(c_if (x1k == (1:Int)) O (fun J=>?_) (fun J=>?_)))
   ·have x:=cond_t J M
    refine c_seq ?_
    obtain ⟨z,K,x⟩:=bind_some x
    obtain ⟨t,u,l,o,f⟩:=a5.ownOpen (j:=4) rfl K
    have g:=f.drew
    have f:=Sub.of zr (g.mask (i:=0) rfl)
    refine c_regD [(0,true),(1,true),(2,true),(3,true),(4,true),(5,true),(6,true),(7,true),(9,true),(8,false),(10,true),(11,false)] [11] _ f ?_
    refine c_S 9 [vI x1t,vI x1t, .slice t z.length u, .slice (some ⟨b6,0,none⟩) 1 1] [4,5,8,9,10,35,40,41,43] f O (fun _ s=>(.cell (s.bx 8 3 rfl rfl) (.cell (s.bx 8 3 rfl rfl) (.prop o (.cell ((arrAddr b5 1 (Int.toNat x1t)) ▸ (s.box (i:=4) rfl (getElem?_app_right [.slice e1 X.1.length q1] _ _ l []))) (.cell (s.bx 2 0 rfl rfl) .nil)))))) .nil fun f p=>?_
    obtain ⟨g,y,l,m⟩:=g.share (j:=0) rfl
    obtain ⟨q,f,x⟩:=bind_some x
    refine c_call p (f56_ok fuel z ([⟨x1o,x1m⟩]) q f g _ _ l t u m (some ⟨b6,0,none⟩) 1 (SliceR.mono y Q)) ?_
    rintro g p t ⟨P,l,m,z,rfl,f⟩ u
    refine ⟨fun _=>Sub.of (zt y z) ((St.drop 1 f).mask (i:=0) rfl),?_⟩
    have g:=Sub.of (zt y z) ((St.drop 1 f).mask (i:=0) rfl)
    refine c_S 1 [] [4,5,8,9,10,42,44] g u (fun _ s=>(.prop o .nil)) .nil fun p g=>?_
    refine p_storeA (i:=11) (j:=5) (b:=b5) (ix:=x1t) (pre:=[.slice e1 X.1.length q1]) (vs:=[v3,v4,v5,v6,v7,v8,v9,a1,a2]) (post:=[]) (v:= .slice l q.length m) f g rfl (by have z7:=o.1; have S:=o.2; simp at S ⊢; omega) (by kernel_rfl) rfl fun g p f I=>⟨fun e=>absurd e (by decide),?_⟩
    obtain ⟨t,u,A,B,C,D,F,G,H,g⟩:=nine (vs:=[v3,v4,v5,v6,v7,v8,v9,a1,a2].set (Int.toNat x1t) (.slice l q.length m)) (by simp)
    rw [g] at f
    have l:[t,u,A,B,C,D,F,G,H][Int.toNat x1t]? =some (.slice l q.length m):=by rw [← g]; exact List.getElem?_set_self (by have z7:=o.1; have S:=o.2; simp at S ⊢; omega)
    have f:=f
    refine c_done ?_
    have f:=f.ownClose (j:=6) (k:=0) rfl rfl (by decide) (List.getElem?_eq_some_iff.1 (getI_spec K).2).1
    rw [g] at f
    refine n_then (c_reg (c_n 1 [.slice (some ⟨b6,0,none⟩) 1 1] [4,5,8,10,45] I (.cell (f.bx 3 0 rfl rfl) .nil) fun m g=>(c_st 2 [.slice (some ⟨b6,0,none⟩) 1 1] f g rfl fun o p f l=>tv (c_done (n_block (n_then ?_))))))
    exact ⟨P,(X.2.set (Int.toNat x1t) q),[⟨x1o,x1m⟩],t,u,A,B,C,D,F,G,H,(some ⟨b6,0,none⟩),1,(zt y z),l.to,(St.drop 2 f),(SliceR.mono (zt y z) Q),x⟩
   ·have M:=cond_f J M
    refine c_sq [] [3,4,5,8,9,10,31,46] O .nil fun f J=>?_
    refine c_if (x1k == (2:Int)) J (fun H=>?_) (fun H=>?_)
    ·have x:=cond_t H M
     refine c_seq ?_
     obtain ⟨q,I,x⟩:=bind_some x
     obtain ⟨g,m,o,p,f⟩:=a5.ownOpen (j:=4) rfl I
     have l:=f.drew
     have f:=Sub.of zr (l.mask (i:=0) rfl)
     refine c_regD [(0,true),(1,true),(2,true),(3,true),(4,true),(5,true),(6,true),(7,true),(10,true),(8,false),(9,false),(11,true),(12,false)] [12] _ f ?_
     refine c_S 9 [vI x1t,vI x1t, .slice g q.length m, .slice (some ⟨b6,0,none⟩) 1 1] [4,5,8,9,10,49,54,55,58] f J (fun _ s=>(.cell (s.bx 8 3 rfl rfl) (.cell (s.bx 8 3 rfl rfl) (.prop p (.cell ((arrAddr b5 1 (Int.toNat x1t)) ▸ (s.box (i:=4) rfl (getElem?_app_right [.slice e1 X.1.length q1] _ _ o []))) (.cell (s.bx 2 0 rfl rfl) .nil)))))) .nil fun g f=>?_
     refine p_box (i:=8) (d:=(some 56)) (cs:=[.slice (some ⟨b6,0,none⟩) 1 1]) (T:=49) (v:=fun g=> .slice (some ⟨g,0,none⟩) 1 1) l f (fun b=>by kernel_rfl) fun g l m f o=>⟨fun _=>Sub.of zr ((St.drop 1 f).mask (i:=0) rfl),?_⟩
     have f:=f.ownBox (T:=(Ty.slice PartT)) (E:=49) (n:=1) (xs:=[[⟨x1o,x1m⟩]]) (i:=0) rfl (Rows.cons (c:=[.slice (some ⟨b6,0,none⟩) 1 1]) (sliceRep (Q)) rfl) rfl (by decide)
     have l:=Sub.of zr ((St.drop 1 f).mask (i:=0) rfl)
     obtain ⟨t,l,x⟩:=bind_some x
     refine p_append (T:=(Ty.slice PartT)) (i:=9) (j:=1) (d:=some 57) (o2:=(some ⟨g,0,none⟩)) (c2:=1) (ys:=([[⟨x1o,x1m⟩]])) el26 f o rfl (by kernel_rfl) (f.ownSrc (j:=0) rfl) l fun l m g q f o=>⟨fun _=>Sub.of zr ((St.drop 1 f).mask (i:=0) rfl),?_⟩
     have g:=Sub.of zr ((St.drop 1 f).mask (i:=0) rfl)
     refine c_S 1 [] [4,5,8,9,10,57,59] g o (fun _ s=>(.prop p .nil)) .nil fun o g=>?_
     refine p_storeA (i:=12) (j:=5) (b:=b5) (ix:=x1t) (pre:=[.slice e1 X.1.length q1]) (vs:=[v3,v4,v5,v6,v7,v8,v9,a1,a2]) (post:=[]) (v:= .slice l t.length m) f g rfl (by have z7:=p.1; have S:=p.2; simp at S ⊢; omega) (by kernel_rfl) rfl fun g o f G=>⟨fun e=>absurd e (by decide),?_⟩
     obtain ⟨q,u,y,z,A,B,C,D,F,g⟩:=nine (vs:=[v3,v4,v5,v6,v7,v8,v9,a1,a2].set (Int.toNat x1t) (.slice l t.length m)) (by simp)
     rw [g] at f
     have l:[q,u,y,z,A,B,C,D,F][Int.toNat x1t]? =some (.slice l t.length m):=by rw [← g]; exact List.getElem?_set_self (by have z7:=p.1; have S:=p.2; simp at S ⊢; omega)
     have f:=f
     refine c_done ?_
     have f:=f.ownClose (j:=6) (k:=1) rfl rfl (by decide) (List.getElem?_eq_some_iff.1 (getI_spec I).2).1
     rw [g] at f
     refine n_then (c_reg (c_n 1 [.slice (some ⟨b6,0,none⟩) 1 1] [4,5,8,10,60] G (.cell (f.bx 3 0 rfl rfl) .nil) fun m g=>(c_st 2 [.slice (some ⟨b6,0,none⟩) 1 1] f g rfl fun o p f l=>tv (c_done (n_block (n_then ?_))))))
     exact ⟨z3,(X.2.set (Int.toNat x1t) t),[⟨x1o,x1m⟩],q,u,y,z,A,B,C,D,F,(some ⟨b6,0,none⟩),1,zr,l.to,(St.drop 2 f),Q,x⟩
    ·have M:=cond_f H M
     refine c_sq [] [3,4,5,8,10,31,61] J .nil fun f P=>?_
     refine c_if (x1k == (3:Int)) P (fun K=>?_) (fun K=>?_)
     ·have x:=cond_t K M
      obtain ⟨y,O,x⟩:=bind_some x
      obtain ⟨t,u,l,p,f⟩:=a5.ownOpen (j:=4) rfl O
      have g:=f.drew
      have f:=Sub.of zr (g.mask (i:=0) rfl)
      refine c_regD [(0,true),(1,true),(2,true),(3,true),(4,true),(5,true),(6,true),(7,true),(8,true),(13,true),(9,false),(10,true),(11,true),(12,true),(14,true),(15,false),(16,false)] [15,16] _ f ?_
      refine c_S 10 [vI x1f,vI x1f, .slice t y.length u,vI x1m] [4,5,8,10,65,70,72,76] f P (fun _ s=>(.cell (s.bx 8 2 rfl rfl) (.cell (s.bx 8 2 rfl rfl) (.prop p (.cell ((arrAddr b5 1 (Int.toNat x1f)) ▸ (s.box (i:=4) rfl (getElem?_app_right [.slice e1 X.1.length q1] _ _ l []))) (.cell (s.bx 8 4 rfl rfl) .nil)))))) .nil fun f q=>?_
      obtain ⟨g,H,m,o⟩:=g.share (j:=0) rfl
      obtain ⟨l,f,x⟩:=bind_some x
      refine c_call q (f57_ok fuel y x1m l f g _ _ m t u o) ?_
      rintro g q t ⟨Q,m,o,I,J,G,rfl,f,R⟩ u
      refine ⟨fun _=>Sub.of (zt H G) ((St.drop 1 f).mask (i:=0) rfl),?_⟩
      have g:=Sub.of (zt H G) ((St.drop 1 f).mask (i:=0) rfl)
      refine c_S 4 [] [4,5,8,10,74,75,77] g u (fun _ s=>(.prop p .nil)) .nil fun q g=>?_
      refine p_storeA (i:=15) (j:=5) (b:=b5) (ix:=x1f) (pre:=[.slice e1 X.1.length q1]) (vs:=[v3,v4,v5,v6,v7,v8,v9,a1,a2]) (post:=[]) (v:= .slice m l.1.length o) f g rfl (by have z7:=p.1; have S:=p.2; simp at S ⊢; omega) (by kernel_rfl) rfl fun g q f t=>⟨fun e=>absurd e (by decide),?_⟩
      obtain ⟨q,u,y,z,A,B,C,D,F,g⟩:=nine (vs:=[v3,v4,v5,v6,v7,v8,v9,a1,a2].set (Int.toNat x1f) (.slice m l.1.length o)) (by simp)
      rw [g] at f
      have m:[q,u,y,z,A,B,C,D,F][Int.toNat x1f]? =some (.slice m l.1.length o):=by rw [← g]; exact List.getElem?_set_self (by have z7:=p.1; have S:=p.2; simp at S ⊢; omega)
      have f:=f
      refine c_st 2 [.slice I l.2.length J] f t rfl fun m o f p=>⟨fun e=>absurd e (by decide),?_⟩
      refine c_done ?_
      have f:=f.ownClose (j:=6) (k:=0) rfl rfl (by decide) (List.getElem?_eq_some_iff.1 (getI_spec O).2).1
      rw [g] at f
      refine n_block (n_then ?_)
      exact ⟨Q,(X.2.set (Int.toNat x1f) l.1),l.2,q,u,y,z,A,B,C,D,F,I,J,(zt H G),p.to,(St.drop 2 f),R,x⟩
     ·have M:=cond_f K M
      refine c_sq [] [3,4,5,8,10,31,78] P .nil fun f a0=>?_
      refine c_if (x1k == (4:Int)) a0 (fun Y=>?_) (fun Y=>?_)
      ·have x:=cond_t Y M
       refine c_seq ?_
       obtain ⟨u,y,x⟩:=bind_some x
       obtain ⟨q,t,l,o,f⟩:=a5.ownOpen (j:=4) rfl y
       have g:=f.drew
       have f:=Sub.of zr (g.mask (i:=0) rfl)
       refine c_regD [(0,true),(1,true),(2,true),(3,true),(4,true),(5,true),(6,true),(7,true),(8,true),(13,true),(9,false),(10,true),(11,true),(12,true),(14,true),(15,false),(16,false)] [15,16] _ f ?_
       refine c_S 10 [vI x1f,vI x1f, .slice q u.length t,vI x1m] [3,4,5,8,10,82,87,89,93] f a0 (fun _ s=>(.cell (s.bx 8 2 rfl rfl) (.cell (s.bx 8 2 rfl rfl) (.prop o (.cell ((arrAddr b5 1 (Int.toNat x1f)) ▸ (s.box (i:=4) rfl (getElem?_app_right [.slice e1 X.1.length q1] _ _ l []))) (.cell (s.bx 8 4 rfl rfl) .nil)))))) .nil fun f p=>?_
       obtain ⟨g,W,l,m⟩:=g.share (j:=0) rfl
       obtain ⟨H,f,x⟩:=bind_some x
       refine c_call p (f57_ok fuel u x1m H f g _ _ l q t m) ?_
       rintro g p q ⟨t,l,m,Q,R,V,rfl,f,Z⟩ u
       refine ⟨fun _=>Sub.of (zt W V) ((St.drop 1 f).mask (i:=0) rfl),?_⟩
       have g:=Sub.of (zt W V) ((St.drop 1 f).mask (i:=0) rfl)
       refine c_S 4 [] [3,4,5,8,10,91,92,94] g u (fun _ s=>(.prop o .nil)) .nil fun p g=>?_
       refine p_storeA (i:=15) (j:=5) (b:=b5) (ix:=x1f) (pre:=[.slice e1 X.1.length q1]) (vs:=[v3,v4,v5,v6,v7,v8,v9,a1,a2]) (post:=[]) (v:= .slice l H.1.length m) f g rfl (by have z7:=o.1; have S:=o.2; simp at S ⊢; omega) (by kernel_rfl) rfl fun g p f q=>⟨fun e=>absurd e (by decide),?_⟩
       obtain ⟨A,B,C,D,F,G,J,K,O,g⟩:=nine (vs:=[v3,v4,v5,v6,v7,v8,v9,a1,a2].set (Int.toNat x1f) (.slice l H.1.length m)) (by simp)
       rw [g] at f
       have l:[A,B,C,D,F,G,J,K,O][Int.toNat x1f]? =some (.slice l H.1.length m):=by rw [← g]; exact List.getElem?_set_self (by have z7:=o.1; have S:=o.2; simp at S ⊢; omega)
       have f:=f
       refine c_st 2 [.slice Q H.2.length R] f q rfl fun l m f p=>⟨fun e=>absurd e (by decide),?_⟩
       refine c_done ?_
       have f:=f.ownClose (j:=6) (k:=0) rfl rfl (by decide) (List.getElem?_eq_some_iff.1 (getI_spec y).2).1
       rw [g] at f
       refine n_then ?_
       obtain ⟨z,P,x⟩:=bind_some x
       obtain ⟨t,u,l,o,f⟩:=f.ownOpen (j:=6) rfl P
       have g:=f.drew
       have f:=Sub.of zr (g.mask (i:=0) rfl)
       refine c_regD [(0,true),(1,true),(2,true),(3,true),(4,true),(5,true),(6,true),(7,true),(9,true),(8,false),(10,true),(11,false)] [11] _ f ?_
       refine c_S 9 [vI x1t,vI x1t, .slice t z.length u, .slice Q H.2.length R] [4,5,8,10,96,101,102,104] f p (fun _ s=>(.cell (s.bx 10 3 rfl rfl) (.cell (s.bx 10 3 rfl rfl) (.prop o (.cell ((arrAddr b5 1 (Int.toNat x1t)) ▸ (s.box (i:=6) rfl (getElem?_app_right [.slice e1 X.1.length q1] _ _ l []))) (.cell (s.bx 3 0 rfl rfl) .nil)))))) .nil fun f p=>?_
       obtain ⟨g,y,l,m⟩:=g.share (j:=0) rfl
       obtain ⟨q,f,x⟩:=bind_some x
       refine c_call p (f56_ok fuel z H.2 q f g _ _ l t u m Q R (SliceR.mono y Z)) ?_
       rintro g p t ⟨U,l,m,z,rfl,f⟩ u
       refine ⟨fun _=>Sub.of (zt y z) ((St.drop 1 f).mask (i:=0) rfl),?_⟩
       have g:=Sub.of (zt y z) ((St.drop 1 f).mask (i:=0) rfl)
       refine c_S 1 [] [4,5,8,10,103,105] g u (fun _ s=>(.prop o .nil)) .nil fun p g=>?_
       refine p_storeA (i:=11) (j:=7) (b:=b5) (ix:=x1t) (pre:=[.slice e1 X.1.length q1]) (vs:=[A,B,C,D,F,G,J,K,O]) (post:=[]) (v:= .slice l q.length m) f g rfl (by have z7:=o.1; have S:=o.2; simp at S ⊢; omega) (by kernel_rfl) rfl fun g p f I=>⟨fun e=>absurd e (by decide),?_⟩
       obtain ⟨p,t,u,A,B,C,D,F,G,g⟩:=nine (vs:=[A,B,C,D,F,G,J,K,O].set (Int.toNat x1t) (.slice l q.length m)) (by simp)
       rw [g] at f
       have l:[p,t,u,A,B,C,D,F,G][Int.toNat x1t]? =some (.slice l q.length m):=by rw [← g]; exact List.getElem?_set_self (by have z7:=o.1; have S:=o.2; simp at S ⊢; omega)
       have f:=f
       refine c_done ?_
       have f:=f.ownClose (j:=8) (k:=0) rfl rfl (by decide) (List.getElem?_eq_some_iff.1 (getI_spec P).2).1
       rw [g] at f
       refine n_block (n_then ?_)
       exact ⟨U,((X.2.set (Int.toNat x1f) H.1).set (Int.toNat x1t) q),H.2,p,t,u,A,B,C,D,F,G,Q,R,(zt (zt (zt W V) y) z),I.to,(St.drop 4 f),(SliceR.mono (zt y z) Z),x⟩
      ·have M:=cond_f Y M
       refine c_sq [] [3,4,5,8,10,31,106] a0 .nil fun f P=>?_
       refine c_if (x1k == (5:Int)) P (fun K=>?_) (fun K=>?_)
       ·have x:=cond_t K M
        obtain ⟨y,O,x⟩:=bind_some x
        obtain ⟨t,u,l,p,f⟩:=a5.ownOpen (j:=4) rfl O
        have g:=f.drew
        have f:=Sub.of zr (g.mask (i:=0) rfl)
        refine c_regD [(0,true),(1,true),(2,true),(3,true),(4,true),(5,true),(6,true),(7,true),(8,true),(13,true),(9,false),(10,true),(11,true),(12,true),(14,true),(15,false),(16,false)] [15,16] _ f ?_
        refine c_S 10 [vI x1f,vI x1f, .slice t y.length u,vI x1m] [4,5,8,10,110,115,117,121] f P (fun _ s=>(.cell (s.bx 8 2 rfl rfl) (.cell (s.bx 8 2 rfl rfl) (.prop p (.cell ((arrAddr b5 1 (Int.toNat x1f)) ▸ (s.box (i:=4) rfl (getElem?_app_right [.slice e1 X.1.length q1] _ _ l []))) (.cell (s.bx 8 4 rfl rfl) .nil)))))) .nil fun f q=>?_
        obtain ⟨g,H,m,o⟩:=g.share (j:=0) rfl
        obtain ⟨l,f,x⟩:=bind_some x
        refine c_call q (f58_ok fuel y x1m l f g _ _ m t u o) ?_
        rintro g q t ⟨Q,m,o,I,J,G,rfl,f,R⟩ u
        refine ⟨fun _=>Sub.of (zt H G) ((St.drop 1 f).mask (i:=0) rfl),?_⟩
        have g:=Sub.of (zt H G) ((St.drop 1 f).mask (i:=0) rfl)
        refine c_S 4 [] [4,5,8,10,119,120,122] g u (fun _ s=>(.prop p .nil)) .nil fun q g=>?_
        refine p_storeA (i:=15) (j:=5) (b:=b5) (ix:=x1f) (pre:=[.slice e1 X.1.length q1]) (vs:=[v3,v4,v5,v6,v7,v8,v9,a1,a2]) (post:=[]) (v:= .slice m l.1.length o) f g rfl (by have z7:=p.1; have S:=p.2; simp at S ⊢; omega) (by kernel_rfl) rfl fun g q f t=>⟨fun e=>absurd e (by decide),?_⟩
        obtain ⟨q,u,y,z,A,B,C,D,F,g⟩:=nine (vs:=[v3,v4,v5,v6,v7,v8,v9,a1,a2].set (Int.toNat x1f) (.slice m l.1.length o)) (by simp)
        rw [g] at f
        have m:[q,u,y,z,A,B,C,D,F][Int.toNat x1f]? =some (.slice m l.1.length o):=by rw [← g]; exact List.getElem?_set_self (by have z7:=p.1; have S:=p.2; simp at S ⊢; omega)
        have f:=f
        refine c_st 2 [.slice I l.2.length J] f t rfl fun m o f p=>⟨fun e=>absurd e (by decide),?_⟩
        refine c_done ?_
        have f:=f.ownClose (j:=6) (k:=0) rfl rfl (by decide) (List.getElem?_eq_some_iff.1 (getI_spec O).2).1
        rw [g] at f
        refine n_block (n_then ?_)
        exact ⟨Q,(X.2.set (Int.toNat x1f) l.1),l.2,q,u,y,z,A,B,C,D,F,I,J,(zt H G),p.to,(St.drop 2 f),R,x⟩
       ·have M:=cond_f K M
        refine c_sq [] [3,4,5,8,10,123] P .nil fun f a0=>?_
        refine c_if (x1k == (6:Int)) a0 (fun Z=>?_) (fun Z=>?_)
        ·have x:=cond_t Z M
         obtain ⟨o,a3,x⟩:=bind_some x
         obtain ⟨g,l,m,Q,f⟩:=a5.ownOpen (j:=4) rfl a3
         refine c_sq [vI x1f, .slice g o.length l] [3,4,5,8,10,11] a0 (.cell (f.bx 8 2 rfl rfl) (.prop Q (.cell ((arrAddr b5 1 (Int.toNat x1f)) ▸ (f.box (i:=4) rfl (getElem?_app_right [.slice e1 X.1.length q1] _ _ m []))) .nil))) fun l g=>?_
         refine c_sq [] [3,4,5,8,10,11,12] g .nil fun g W=>?_
         obtain ⟨Y,a4,f,l⟩:=f.share (j:=0) rfl
         have D:=f.drew
         have B:=Sub.of zr D
         refine c_regD [(0,true),(1,true),(3,true),(4,true),(5,true),(6,true),(8,true),(9,true),(10,true),(11,true),(12,true),(13,true),(14,true),(15,true),(16,true),(17,true),(21,true),(2,false),(7,false),(18,false),(19,false),(20,false),(22,true),(23,false)] [23] _ B ?_
         obtain ⟨O,f,x⟩:=bind_some x
         obtain ⟨F,G,H,I,U⟩:=SliceR.subV l f
         obtain ⟨P,f,x⟩:=bind_some x
         obtain ⟨q,t,u,g,f,y⟩:=SliceR.getI l f
         obtain ⟨J,K,rfl,V⟩:=f
         obtain ⟨C,f,x⟩:=bind_some x
         obtain ⟨g,l,m,p,f,o⟩:=SliceR.getI l f
         obtain ⟨z,A,rfl,R⟩:=f
         refine c_S 17 [vI x1f, .slice F O.length G, .pointer (some q), .slice J P.length K, .pointer (some g), .slice z C.length A] [4,5,8,10,133,138,144,149,153] B W (fun _ s=>(.cell (s.bx 8 2 rfl rfl) (.prop H (.prop I (.prop t (.prop u (.cell (s.cell (y 0 _ rfl)) (.prop l (.prop m (.cell (s.cell (o 0 _ rfl)) .nil)))))))))) .nil fun f g=>?_
         refine p_box (i:=2) (d:=(some 134)) (cs:=[]) (T:=49) (v:=fun f=> .slice (some ⟨f,0,none⟩) 0 0) D g (fun b=>by kernel_rfl) fun f l m g o=>⟨fun _=>Sub.of zr (St.drop 1 g),?_⟩
         have f:=g.ownBox (T:=(Ty.slice PartT)) (E:=49) (n:=0) (xs:=[]) (i:=0) rfl rfl rfl (by decide)
         have g:=Sub.of zr (St.drop 1 f)
         obtain ⟨l,g,x⟩:=bind_some x
         refine p_append (T:=(Ty.slice PartT)) (i:=7) (j:=0) (d:=some 139) (o2:=F) (c2:=G) (ys:=O) el26 f o rfl (by kernel_rfl) (SliceR.src U f) g fun g l m o f p=>⟨fun _=>Sub.of zr (St.drop 1 f),?_⟩
         have g:=Sub.of zr (St.drop 1 f)
         obtain ⟨l,g,x⟩:=bind_some x
         refine c_call p (f59_ok fuel P C l g Y _ _ f J K V z A R) ?_
         rintro g q t ⟨G,m,o,p,rfl,f,y⟩ u
         refine ⟨fun _=>Sub.of p (St.drop 1 f),?_⟩
         have g:=Sub.of p (St.drop 1 f)
         refine p_box (i:=19) (d:=(some 151)) (cs:=[.slice m l.length o]) (T:=49) (v:=fun g=> .slice (some ⟨g,0,none⟩) 1 1) f u (fun b=>by kernel_rfl) fun g q t f u=>⟨fun _=>Sub.of p (St.drop 2 f),?_⟩
         have f:=f.ownBox (T:=(Ty.slice PartT)) (E:=49) (n:=1) (xs:=[l]) (i:=0) rfl (Rows.cons (c:=[.slice m l.length o]) (sliceRep (y)) rfl) rfl (by decide)
         have m:=Sub.of p (St.drop 2 f)
         obtain ⟨t,m,x⟩:=bind_some x
         refine p_append (T:=(Ty.slice PartT)) (i:=20) (j:=1) (d:=some 152) (o2:=(some ⟨g,0,none⟩)) (c2:=1) (ys:=([l])) el26 f u rfl (by kernel_rfl) (f.ownSrc (j:=0) rfl) m fun l m g q f o=>⟨fun _=>Sub.of p (St.drop 2 f),?_⟩
         have g:=Sub.of p (St.drop 2 f)
         refine c_S 1 [] [4,5,8,10,152,154] g o (fun _ s=>(.prop Q .nil)) .nil fun o g=>?_
         refine p_storeA (i:=23) (j:=6) (b:=b5) (ix:=x1f) (pre:=[.slice e1 X.1.length q1]) (vs:=[v3,v4,v5,v6,v7,v8,v9,a1,a2]) (post:=[]) (v:= .slice l t.length m) f g rfl (by have z7:=Q.1; have S:=Q.2; simp at S ⊢; omega) (by kernel_rfl) rfl fun g o f F=>⟨fun e=>absurd e (by decide),?_⟩
         obtain ⟨o,q,u,y,z,A,B,C,D,g⟩:=nine (vs:=[v3,v4,v5,v6,v7,v8,v9,a1,a2].set (Int.toNat x1f) (.slice l t.length m)) (by simp)
         rw [g] at f
         have l:[o,q,u,y,z,A,B,C,D][Int.toNat x1f]? =some (.slice l t.length m):=by rw [← g]; exact List.getElem?_set_self (by have z7:=Q.1; have S:=Q.2; simp at S ⊢; omega)
         have f:=f
         refine c_done ?_
         have f:=f.ownClose (j:=7) (k:=1) rfl rfl (by decide) (List.getElem?_eq_some_iff.1 (getI_spec a3).2).1
         rw [g] at f
         refine n_block (n_then ?_)
         exact ⟨G,(X.2.set (Int.toNat x1f) t),[],o,q,u,y,z,A,B,C,D,none,0,(zt a4 p),F.to,(St.drop 3 f),SliceR.nil' _ _,x⟩
        ·have x:=cond_f Z M
         refine c_skip (n_block (n_then ?_))
         exact ⟨z3,X.2,[],v3,v4,v5,v6,v7,v8,v9,a1,a2,none,0,zr,a0.to,a5,SliceR.nil' _ _,x⟩
  ·rintro g l ⟨z4,y4,y5,ac,ad,ae,af,ag,ah,ai,aj,ak,e2,q2,aa,m,f,ab,M⟩
   have f:=f.ownNew (Ty.slice PartT) 49 9
   have f:=f
   refine c_mid (fun a w=>∃a9:Zone,∃Q:List Part,∃R:List Lot,∃y3:List (List (List Part)),∃S:Option Addr,∃U:Nat,∃V:Option Addr,∃W:Nat,∃Y:Value,∃Z:Value,∃a0:Value,∃a1:Value,∃a2:Value,∃a3:Value,∃a4:Value,∃a5:Value,∃a6:Value,Zone.le z4 a9∧Fr a 162 [(4,pB b3 0),(5,pB b4 0),(6,vI 0)]∧St a9 (ownS PartT 53 S U Q::ownA (Ty.slice PartT) 49 [Y,Z,a0,a1,a2,a3,a4,a5,a6] y3::ownA (Ty.slice PartT) 49 [(N0),(N0),(N0),(N0),(N0),(N0),(N0),(N0),(N0)] ([[],[],[],[],[],[],[],[],[]])::box b8 [.slice e2 y5.length q2] 49::box b7 [.slice (some ⟨b6,0,none⟩) 1 1] 49::emp::box b5 [.slice e1 X.1.length q1,ac,ad,ae,af,ag,ah,ai,aj,ak] 29::emp::box b4 [.slice S Q.length U] 49::box b3 [.slice V R.length W,Y,Z,a0,a1,a2,a3,a4,a5,a6] 29::box b2 [vI x1k,vI x1o,vI x1f,vI x1t,vI x1m] 74::box b1 [.slice o_x0l x0l.length c_x0l,V00,V01,V02,V03,V04,V05,V06,V07,V08] 29::L) w∧SliceR LotT a9 V W R∧(F22_j2 Q R y3)=some r) ?_ ?_
   ·skip
    have O:=f.drew
    have f:=Sub.of zr (O.mask (i:=5) rfl)
    refine w_regB (by kernel_rfl) [5,7,8] (Sub z4 (ownA (Ty.slice PartT) 49 [(N0),(N0),(N0),(N0),(N0),(N0),(N0),(N0),(N0)] ([[],[],[],[],[],[],[],[],[]])::box b8 [.slice e2 y5.length q2] 49::box b7 [.slice (some ⟨b6,0,none⟩) 1 1] 49::emp::box b5 [.slice e1 X.1.length q1,ac,ad,ae,af,ag,ah,ai,aj,ak] 29::anyA::box b4 [N0] 49::box b3 [N0,(N0),(N0),(N0),(N0),(N0),(N0),(N0),(N0),(N0)] 29::box b2 [vI x1k,vI x1o,vI x1f,vI x1t,vI x1m] 74::box b1 [.slice o_x0l x0l.length c_x0l,V00,V01,V02,V03,V04,V05,V06,V07,V08] 29::L)) (by kernel_rfl) ?_
    refine k_seg' 7 [(0,true),(3,true),(4,true)] (by kernel_rfl) (by kernel_rfl) (At.start f) (by kernel_rfl) ?_
    refine c_S 3 [.slice e1 X.1.length q1,ac,ad,ae,af,ag,ah,ai,aj,ak, .slice e2 y5.length q2] [4,5,155,159] f m (fun _ s=>(.cell (s.bx 4 0 rfl rfl) (.cell (s.bx 4 1 rfl rfl) (.cell (s.bx 4 2 rfl rfl) (.cell (s.bx 4 3 rfl rfl) (.cell (s.bx 4 4 rfl rfl) (.cell (s.bx 4 5 rfl rfl) (.cell (s.bx 4 6 rfl rfl) (.cell (s.bx 4 7 rfl rfl) (.cell (s.bx 4 8 rfl rfl) (.cell (s.bx 4 9 rfl rfl) (.cell (s.bx 1 0 rfl rfl) .nil)))))))))))) .nil fun f P=>?_
    refine c_done ?_
    intro f
    refine k_any' 6 [1,2] (by kernel_rfl) f (by kernel_rfl) (by kernel_rfl) ?_
    refine (all_cons ?_ (all_cons ?_ all_nil))
    ·skip
     obtain ⟨g,o,l,m⟩:=O.ownShareN (j:=5) rfl (n:=9) rfl
     obtain ⟨y,f,x⟩:=bind_some M
     refine c_call P (f55_ok fuel X.1 y4 y f g _ _ l e1 q1 (SliceR.mono (zt (zt k3 aa) o) al) ac ad ae af ag ah ai aj ak (Ty.mono _ zr m)) ?_
     rintro f l m ⟨a7,z,A,B,C,D,F,G,H,I,J,K,t,rfl,g,a8⟩ p
     refine ⟨fun _=>Sub.of (zt o t) ((St.drop 1 g).mask (i:=5) rfl),?_⟩
     refine c_done ?_
     intro f
     have l:=Sub.of (zt o t) ((St.drop 1 g).mask (i:=5) rfl)
     refine k_seg' 0 [(2,false),(5,false),(6,true),(7,false),(8,false),(9,true)] (by kernel_rfl) (by kernel_rfl) f (by kernel_rfl) ?_
     refine p_box (i:=2) (d:=(some 157)) (cs:=[]) (T:=53) (v:=fun f=> .slice (some ⟨f,0,none⟩) 0 0) g p (fun b=>by kernel_rfl) fun f l m g p=>⟨fun _=>Sub.of (zt o t) ((St.drop 2 g).mask (i:=5) rfl),?_⟩
     have f:=g.ownBox (T:=PartT) (E:=53) (n:=0) (xs:=[]) (i:=0) rfl rfl rfl (by decide)
     have g:=Sub.of (zt o t) ((St.drop 2 f).mask (i:=5) rfl)
     obtain ⟨u,g,x⟩:=bind_some x
     refine p_append (T:=PartT) (i:=5) (j:=0) (d:=some 160) (o2:=e2) (c2:=q2) (ys:=y5) el47 f p rfl (by kernel_rfl) (SliceR.src (SliceR.mono (zt o t) ab) f) g fun p q l m f g=>⟨fun e=>absurd e (by decide),?_⟩
     refine p_qP 1 [] [(4,pB b3 0),(5,pB b4 0),(156, .agg #[.slice z y.1.length A,B,C,D,F,G,H,I,J,K]),(161, .agg #[.slice p u.length q])] [] g (by kernel_rfl) (fun _=> .nil) fun g l=>?_
     have g:=f.ownOnes (j:=1) rfl
     refine p_store_eq (i:=7) (j:=9) (b:=b3) (off:=0) (vs:=[.slice z y.1.length A,B,C,D,F,G,H,I,J,K]) (cs':=[.slice z y.1.length A,B,C,D,F,G,H,I,J,K]) f l rfl (by kernel_rfl) g rfl fun l m f g=>⟨fun e=>absurd e (by decide),?_⟩
     refine c_st 8 [.slice p u.length q] f g rfl fun g l m f=>⟨fun e=>absurd e (by decide),?_⟩
     refine p_qP 1 [] [(4,pB b3 0),(5,pB b4 0),(6,vI 0)] [] f (by kernel_rfl) (fun _=> .nil) fun f g=>?_
     refine c_done ?_
     intro f
     refine k_done' (by kernel_rfl) (by kernel_rfl) ?_
     refine n_then ?_
     exact ⟨a7,u,y.1,y.2,p,q,z,A,B,C,D,F,G,H,I,J,K,(zt o t),g.to,(St.pick 2 [0,1] m (by kernel_rfl)),a8,x⟩
    ·skip
     refine p_box (i:=2) (d:=(some 157)) (cs:=[]) (T:=53) (v:=fun f=> .slice (some ⟨f,0,none⟩) 0 0) O P (fun b=>by kernel_rfl) fun f l m g p=>⟨fun _=>Sub.of zr ((St.drop 1 g).mask (i:=5) rfl),?_⟩
     have g:=g.ownBox (T:=PartT) (E:=53) (n:=0) (xs:=[]) (i:=0) rfl rfl rfl (by decide)
     refine c_done ?_
     intro f
     have l:=Sub.of zr ((St.drop 1 g).mask (i:=5) rfl)
     refine k_seg' 0 [(1,false),(5,false),(6,true),(7,false),(8,false),(9,true)] (by kernel_rfl) (by kernel_rfl) f (by kernel_rfl) ?_
     obtain ⟨g,t,l,m⟩:=g.ownShareN (j:=6) rfl (n:=9) rfl
     obtain ⟨o,f,x⟩:=bind_some M
     refine c_call p (f55_ok fuel X.1 y4 o f g _ _ l e1 q1 (SliceR.mono (zt (zt k3 aa) t) al) ac ad ae af ag ah ai aj ak (Ty.mono _ zr m)) ?_
     rintro g l m ⟨O,u,y,z,A,B,C,D,F,G,H,I,J,rfl,f,P⟩ p
     refine ⟨fun _=>Sub.of (zt t J) ((St.drop 2 f).mask (i:=5) rfl),?_⟩
     have g:=Sub.of (zt t J) ((St.drop 2 f).mask (i:=5) rfl)
     obtain ⟨K,g,x⟩:=bind_some x
     refine p_append (T:=PartT) (i:=5) (j:=1) (d:=some 160) (o2:=e2) (c2:=q2) (ys:=y5) el47 f p rfl (by kernel_rfl) (SliceR.src (SliceR.mono (zt t J) ab) f) g fun p q l m f g=>⟨fun e=>absurd e (by decide),?_⟩
     refine p_qP 1 [] [(4,pB b3 0),(5,pB b4 0),(156, .agg #[.slice u o.1.length y,z,A,B,C,D,F,G,H,I]),(161, .agg #[.slice p K.length q])] [] g (by kernel_rfl) (fun _=> .nil) fun g l=>?_
     have g:=f.ownOnes (j:=0) rfl
     refine p_store_eq (i:=7) (j:=9) (b:=b3) (off:=0) (vs:=[.slice u o.1.length y,z,A,B,C,D,F,G,H,I]) (cs':=[.slice u o.1.length y,z,A,B,C,D,F,G,H,I]) f l rfl (by kernel_rfl) g rfl fun l m f g=>⟨fun e=>absurd e (by decide),?_⟩
     refine c_st 8 [.slice p K.length q] f g rfl fun g l m f=>⟨fun e=>absurd e (by decide),?_⟩
     refine p_qP 1 [] [(4,pB b3 0),(5,pB b4 0),(6,vI 0)] [] f (by kernel_rfl) (fun _=> .nil) fun f g=>?_
     refine c_done ?_
     intro f
     refine k_done' (by kernel_rfl) (by kernel_rfl) ?_
     refine n_then ?_
     exact ⟨O,K,o.1,o.2,p,q,u,y,z,A,B,C,D,F,G,H,I,(zt t J),g.to,(St.pick 2 [1,0] m (by kernel_rfl)),P,x⟩
   ·rintro g l ⟨a9,Q,R,y3,S,U,V,W,Y,Z,a0,a1,a2,a3,a4,a5,a6,t,p,f,u,x⟩
    refine c_ret ?_
    obtain ⟨g,l,f,q⟩:=f.share (j:=0) rfl
    obtain ⟨m,g,f,o⟩:=f.ownShareN (j:=1) rfl (n:=9) rfl
    refine c_rt [.slice V R.length W,Y,Z,a0,a1,a2,a3,a4,a5,a6, .slice S Q.length U] (.tuple #[.agg #[.slice V R.length W,Y,Z,a0,a1,a2,a3,a4,a5,a6], .agg #[.slice S Q.length U],vI 0]) p (.cell (f.bx 9 0 rfl rfl) (.cell (f.bx 9 1 rfl rfl) (.cell (f.bx 9 2 rfl rfl) (.cell (f.bx 9 3 rfl rfl) (.cell (f.bx 9 4 rfl rfl) (.cell (f.bx 9 5 rfl rfl) (.cell (f.bx 9 6 rfl rfl) (.cell (f.bx 9 7 rfl rfl) (.cell (f.bx 9 8 rfl rfl) (.cell (f.bx 9 9 rfl rfl) (.cell (f.bx 8 0 rfl rfl) .nil))))))))))) ?_
    obtain rfl:=some_eq x
    exact ⟨_,rfl,m,V,W,Y,Z,a0,a1,a2,a3,a4,a5,a6,S,U,(zt (zt (zt (zt (zt (zt k1 k2) k3) aa) t) l) g),rfl,(St.drop 12 f),(SliceR.mono (zt l g) u),(Ty.mono _ zr o),(SliceR.mono g q)⟩
def F11 (fuel:Nat) (x0:Int) (x1:Int):Option (Int) :=
  ((nz x1).bind fun _=>((nz x1).bind fun _=>(some ((Int.tmod (w64 ((Int.tmod x0 x1) + x1)) x1)))))
set_option maxRecDepth 100000 in
theorem f11_ok (fuel:Nat) (x0:Int) (x1:Int) (r:Int) (hr:F11 fuel x0 x1=some r) (h:Zone) (L:List Atom) (w:World) (hS:St h L w)  :
    Calls Tryz.prog 11 #[vI x0,vI x1] w fun e w'=>∃v,e= .returned v∧(v=vI r∧St h L w'):=by
 refine calls_intro (N:=12) Tryz.func11 (by kernel_rfl) fun a hf=>?_
 refine c_sq [] [0,1] hf .nil fun c f=>?_
 obtain ⟨c,d,b⟩:=bind_some hr
 obtain ⟨g,c,b⟩:=bind_some b
 refine c_sq [] [4] f (.prop (nz_spec d) (.prop (nz_spec c) .nil)) fun d c=>?_
 refine c_ret (c_rt [] (vI (Int.tmod (w64 ((Int.tmod x0 x1) + x1)) x1)) c .nil ?_)
 obtain rfl:=some_eq b
 exact ⟨_,rfl,rfl,hS⟩
def F35_j1 (fuel:Nat) (k1:(List Lot)→Int→Int→Option (List Lot)) (x0:List A4) (y1:List Lot) (y2:Int) (y3:Int) (y4:Bool):Option (List Lot) :=
  (cond y4 ((getI x0 y3).bind fun p1=>((F11 fuel p1.a0 3).bind fun r1=>((getI x0 y3).bind fun p2=>((getI x0 y3).bind fun p3=>((getI x0 y3).bind fun p4=>((F11 fuel p2.a1 3).bind fun r2=>((F11 fuel p3.a2 3).bind fun r3=>((F11 fuel p4.a3 10001).bind fun r4=>((appC y1 ([⟨(w64 ((w64 (y2 + (1:Int))) + r1)),(w64 ((1:Int) + r2)),(w64 ((1:Int) + r3)),r4⟩])).bind fun d1=>(k1 d1 (w64 ((w64 (y2 + (1:Int))) + r1)) (w64 (y3 + (1:Int))))))))))))) (some (y1)))
def F35_l1 (fuel:Nat) (x0:List A4):Nat→(List Lot)→Int→Int→Option (List Lot)
  | 0,_,_,_=>none
  | n1 + 1,y1,y2,y3 =>
    let k1:(List Lot)→Int→Int→Option (List Lot):=F35_l1 fuel x0 n1
    (cond (decide (y3<(x0.length:Int))) (F35_j1 fuel k1 x0 y1 y2 y3 (decide (y3<(8:Int)))) (F35_j1 fuel k1 x0 y1 y2 y3 false))
def F35 (fuel:Nat) (x0:List A4):Option (List Lot) :=
  (F35_l1 fuel x0 fuel ([]) 0 0)
set_option maxRecDepth 100000 in
theorem f35_ok (fuel:Nat) (x0:List A4) (r:List Lot) (hr:F35 fuel x0=some r) (h:Zone) (L:List Atom) (w:World) (hS:St h L w) (o_x0:Option Addr) (c_x0:Nat) (hx_x0:SliceR A4T h o_x0 c_x0 x0) :
    Calls Tryz.prog 35 #[.slice o_x0 x0.length c_x0] w fun e w'=>∃v,e= .returned v∧(∃h',∃o0:Option Addr,∃c0:Nat,Zone.le h h'∧v= .slice o0 r.length c0∧St h' L w'∧SliceR LotT h' o0 c0 r):=by
 refine calls_intro (N:=51) Tryz.func35 (by kernel_rfl) fun a hf=>?_
 refine c_sq [] [0] hf .nil fun g f=>?_
 refine c_sq [] [0,3] f .nil fun g f=>?_
 refine c_sq [] [0,3,4] f .nil fun g f=>?_
 refine c_seq (c_sq [] [0,3,4,5] f .nil fun f g=>(c_block 0 ?_))
 have f:=hS.ownNil LotT 43
 refine c_loop (fun n a w=>∃k:Zone,∃P:List Lot,∃I:Int,∃t:Int,∃R:Option Addr,∃S:Nat,Zone.le h k∧Fr a 51 [(0, .slice o_x0 x0.length c_x0),(3, .slice R P.length S),(4,vI I),(5,vI t)]∧St k (ownS LotT 43 R S P::L) w∧(F35_l1 fuel x0 n P I t)=some r) fuel ⟨h,[],0,0,none,0,zr,g.to,f,hr⟩ ?_
 rintro f g l ⟨k,P,I,t,R,S,U,o,q,B⟩
 cases f with
 | zero=>cases B
 | succ Y =>
 refine c_seq (c_mid (fun a w=>∃O:Zone,∃m:Bool,Zone.le k O∧Fr a 51 [(0, .slice o_x0 x0.length c_x0),(3, .slice R P.length S),(4,vI I),(5,vI t),(13, .bool m)]∧St O (ownS LotT 43 R S P::L) w∧(F35_j1 fuel (F35_l1 fuel x0 Y) x0 P I t m)=some r) ?_ ?_)
 ·skip
  refine c_reg (c_n 5 [] [0,3,4,5,10] o .nil fun f o=>?_)
  rcases bft (decide (t<(x0.length:Int))) with f | f
  ·have p:=cond_t f B
   have g:=o.lit 10 f
   refine c_t [] [0,3,4,5,13] g .nil fun l g=>?_
   exact ⟨k,(decide (t<(8:Int))),zr,g.to,q,p⟩
  ·have p:=cond_f f B
   have f:=o.lit 10 f
   refine c_t [] [0,3,4,5,13] f .nil fun g f=>?_
   exact ⟨k,false,zr,f.to,q,p⟩
 ·rintro f g ⟨O,m,Q,W,X,B⟩
  refine c_if m W (fun V=>?_) (fun V=>?_)
  ·have p:=cond_t V B
   refine c_skip (n_then (c_seq (c_block 1 (c_sr ?_))))
   obtain ⟨g,f,p⟩:=bind_some p
   obtain ⟨f,k,l,o,rfl,m⟩:=SliceR.getI (SliceR.mono (zt U Q) hx_x0) f
   refine c_n (oC:=[.prop (o_x0=some f), .prop (0≤t∧t<(x0.length:Nat)), .prop ((0:Int)≤0∧(0:Int)<(4:Nat)), .cell ((f.add (Int.toNat t * 4)).add 0) (vI g.a0)]) 7 [.pointer (some f),vI g.a0] [0,3,5,17,22] W (.prop k (.prop l (.prop (by decide) (.cell (X.cell (m 0 _ rfl)) .nil)))) fun f k=>?_
   obtain ⟨H,f,p⟩:=bind_some p
   refine c_call k (f11_ok fuel g.a0 3 H f O _ _ X ) ?_
   rintro g k l ⟨rfl,m⟩ f
   refine tv ?_
   refine c_t [] [0,3,4,5] f .nil fun f M=>?_
   have J:=m.drew
   have A:=Sub.of zr J
   refine c_regD [(0,true),(1,true),(2,true),(3,true),(4,true),(5,true),(6,true),(9,true),(10,true),(11,true),(12,true),(13,true),(16,true),(17,true),(18,true),(19,true),(20,true),(7,false),(8,true),(14,false),(15,true),(21,false),(22,true),(23,false),(24,false),(25,true)] [21,23,24] _ A ?_
   obtain ⟨q,f,p⟩:=bind_some p
   obtain ⟨k,D,F,f,rfl,G⟩:=SliceR.getI (SliceR.mono (zt U Q) hx_x0) f
   obtain ⟨C,f,p⟩:=bind_some p
   obtain ⟨g,u,x,f,rfl,y⟩:=SliceR.getI (SliceR.mono (zt U Q) hx_x0) f
   obtain ⟨K,f,p⟩:=bind_some p
   obtain ⟨f,l,m,z,rfl,o⟩:=SliceR.getI (SliceR.mono (zt U Q) hx_x0) f
   refine c_S (oF:=[.prop (o_x0=some k), .prop (0≤t∧t<(x0.length:Nat)), .prop ((0:Int)≤1∧(1:Int)<(4:Nat)), .cell ((k.add (Int.toNat t * 4)).add 1) (vI q.a1), .prop (o_x0=some g), .prop (0≤t∧t<(x0.length:Nat)), .prop ((0:Int)≤2∧(2:Int)<(4:Nat)), .cell ((g.add (Int.toNat t * 4)).add 2) (vI C.a2), .prop (o_x0=some f), .prop (0≤t∧t<(x0.length:Nat)), .prop ((0:Int)≤3∧(3:Int)<(4:Nat)), .cell ((f.add (Int.toNat t * 4)).add 3) (vI K.a3)]) 17 [.pointer (some k),vI q.a1, .pointer (some g),vI C.a2, .pointer (some f),vI K.a3] [0,4,5,25,26,31,38,45] A M (fun _ s=>(.prop D (.prop F (.prop (by decide) (.cell (s.cell (G 1 _ rfl)) (.prop u (.prop x (.prop (by decide) (.cell (s.cell (y 2 _ rfl)) (.prop l (.prop m (.prop (by decide) (.cell (s.cell (o 3 _ rfl)) .nil))))))))))))) .nil fun f g=>?_
   obtain ⟨u,f,p⟩:=bind_some p
   refine c_call g (f11_ok fuel q.a1 3 u f O _ _ J ) ?_
   rintro g k l ⟨rfl,f⟩ m
   refine ⟨fun _=>Sub.of zr f,?_⟩
   have g:=Sub.of zr f
   refine c_S 1 [] [0,4,5,25,26,33,38,45] g m (fun _ s=> .nil) .nil fun g k=>?_
   obtain ⟨o,g,p⟩:=bind_some p
   refine c_call k (f11_ok fuel C.a2 3 o g O _ _ f ) ?_
   rintro g k l ⟨rfl,f⟩ m
   refine ⟨fun _=>Sub.of zr f,?_⟩
   have g:=Sub.of zr f
   refine c_S 1 [] [0,4,5,25,26,33,40,45] g m (fun _ s=> .nil) .nil fun g l=>?_
   obtain ⟨g,k,p⟩:=bind_some p
   refine c_call l (f11_ok fuel K.a3 10001 g k O _ _ f ) ?_
   rintro k l m ⟨rfl,q⟩ f
   refine ⟨fun e=>absurd e (by decide),?_⟩
   refine p_qP 1 [] [(0, .slice o_x0 x0.length c_x0),(4,vI (w64 ((w64 (I + (1:Int))) + H))),(5,vI t),(25, .slice R P.length S),(47, .agg #[vI (w64 ((w64 (I + (1:Int))) + H)),vI (w64 ((1:Int) + u)),vI (w64 ((1:Int) + o)),vI g])] [] f (by kernel_rfl) (fun _=> .nil) fun f k=>?_
   refine p_box (i:=23) (d:=(some 48)) (cs:=[vI (w64 ((w64 (I + (1:Int))) + H)),vI (w64 ((1:Int) + u)),vI (w64 ((1:Int) + o)),vI g]) (T:=43) (v:=fun f=> .slice (some ⟨f,0,none⟩) 1 1) q k (fun b=>by kernel_rfl) fun f l m k q=>⟨fun e=>absurd e (by decide),?_⟩
   have k:=k.ownBox (T:=LotT) (E:=43) (n:=1) (xs:=[⟨(w64 ((w64 (I + (1:Int))) + H)),(w64 ((1:Int) + u)),(w64 ((1:Int) + o)),g⟩]) (i:=0) rfl (Rows.cons (c:=[vI (w64 ((w64 (I + (1:Int))) + H)),vI (w64 ((1:Int) + u)),vI (w64 ((1:Int) + o)),vI g]) rfl rfl) rfl (by decide)
   obtain ⟨m,l,p⟩:=bind_some p
   refine p_append (T:=LotT) (i:=24) (j:=1) (d:=some 49) (o2:=(some ⟨f,0,none⟩)) (c2:=1) (ys:=([⟨(w64 ((w64 (I + (1:Int))) + H)),(w64 ((1:Int) + u)),(w64 ((1:Int) + o)),g⟩])) el22 k q rfl (by kernel_rfl) (k.ownSrc (j:=0) rfl) l fun f g l o q k=>⟨fun e=>absurd e (by decide),?_⟩
   refine p_qP 1 [] [(0, .slice o_x0 x0.length c_x0),(3, .slice f m.length g),(4,vI (w64 ((w64 (I + (1:Int))) + H))),(5,vI t)] [] k (by kernel_rfl) (fun _=> .nil) fun l k=>?_
   refine c_done (n_block (n_then (c_q [] [0,3,4,5] k .nil fun l k=>(n_then ?_))))
   exact ⟨Y,Nat.lt_succ_self Y,O,m,(w64 ((w64 (I + (1:Int))) + H)),(w64 (t + (1:Int))),f,g,(zt U Q),k.to,(St.drop 1 q),p⟩
  ·have p:=cond_f V B
   refine c_exit 0 (x_then (x_then (x_block (n_then (c_sq [] [2] W .nil fun g f=>(c_ret ?_))))))
   obtain ⟨g,k,l,m⟩:=X.share (j:=0) rfl
   refine c_rt [] (.slice R P.length S) f .nil ?_
   obtain rfl:=some_eq p
   exact ⟨_,rfl,g,R,S,(zt (zt U Q) k),rfl,(St.drop 1 l),m⟩
def F36_j2 (fuel:Nat) (x0l:List Lot) (x0h:List (List (List Part))) (r1:Int) (y1:Int) (y2:Int) (y3:Int) (y4:Int):Option (Int×Int×Int×Int×Int×Bool) :=
  ((F54 fuel x0l x0h (w64 ((1:Int) + r1)) y1 y2 y3 y4).bind fun r2=>(some ((w64 ((1:Int) + r1)),y1,y2,y3,y4,(r2 == (0:Int)))))
def F36_j4 (fuel:Nat) (x0l:List Lot) (x0h:List (List (List Part))) (y5:Int) (r1:Int) (r3:Int) (y6:Int):Option (Int×Int×Int×Int×Int×Bool) :=
  (cond ((w64 ((1:Int) + r1)) != (6:Int)) ((getI x0h r3).bind fun p1=>((F69 fuel p1).bind fun r4=>((F11 fuel y5 (if r4 > 1 then r4 else 1)).bind fun r5=>(F36_j2 fuel x0l x0h r1 0 r3 y6 (w64 ((1:Int) + r5)))))) (F36_j2 fuel x0l x0h r1 0 r3 y6 0))
def F36_j3 (fuel:Nat) (x0l:List Lot) (x0h:List (List (List Part))) (y7:Int) (y5:Int) (r1:Int) (r3:Int) (r6:Int) (y8:Int) (y9:Bool):Option (Int×Int×Int×Int×Int×Bool) :=
  (cond y9 ((F11 fuel y7 (x0l.length:Int)).bind fun r7=>((getI x0l r7).bind fun p2=>(F36_j2 fuel x0l x0h r1 p2.id 0 r6 y8))) (cond ((w64 ((1:Int) + r1)) == (4:Int)) (F36_j4 fuel x0l x0h y5 r1 r3 r6) (F36_j4 fuel x0l x0h y5 r1 r3 0)))
def F36_j1 (fuel:Nat) (x0l:List Lot) (x0h:List (List (List Part))) (y7:Int) (y5:Int) (r1:Int) (r3:Int) (r6:Int) (y8:Int):Option (Int×Int×Int×Int×Int×Bool) :=
  (cond ((w64 ((1:Int) + r1)) == (1:Int)) (F36_j3 fuel x0l x0h y7 y5 r1 r3 r6 y8 true) (F36_j3 fuel x0l x0h y7 y5 r1 r3 r6 y8 ((w64 ((1:Int) + r1)) == (2:Int))))
def F36 (fuel:Nat) (x0l:List Lot) (x0h:List (List (List Part))) (y10:Int) (y7:Int) (y11:Int) (y12:Int) (y5:Int):Option (Int×Int×Int×Int×Int×Bool) :=
  ((F11 fuel y10 6).bind fun r1=>((F11 fuel y11 4).bind fun r3=>((F11 fuel y12 4).bind fun r6=>((F11 fuel y5 400).bind fun r8=>((F11 fuel (w64 (Int.tdiv y5 400)) 9).bind fun r9=>(cond (r9 == (0:Int)) ((F11 fuel y5 5000000).bind fun r10=>(F36_j1 fuel x0l x0h y7 y5 r1 r3 r6 (w64 ((1:Int) + r10)))) (F36_j1 fuel x0l x0h y7 y5 r1 r3 r6 (w64 ((1:Int) + r8)))))))))
set_option maxRecDepth 100000 in
theorem f36_ok (fuel:Nat) (x0l:List Lot) (x0h:List (List (List Part))) (y10:Int) (y7:Int) (y11:Int) (y12:Int) (y5:Int) (r:Int×Int×Int×Int×Int×Bool) (hr:F36 fuel x0l x0h y10 y7 y11 y12 y5=some r) (h:Zone) (L:List Atom) (w:World) (hS:St h L w) (o_x0l:Option Addr) (c_x0l:Nat) (hx_x0l:SliceR LotT h o_x0l c_x0l x0l) (V00 V01 V02 V03 V04 V05 V06 V07 V08:Value) (hx_x0h:(Ty.arr 9 (Ty.slice (Ty.slice PartT))).rep h [V00,V01,V02,V03,V04,V05,V06,V07,V08] x0h) :
    Calls Tryz.prog 36 #[.agg #[.slice o_x0l x0l.length c_x0l,V00,V01,V02,V03,V04,V05,V06,V07,V08], .agg #[vI y10,vI y7,vI y11,vI y12,vI y5]] w fun e w'=>∃v,e= .returned v∧(∃h',Zone.le h h'∧v= .tuple #[.agg #[vI r.1,vI r.2.1,vI r.2.2.1,vI r.2.2.2.1,vI r.2.2.2.2.1], .bool r.2.2.2.2.2]∧St h' L w'):=by
 refine calls_intro (N:=84) Tryz.func36 (by kernel_rfl) fun a hf=>?_
 refine c_sr (c_box [.slice o_x0l x0l.length c_x0l,V00,V01,V02,V03,V04,V05,V06,V07,V08] 29 hS hf fun G n o b c=>tv (c_box [vI y10,vI y7,vI y11,vI y12,vI y5] 91 b c fun C p q d f=>tv (c_box [vI 0,vI 0,vI 0,vI 0,vI 0] 74 d f fun P t u k g=>tv (c_t [] [2,3,4] g .nil fun x j=>(c_sr (c_n (oC:=[.prop ((0:Int)≤0∧(0:Int)<(5:Nat)), .cell ⟨C,0,none⟩ (vI y10)]) 2 [vI y10] [2,3,4,11] j (.prop (by decide) (.cell (k.bx 1 0 rfl rfl) .nil)) fun y l=>?_))))))
 obtain ⟨u,b,m⟩:=bind_some hr
 refine c_call l (f11_ok fuel y10 6 u b h _ _ k ) ?_
 rintro c d f ⟨rfl,g⟩ b
 refine tv ?_
 refine c_n 2 [] [2,3,4,14] b .nil fun c b=>?_
 refine c_box [vI 0,vI 0,vI 0,vI 0,vI 0] 74 g b fun M d f b c=>tv ?_
 refine c_st 0 [vI (w64 ((1:Int) + u)),vI 0,vI 0,vI 0,vI 0] b c rfl fun d f b c=>tv ?_
 refine c_dt (c_sr (c_n (oC:=[.prop ((0:Int)≤2∧(2:Int)<(5:Nat)), .cell ⟨C,2,none⟩ (vI y11)]) 2 [vI y11] [2,3,4,6,16] c (.prop (by decide) (.cell (b.bx 2 2 rfl rfl) .nil)) fun c d=>?_))
 obtain ⟨B,c,m⟩:=bind_some m
 refine c_call d (f11_ok fuel y11 4 B c h _ _ b ) ?_
 rintro c f g ⟨rfl,d⟩ b
 refine tv ?_
 refine c_t [] [2,3,4,6,7] b .nil fun c b=>?_
 refine c_sr (c_n (oC:=[.prop ((0:Int)≤3∧(3:Int)<(5:Nat)), .cell ⟨C,3,none⟩ (vI y12)]) 2 [vI y12] [2,3,4,6,7,19] b (.prop (by decide) (.cell (d.bx 2 3 rfl rfl) .nil)) fun b c=>?_)
 obtain ⟨D,b,m⟩:=bind_some m
 refine c_call c (f11_ok fuel y12 4 D b h _ _ d ) ?_
 rintro c f g ⟨rfl,d⟩ b
 refine tv ?_
 refine c_t [] [2,3,4,6,7,8] b .nil fun c b=>?_
 refine c_sr (c_n (oC:=[.prop ((0:Int)≤4∧(4:Int)<(5:Nat)), .cell ⟨C,4,none⟩ (vI y5)]) 2 [vI y5] [2,3,4,6,7,8,22] b (.prop (by decide) (.cell (d.bx 2 4 rfl rfl) .nil)) fun b c=>?_)
 obtain ⟨p,b,m⟩:=bind_some m
 refine c_call c (f11_ok fuel y5 400 p b h _ _ d ) ?_
 rintro c d f ⟨rfl,g⟩ b
 refine tv ?_
 refine c_t [] [2,3,4,6,7,8,9] b .nil fun b c=>?_
 refine c_mid (fun a w=>∃o:Zone,∃E:Int,Zone.le h o∧Fr a 84 [(2,pB G 0),(3,pB C 0),(4,pB P 0),(6,pB M 0),(7,vI B),(8,vI D),(9,vI E)]∧St o (box M [vI (w64 ((1:Int) + u)),vI 0,vI 0,vI 0,vI 0] 74::box P [vI 0,vI 0,vI 0,vI 0,vI 0] 74::box C [vI y10,vI y7,vI y11,vI y12,vI y5] 91::box G [.slice o_x0l x0l.length c_x0l,V00,V01,V02,V03,V04,V05,V06,V07,V08] 29::L) w∧(F36_j1 fuel x0l x0h y7 y5 u B D E)=some r) ?_ ?_
 ·skip
  refine c_sr (c_n (oC:=[.prop ((0:Int)≤4∧(4:Int)<(5:Nat)), .cell ⟨C,4,none⟩ (vI y5), .prop ((400:Int)≠0)]) 3 [vI y5] [2,3,4,6,7,8,9,27] c (.prop (by decide) (.cell (g.bx 2 4 rfl rfl) (.prop (by decide) .nil))) fun b c=>?_)
  obtain ⟨d,b,z⟩:=bind_some m
  refine c_call c (f11_ok fuel (w64 (Int.tdiv y5 400)) 9 d b h _ _ g ) ?_
  rintro c f g ⟨rfl,n⟩ b
  refine tv ?_
  refine c_t [] [2,3,4,6,7,8,9,29] b .nil fun b l=>?_
  refine c_if (d == (0:Int)) l (fun f=>?_) (fun f=>?_)
  ·have m:=cond_t f z
   refine c_reg (c_n (oC:=[.prop ((0:Int)≤4∧(4:Int)<(5:Nat)), .cell ⟨C,4,none⟩ (vI y5)]) 2 [vI y5] [2,3,4,6,7,8,31] l (.prop (by decide) (.cell (n.bx 2 4 rfl rfl) .nil)) fun b c=>?_)
   obtain ⟨d,b,m⟩:=bind_some m
   refine c_call c (f11_ok fuel y5 5000000 d b h _ _ n ) ?_
   rintro c g j ⟨rfl,k⟩ b
   refine tv ?_
   refine c_t [] [2,3,4,6,7,8,9] b .nil fun c b=>?_
   exact ⟨h,(w64 ((1:Int) + d)),zr,b.to,k,m⟩
  ·have m:=cond_f f z
   refine c_skip (n_then ?_)
   exact ⟨h,(w64 ((1:Int) + p)),zr,l.to,n,m⟩
 ·rintro b c ⟨o,E,Q,d,j,z⟩
  refine c_mid (fun a w=>∃R:Zone,∃H:Int,∃I:Int,∃J:Int,∃K:Int,Zone.le o R∧Fr a 84 [(2,pB G 0),(4,pB P 0),(6,pB M 0)]∧St R (box M [vI (w64 ((1:Int) + u)),vI H,vI I,vI J,vI K] 74::box P [vI 0,vI 0,vI 0,vI 0,vI 0] 74::box C [vI y10,vI y7,vI y11,vI y12,vI y5] 91::box G [.slice o_x0l x0l.length c_x0l,V00,V01,V02,V03,V04,V05,V06,V07,V08] 29::L) w∧(F36_j2 fuel x0l x0h u H I J K)=some r) ?_ ?_
  ·skip
   refine c_mid (fun a w=>∃x:Zone,∃f:Bool,Zone.le o x∧Fr a 84 [(2,pB G 0),(3,pB C 0),(4,pB P 0),(6,pB M 0),(7,vI B),(8,vI D),(9,vI E),(41, .bool f)]∧St x (box M [vI (w64 ((1:Int) + u)),vI 0,vI 0,vI 0,vI 0] 74::box P [vI 0,vI 0,vI 0,vI 0,vI 0] 74::box C [vI y10,vI y7,vI y11,vI y12,vI y5] 91::box G [.slice o_x0l x0l.length c_x0l,V00,V01,V02,V03,V04,V05,V06,V07,V08] 29::L) w∧(F36_j3 fuel x0l x0h y7 y5 u B D E f)=some r) ?_ ?_
   ·skip
    refine c_reg (c_n 4 [vI (w64 ((1:Int) + u))] [2,3,4,6,7,8,9,37] d (.cell (j.bx 0 0 rfl rfl) .nil) fun b g=>?_)
    rcases bft ((w64 ((1:Int) + u)) == (1:Int)) with b | b
    ·have m:=cond_t b z
     have c:=g.lit 37 b
     refine c_t [] [2,3,4,6,7,8,9,41] c .nil fun d c=>?_
     exact ⟨o,true,zr,c.to,j,m⟩
    ·have m:=cond_f b z
     have b:=g.lit 37 b
     refine c_t [vI (w64 ((1:Int) + u))] [2,3,4,6,7,8,9,41] b (.cell (j.bx 0 0 rfl rfl) .nil) fun c b=>?_
     exact ⟨o,((w64 ((1:Int) + u)) == (2:Int)),zr,b.to,j,m⟩
   ·rintro b c ⟨x,f,O,A,F,z⟩
    refine c_if f A (fun y=>?_) (fun y=>?_)
    ·have m:=cond_t y z
     refine c_seq ?_
     have f:=F.drew
     have b:=Sub.of zr f
     refine c_regD (rD 13 [7,12]) [12] _ b ?_
     refine c_S (oF:=[.cell ⟨G,0,none⟩ (.slice o_x0l x0l.length c_x0l), .prop ((0:Int)≤1∧(1:Int)<(5:Nat)), .cell ⟨C,1,none⟩ (vI y7), .cell ⟨G,0,none⟩ (.slice o_x0l x0l.length c_x0l)]) 7 [.slice o_x0l x0l.length c_x0l,vI y7, .slice o_x0l x0l.length c_x0l] [2,4,6,8,9,43,45,48] b A (fun _ s=>(.cell (s.bx 3 0 rfl rfl) (.prop (by decide) (.cell (s.bx 2 1 rfl rfl) (.cell (s.bx 3 0 rfl rfl) .nil))))) .nil fun b d=>?_
     obtain ⟨b,c,m⟩:=bind_some m
     refine c_call d (f11_ok fuel y7 (x0l.length:Int) b c x _ _ f ) ?_
     rintro b c d ⟨rfl,j⟩ n
     refine ⟨fun _=>Sub.of zr j,?_⟩
     have k:=Sub.of zr j
     obtain ⟨b,c,m⟩:=bind_some m
     obtain ⟨c,d,f,l,rfl,g⟩:=SliceR.getI (SliceR.mono (zt Q O) hx_x0l) c
     refine c_S 4 [.pointer (some c),vI b.id] [2,4,6,8,9,52,53] k n (fun _ s=>(.prop d (.prop f (.cell (s.cell (g 0 _ rfl)) .nil)))) .nil fun d c=>?_
     refine c_st 0 [vI (w64 ((1:Int) + u)),vI b.id,vI 0,vI 0,vI 0] j c rfl fun f g d c=>⟨fun e=>absurd e (by decide),?_⟩
     refine c_dt (c_sr (c_n 2 [] [2,4,6,9,54,55] c .nil fun l c=>(c_st 0 [vI (w64 ((1:Int) + u)),vI b.id,vI 0,vI D,vI 0] d c rfl fun n o d f=>tv (c_dt (c_reg (c_n 2 [] [2,4,6,56,57] f .nil fun p g=>(c_st 0 [vI (w64 ((1:Int) + u)),vI b.id,vI 0,vI D,vI E] d g rfl fun q t j k=>tv (c_dt ?_))))))))
     exact ⟨x,b.id,0,D,E,O,k.to,j,m⟩
    ·have z:=cond_f y z
     refine c_sr (c_n 2 [] [2,3,4,6,7,8,58,59] A .nil fun d b=>(c_st 0 [vI (w64 ((1:Int) + u)),vI 0,vI B,vI 0,vI 0] F b rfl fun f g j c=>tv (c_dt (c_mid (fun a w=>∃p:Zone,∃o:Int,Zone.le x p∧Fr a 84 [(2,pB G 0),(3,pB C 0),(4,pB P 0),(6,pB M 0),(7,vI B)]∧St p (box M [vI (w64 ((1:Int) + u)),vI 0,vI B,vI o,vI 0] 74::box P [vI 0,vI 0,vI 0,vI 0,vI 0] 74::box C [vI y10,vI y7,vI y11,vI y12,vI y5] 91::box G [.slice o_x0l x0l.length c_x0l,V00,V01,V02,V03,V04,V05,V06,V07,V08] 29::L) w∧(F36_j4 fuel x0l x0h y5 u B o)=some r) ?_ ?_))))
     ·skip
      refine c_sq [vI (w64 ((1:Int) + u))] [2,3,4,6,7,8,62] c (.cell (j.bx 0 0 rfl rfl) .nil) fun b g=>?_
      refine c_if ((w64 ((1:Int) + u)) == (4:Int)) g (fun c=>?_) (fun c=>?_)
      ·have m:=cond_t c z
       refine c_reg (c_n 2 [] [2,3,4,6,7,63,64] g .nil fun k b=>(c_st 0 [vI (w64 ((1:Int) + u)),vI 0,vI B,vI D,vI 0] j b rfl fun l n d f=>tv (c_dt ?_)))
       exact ⟨x,D,zr,f.to,d,m⟩
      ·have m:=cond_f c z
       refine c_skip (n_then ?_)
       exact ⟨x,0,zr,g.to,j,m⟩
     ·rintro c d ⟨p,o,t,b,x,z⟩
      refine c_sq [vI (w64 ((1:Int) + u))] [2,3,4,6,7,67] b (.cell (x.bx 0 0 rfl rfl) .nil) fun b q=>?_
      refine c_if ((w64 ((1:Int) + u)) != (6:Int)) q (fun n=>?_) (fun n=>?_)
      ·have m:=cond_t n z
       have l:=x.drew
       have j:=Sub.of zr l
       refine c_regD (rD 12 [6,8,11]) [8,11] _ j ?_
       obtain ⟨d,b,m⟩:=bind_some m
       obtain ⟨f,_,g,b,c,hehv986,k⟩:=arrGet (Ty.mono _ (zt (zt Q O) t) hx_x0h) rfl b
       obtain rfl:=List.head_eq_of_cons_eq hehv986
       refine c_S (oF:=[.prop ((0:Int)≤4∧(4:Int)<(5:Nat)), .cell ⟨C,4,none⟩ (vI y5), .prop (0≤B∧B<(9:Nat)), .cell ((⟨G,1,none⟩:Addr).add (Int.toNat B * 1)) (.slice b d.length c)]) 6 [vI y5, .slice b d.length c] [2,4,6,69,73] j q (fun _ s=>(.prop (by decide) (.cell (s.bx 2 4 rfl rfl) (.prop f (.cell ((arrAddr G 1 B.toNat) ▸ (s.box (i:=3) rfl (getElem?_app_right [.slice o_x0l x0l.length c_x0l] _ _ g []))) .nil))))) .nil fun f g=>?_
       obtain ⟨j,f,m⟩:=bind_some m
       refine c_call g (f69_ok fuel d j f p _ _ l b c k) ?_
       rintro c d f ⟨l,k,rfl,b⟩ g
       refine ⟨fun _=>Sub.of k b,?_⟩
       have c:=Sub.of k b
       refine c_S 1 [] [2,4,6,69,75] c g (fun _ s=> .nil) .nil fun c f=>?_
       obtain ⟨c,d,m⟩:=bind_some m
       refine c_call f (f11_ok fuel y5 (if j > 1 then j else 1) c d l _ _ b ) ?_
       rintro d f g ⟨rfl,j⟩ b
       refine ⟨fun e=>absurd e (by decide),?_⟩
       refine p_qP 2 [] [(2,pB G 0),(4,pB P 0),(6,pB M 0),(77,vI (w64 ((1:Int) + c))),(78,pB M 4)] [] b (by kernel_rfl) (fun _=> .nil) fun d b=>?_
       refine c_st 0 [vI (w64 ((1:Int) + u)),vI 0,vI B,vI o,vI (w64 ((1:Int) + c))] j b rfl fun f g b d=>⟨fun e=>absurd e (by decide),?_⟩
       refine c_dt ?_
       exact ⟨l,0,B,o,(w64 ((1:Int) + c)),(zt (zt O t) k),d.to,b,m⟩
      ·have m:=cond_f n z
       refine c_skip (n_then ?_)
       exact ⟨p,0,B,o,0,(zt O t),q.to,x,m⟩
  ·rintro c d ⟨R,H,I,J,K,l,f,b,m⟩
   refine c_seq ?_
   have d:=b.drew
   have b:=Sub.of zr d
   refine c_regD (rD 7 [3,5]) [5] _ b ?_
   refine c_S 3 [vI (w64 ((1:Int) + u)),vI H,vI I,vI J,vI K, .slice o_x0l x0l.length c_x0l,V00,V01,V02,V03,V04,V05,V06,V07,V08,vI (w64 ((1:Int) + u)),vI H,vI I,vI J,vI K] [4,79,80,81] b f (fun _ s=>(.cell (s.bx 0 0 rfl rfl) (.cell (s.bx 0 1 rfl rfl) (.cell (s.bx 0 2 rfl rfl) (.cell (s.bx 0 3 rfl rfl) (.cell (s.bx 0 4 rfl rfl) (.cell (s.bx 3 0 rfl rfl) (.cell (s.bx 3 1 rfl rfl) (.cell (s.bx 3 2 rfl rfl) (.cell (s.bx 3 3 rfl rfl) (.cell (s.bx 3 4 rfl rfl) (.cell (s.bx 3 5 rfl rfl) (.cell (s.bx 3 6 rfl rfl) (.cell (s.bx 3 7 rfl rfl) (.cell (s.bx 3 8 rfl rfl) (.cell (s.bx 3 9 rfl rfl) (.cell (s.bx 0 0 rfl rfl) (.cell (s.bx 0 1 rfl rfl) (.cell (s.bx 0 2 rfl rfl) (.cell (s.bx 0 3 rfl rfl) (.cell (s.bx 0 4 rfl rfl) .nil))))))))))))))))))))) .nil fun b c=>?_
   obtain ⟨f,b,m⟩:=bind_some m
   refine c_call c (f54_ok fuel x0l x0h (w64 ((1:Int) + u)) H I J K f b R _ _ d o_x0l c_x0l (SliceR.mono (zt Q l) hx_x0l) V00 V01 V02 V03 V04 V05 V06 V07 V08 (Ty.mono _ (zt Q l) hx_x0h)) ?_
   rintro c g j ⟨n,d,rfl,b⟩ k
   refine ⟨fun _=>Sub.of d b,?_⟩
   have c:=Sub.of d b
   refine c_S 1 [] [4,79,83] c k (fun _ s=> .nil) .nil fun g c=>?_
   refine c_st 1 [vI (w64 ((1:Int) + u)),vI H,vI I,vI J,vI K] b c rfl fun g j b c=>⟨fun e=>absurd e (by decide),?_⟩
   refine p_qP 1 [] [(4,pB P 0),(5, .bool (f == (0:Int)))] [] c (by kernel_rfl) (fun _=> .nil) fun g c=>?_
   refine c_dt (c_ret (c_rt [vI (w64 ((1:Int) + u)),vI H,vI I,vI J,vI K] (.tuple #[.agg #[vI (w64 ((1:Int) + u)),vI H,vI I,vI J,vI K], .bool (f == (0:Int))]) c (.cell (b.bx 1 0 rfl rfl) (.cell (b.bx 1 1 rfl rfl) (.cell (b.bx 1 2 rfl rfl) (.cell (b.bx 1 3 rfl rfl) (.cell (b.bx 1 4 rfl rfl) .nil))))) ?_))
   obtain rfl:=some_eq m
   exact ⟨_,rfl,n,(zt (zt Q l) d),rfl,(St.drop 4 b)⟩
def F10_j2 (k1:(List Deed)→(List Lot)→(List (List (List Part)))→Int→Option (List Lot×List Deed)) (y1:Int) (y2:List Deed) (y3:List Lot) (y4:List (List (List Part))):Option (List Lot×List Deed) :=
  (k1 y2 y3 y4 (w64 (y1 + (1:Int))))
def F10_j3 (fuel:Nat) (k1:(List Deed)→(List Lot)→(List (List (List Part)))→Int→Option (List Lot×List Deed)) (y5:List Deed) (y6:List Lot) (y7:List (List (List Part))) (y1:Int) (y8:Bool) (y9:Int) (y10:Int) (y11:Int) (y12:Int) (y13:Int):Option (List Lot×List Deed) :=
  (cond y8 ((F22 fuel y6 y7 y9 y10 y11 y12 y13).bind fun r1=>((appC y5 ([⟨y9,y10,y11,y12,y13⟩])).bind fun d1=>(F10_j2 k1 y1 d1 r1.1 r1.2.1))) (F10_j2 k1 y1 y5 y6 y7))
def F10_j1 (fuel:Nat) (k1:(List Deed)→(List Lot)→(List (List (List Part)))→Int→Option (List Lot×List Deed)) (x1:List A5) (r2:List Lot) (y5:List Deed) (y6:List Lot) (y7:List (List (List Part))) (y1:Int) (y14:Bool):Option (List Lot×List Deed) :=
  (cond y14 ((getI x1 y1).bind fun p1=>((F36 fuel y6 y7 p1.a0 p1.a1 p1.a2 p1.a3 p1.a4).bind fun r3=>(F10_j3 fuel k1 y5 y6 y7 y1 r3.2.2.2.2.2 r3.1 r3.2.1 r3.2.2.1 r3.2.2.2.1 r3.2.2.2.2.1))) (some (r2,y5)))
def F10_l1 (fuel:Nat) (x1:List A5) (r2:List Lot):Nat→(List Deed)→(List Lot)→(List (List (List Part)))→Int→Option (List Lot×List Deed)
  | 0,_,_,_,_=>none
  | n1 + 1,y5,y6,y7,y1 =>
    let k1:(List Deed)→(List Lot)→(List (List (List Part)))→Int→Option (List Lot×List Deed):=F10_l1 fuel x1 r2 n1
    (cond (decide (y1<(x1.length:Int))) (cond (decide (y1<(24:Int))) (F10_j1 fuel k1 x1 r2 y5 y6 y7 y1 (decide ((r2.length:Int) > (0:Int)))) (F10_j1 fuel k1 x1 r2 y5 y6 y7 y1 false)) (F10_j1 fuel k1 x1 r2 y5 y6 y7 y1 false))
def F10 (fuel:Nat) (x0:List A4) (x1:List A5):Option (List Lot×List Deed) :=
  ((F35 fuel x0).bind fun r2=>(F10_l1 fuel x1 r2 fuel ([]) r2 ([[],[],[],[],[],[],[],[],[]]) 0))
set_option maxRecDepth 100000 in
theorem f10_ok (fuel:Nat) (x0:List A4) (x1:List A5) (r:List Lot×List Deed) (hr:F10 fuel x0 x1=some r) (h:Zone) (L:List Atom) (w:World) (hS:St h L w) (o_x0:Option Addr) (c_x0:Nat) (hx_x0:SliceR A4T h o_x0 c_x0 x0) (o_x1:Option Addr) (c_x1:Nat) (hx_x1:SliceR A5T h o_x1 c_x1 x1) :
    Calls Tryz.prog 10 #[.slice o_x0 x0.length c_x0, .slice o_x1 x1.length c_x1] w fun e w'=>∃v,e= .returned v∧(∃h',∃o0:Option Addr,∃c0:Nat,∃o1:Option Addr,∃c1:Nat,Zone.le h h'∧v= .tuple #[.slice o0 r.1.length c0, .slice o1 r.2.length c1]∧St h' L w'∧SliceR LotT h' o0 c0 r.1∧SliceR DeedT h' o1 c1 r.2):=by
 refine calls_intro (N:=54) Tryz.func10 (by kernel_rfl) fun a hf=>?_
 refine c_sq [] [0,1] hf .nil fun g f=>?_
 refine c_sr (c_n 1 [] [1,12] f .nil fun f g=>?_)
 obtain ⟨Z,f,q⟩:=bind_some hr
 refine c_call g (f35_ok fuel x0 Z f h _ _ hS o_x0 c_x0 hx_x0) ?_
 rintro g k l ⟨t,e1,q1,k2,rfl,m,ag⟩ f
 refine tv ?_
 refine c_t [] [1,6] f .nil fun g f=>?_
 refine c_sr (c_n 2 [] [1,6,15] f .nil fun u f=>(c_box [N0,N0,N0,N0,N0,N0,N0,N0,N0,N0] 29 m f fun b1 x y g k=>tv (c_st 0 [.slice e1 Z.length q1,N0,N0,N0,N0,N0,N0,N0,N0,N0] g k rfl fun z A o l=>tv (c_dt (c_sq [] [1,6,7,8] l .nil fun B m=>(c_seq (c_sq [] [1,6,7,8,9] m .nil fun C p=>(c_block 0 ?_))))))))
 have f:=o.ownNil DeedT 74
 refine c_loop (fun n a w=>∃k:Zone,∃Y:List Deed,∃y6:List Lot,∃y7:List (List (List Part)),∃y1:Int,∃e2:Option Addr,∃q2:Nat,∃e3:Option Addr,∃q3:Nat,∃v2:Value,∃v3:Value,∃v4:Value,∃v5:Value,∃v6:Value,∃v7:Value,∃v8:Value,∃v9:Value,∃a1:Value,Zone.le t k∧Fr a 54 [(1, .slice o_x1 x1.length c_x1),(6, .slice e1 Z.length q1),(7,pB b1 0),(8, .slice e2 Y.length q2),(9,vI y1)]∧St k (ownS DeedT 74 e2 q2 Y::box b1 [.slice e3 y6.length q3,v2,v3,v4,v5,v6,v7,v8,v9,a1] 29::L) w∧SliceR LotT k e3 q3 y6∧(Ty.arr 9 (Ty.slice (Ty.slice PartT))).rep k [v2,v3,v4,v5,v6,v7,v8,v9,a1] y7∧(F10_l1 fuel x1 Z n Y y6 y7 y1)=some r) fuel ⟨t,[],Z,[[],[],[],[],[],[],[],[],[]],0,none,0,e1,q1,(N0),(N0),(N0),(N0),(N0),(N0),(N0),(N0),(N0),zr,p.to,f,ag,⟨rfl,(Rows.cons (c:=[_]) (sliceRep (SliceR.nil' _ _)) (Rows.cons (c:=[_]) (sliceRep (SliceR.nil' _ _)) (Rows.cons (c:=[_]) (sliceRep (SliceR.nil' _ _)) (Rows.cons (c:=[_]) (sliceRep (SliceR.nil' _ _)) (Rows.cons (c:=[_]) (sliceRep (SliceR.nil' _ _)) (Rows.cons (c:=[_]) (sliceRep (SliceR.nil' _ _)) (Rows.cons (c:=[_]) (sliceRep (SliceR.nil' _ _)) (Rows.cons (c:=[_]) (sliceRep (SliceR.nil' _ _)) (Rows.cons (c:=[_]) (sliceRep (SliceR.nil' _ _)) rfl)))))))))⟩,q⟩ ?_
 rintro f g l ⟨k,Y,y6,y7,y1,e2,q2,e3,q3,v2,v3,v4,v5,v6,v7,v8,v9,a1,k3,m,u,ab,ac,Q⟩
 cases f with
 | zero=>cases Q
 | succ n1 =>
 refine c_seq (c_mid (fun a w=>∃x:Zone,∃p:Bool,Zone.le k x∧Fr a 54 [(1, .slice o_x1 x1.length c_x1),(6, .slice e1 Z.length q1),(7,pB b1 0),(8, .slice e2 Y.length q2),(9,vI y1),(28, .bool p)]∧St x (ownS DeedT 74 e2 q2 Y::box b1 [.slice e3 y6.length q3,v2,v3,v4,v5,v6,v7,v8,v9,a1] 29::L) w∧(F10_j1 fuel (F10_l1 fuel x1 Z n1) x1 Z Y y6 y7 y1 p)=some r) ?_ ?_)
 ·skip
  refine c_reg (c_n 5 [] [1,6,7,8,9,20] m .nil fun f t=>?_)
  rcases bft (decide (y1<(x1.length:Int))) with l | l
  ·have M:=cond_t l Q
   have f:=t.lit 20 l
   refine c_n 4 [] [1,6,7,8,9,24] f .nil fun f o=>?_
   rcases bft (decide (y1<(24:Int))) with f | f
   ·have q:=cond_t f M
    have g:=o.lit 24 f
    refine c_t [] [1,6,7,8,9,28] g .nil fun m g=>?_
    exact ⟨k,(decide ((Z.length:Int) > (0:Int))),zr,g.to,u,q⟩
   ·have q:=cond_f f M
    have f:=o.lit 24 f
    refine c_t [] [1,6,7,8,9,28] f .nil fun g f=>?_
    exact ⟨k,false,zr,f.to,u,q⟩
  ·have q:=cond_f l Q
   have f:=t.lit 20 l
   refine c_t [] [1,6,7,8,9,28] f .nil fun g f=>?_
   exact ⟨k,false,zr,f.to,u,q⟩
 ·rintro f g ⟨x,p,k4,ae,af,Q⟩
  refine c_if p ae (fun ad=>?_) (fun ad=>?_)
  ·have q:=cond_t ad Q
   refine c_skip (n_then (c_mid (fun a w=>∃z4:Zone,∃y2:List Deed,∃y3:List Lot,∃y4:List (List (List Part)),∃e4:Option Addr,∃q4:Nat,∃e5:Option Addr,∃q5:Nat,∃a2:Value,∃a3:Value,∃a4:Value,∃a5:Value,∃a6:Value,∃a7:Value,∃a8:Value,∃a9:Value,∃aa:Value,Zone.le x z4∧Fr a 54 [(1, .slice o_x1 x1.length c_x1),(6, .slice e1 Z.length q1),(7,pB b1 0),(8, .slice e4 y2.length q4),(9,vI y1)]∧St z4 (ownS DeedT 74 e4 q4 y2::box b1 [.slice e5 y3.length q5,a2,a3,a4,a5,a6,a7,a8,a9,aa] 29::L) w∧SliceR LotT z4 e5 q5 y3∧(Ty.arr 9 (Ty.slice (Ty.slice PartT))).rep z4 [a2,a3,a4,a5,a6,a7,a8,a9,aa] y4∧(F10_j2 (F10_l1 fuel x1 Z n1) y1 y2 y3 y4)=some r) ?_ ?_))
   ·skip
    refine c_block 1 (c_mid (fun a w=>∃z5:Zone,∃A:Bool,∃S:Int,∃U:Int,∃V:Int,∃W:Int,∃X:Int,∃B:Nat,Zone.le x z5∧Fr a 54 [(1, .slice o_x1 x1.length c_x1),(6, .slice e1 Z.length q1),(7,pB b1 0),(8, .slice e2 Y.length q2),(9,vI y1),(10,pB B 0),(11, .bool A)]∧St z5 (box B [vI S,vI U,vI V,vI W,vI X] 74::ownS DeedT 74 e2 q2 Y::box b1 [.slice e3 y6.length q3,v2,v3,v4,v5,v6,v7,v8,v9,a1] 29::L) w∧(F10_j3 fuel (F10_l1 fuel x1 Z n1) Y y6 y7 y1 A S U V W X)=some r) ?_ ?_)
    ·skip
     have u:=af.drew
     have o:=Sub.of zr u
     refine w_regB (by kernel_rfl) [5,10] (Sub x (ownS DeedT 74 e2 q2 Y::box b1 [.slice e3 y6.length q3,v2,v3,v4,v5,v6,v7,v8,v9,a1] 29::L)) (by kernel_rfl) ?_
     refine k_seg' 7 [(0,true),(1,true),(2,true),(3,true),(4,true)] (by kernel_rfl) (by kernel_rfl) (At.start o) (by kernel_rfl) ?_
     obtain ⟨m,f,M⟩:=bind_some q
     obtain ⟨g,k,l,p,rfl,f⟩:=SliceR.getI (SliceR.mono (zt (zt k2 k3) k4) hx_x1) f
     refine c_S 5 [.slice e3 y6.length q3,v2,v3,v4,v5,v6,v7,v8,v9,a1, .pointer (some g),vI m.a0,vI m.a1,vI m.a2,vI m.a3,vI m.a4] [1,6,7,8,9,32,36] o ae (fun _ s=>(.cell (s.bx 1 0 rfl rfl) (.cell (s.bx 1 1 rfl rfl) (.cell (s.bx 1 2 rfl rfl) (.cell (s.bx 1 3 rfl rfl) (.cell (s.bx 1 4 rfl rfl) (.cell (s.bx 1 5 rfl rfl) (.cell (s.bx 1 6 rfl rfl) (.cell (s.bx 1 7 rfl rfl) (.cell (s.bx 1 8 rfl rfl) (.cell (s.bx 1 9 rfl rfl) (.prop k (.prop l (.cell (s.cell (f 0 _ rfl)) (.cell (s.cell (f 1 _ rfl)) (.cell (s.cell (f 2 _ rfl)) (.cell (s.cell (f 3 _ rfl)) (.cell (s.cell (f 4 _ rfl)) .nil)))))))))))))))))) .nil fun f z=>?_
     refine c_done ?_
     intro f
     refine k_any' 6 [5,9] (by kernel_rfl) f (by kernel_rfl) (by kernel_rfl) ?_
     refine (all_cons ?_ (all_cons ?_ all_nil))
     ·skip
      obtain ⟨f,g,q⟩:=bind_some M
      refine c_call z (f36_ok fuel y6 y7 m.a0 m.a1 m.a2 m.a3 m.a4 f g x _ _ u e3 q3 (SliceR.mono k4 ab) v2 v3 v4 v5 v6 v7 v8 v9 a1 (Ty.mono _ k4 ac)) ?_
      rintro g k l ⟨y,t,rfl,p⟩ o
      refine ⟨fun e=>absurd e (by decide),?_⟩
      refine c_done ?_
      intro g
      refine k_seg' 0 [(6,true),(7,true),(8,true),(9,false),(10,false),(11,true)] (by kernel_rfl) (by kernel_rfl) g (by kernel_rfl) ?_
      refine p_qP 3 [] [(1, .slice o_x1 x1.length c_x1),(6, .slice e1 Z.length q1),(7,pB b1 0),(8, .slice e2 Y.length q2),(9,vI y1),(38, .agg #[vI f.1,vI f.2.1,vI f.2.2.1,vI f.2.2.2.1,vI f.2.2.2.2.1]),(39, .bool f.2.2.2.2.2)] [] o (by kernel_rfl) (fun _=> .nil) fun k g=>?_
      refine c_box [vI 0,vI 0,vI 0,vI 0,vI 0] 74 p g fun p l o g k=>⟨fun _=>Sub.of t (St.drop 1 g),?_⟩
      have l:=Sub.of t (St.drop 1 g)
      refine c_st 0 [vI f.1,vI f.2.1,vI f.2.2.1,vI f.2.2.2.1,vI f.2.2.2.2.1] g k rfl fun k l o g=>⟨fun e=>absurd e (by decide),?_⟩
      refine p_qP 1 [] [(1, .slice o_x1 x1.length c_x1),(6, .slice e1 Z.length q1),(7,pB b1 0),(8, .slice e2 Y.length q2),(9,vI y1),(10,pB p 0),(11, .bool f.2.2.2.2.2)] [] g (by kernel_rfl) (fun _=> .nil) fun g k=>?_
      refine c_done ?_
      intro g
      refine k_done' (by kernel_rfl) (by kernel_rfl) ?_
      refine n_then ?_
      exact ⟨y,f.2.2.2.2.2,f.1,f.2.1,f.2.2.1,f.2.2.2.1,f.2.2.2.2.1,p,t,k.to,(St.pick 1 [0] o (by kernel_rfl)),q⟩
     ·skip
      refine c_box [vI 0,vI 0,vI 0,vI 0,vI 0] 74 u z fun p f g k l=>⟨fun _=>Sub.of zr (St.drop 1 k),?_⟩
      refine c_done ?_
      intro f
      have g:=Sub.of zr (St.drop 1 k)
      refine k_seg' 0 [(5,false),(6,true),(7,true),(8,true),(10,false),(11,true)] (by kernel_rfl) (by kernel_rfl) f (by kernel_rfl) ?_
      obtain ⟨f,g,q⟩:=bind_some M
      refine c_call l (f36_ok fuel y6 y7 m.a0 m.a1 m.a2 m.a3 m.a4 f g x _ _ k e3 q3 (SliceR.mono k4 ab) v2 v3 v4 v5 v6 v7 v8 v9 a1 (Ty.mono _ k4 ac)) ?_
      rintro k l m ⟨t,u,rfl,o⟩ g
      refine ⟨fun e=>absurd e (by decide),?_⟩
      refine p_qP 3 [] [(1, .slice o_x1 x1.length c_x1),(6, .slice e1 Z.length q1),(7,pB b1 0),(8, .slice e2 Y.length q2),(9,vI y1),(10,pB p 0),(38, .agg #[vI f.1,vI f.2.1,vI f.2.2.1,vI f.2.2.2.1,vI f.2.2.2.2.1]),(39, .bool f.2.2.2.2.2)] [] g (by kernel_rfl) (fun _=> .nil) fun k g=>?_
      refine c_st 0 [vI f.1,vI f.2.1,vI f.2.2.1,vI f.2.2.2.1,vI f.2.2.2.2.1] o g rfl fun k l m g=>⟨fun e=>absurd e (by decide),?_⟩
      refine p_qP 1 [] [(1, .slice o_x1 x1.length c_x1),(6, .slice e1 Z.length q1),(7,pB b1 0),(8, .slice e2 Y.length q2),(9,vI y1),(10,pB p 0),(11, .bool f.2.2.2.2.2)] [] g (by kernel_rfl) (fun _=> .nil) fun g k=>?_
      refine c_done ?_
      intro g
      refine k_done' (by kernel_rfl) (by kernel_rfl) ?_
      refine n_then ?_
      exact ⟨t,f.2.2.2.2.2,f.1,f.2.1,f.2.2.1,f.2.2.2.1,f.2.2.2.2.1,p,u,k.to,(St.pick 1 [0] m (by kernel_rfl)),q⟩
    ·rintro k l ⟨z5,A,S,U,V,W,X,B,x,f,g,M⟩
     refine c_sq [] [1,6,7,8,9,10,40] f .nil fun f R=>?_
     refine c_if A R (fun P=>?_) (fun P=>?_)
     ·have q:=cond_t P M
      refine c_sr (c_n 2 [.slice e3 y6.length q3,v2,v3,v4,v5,v6,v7,v8,v9,a1,vI S,vI U,vI V,vI W,vI X] [1,6,7,8,9,10,42,43] R (.cell (g.bx 2 0 rfl rfl) (.cell (g.bx 2 1 rfl rfl) (.cell (g.bx 2 2 rfl rfl) (.cell (g.bx 2 3 rfl rfl) (.cell (g.bx 2 4 rfl rfl) (.cell (g.bx 2 5 rfl rfl) (.cell (g.bx 2 6 rfl rfl) (.cell (g.bx 2 7 rfl rfl) (.cell (g.bx 2 8 rfl rfl) (.cell (g.bx 2 9 rfl rfl) (.cell (g.bx 0 0 rfl rfl) (.cell (g.bx 0 1 rfl rfl) (.cell (g.bx 0 2 rfl rfl) (.cell (g.bx 0 3 rfl rfl) (.cell (g.bx 0 4 rfl rfl) .nil))))))))))))))) fun f k=>?_)
      obtain ⟨m,f,q⟩:=bind_some q
      refine c_call k (f22_ok fuel y6 y7 S U V W X m f z5 _ _ g e3 q3 (SliceR.mono (zt k4 x) ab) v2 v3 v4 v5 v6 v7 v8 v9 a1 (Ty.mono _ (zt k4 x) ac)) ?_
      rintro k l o ⟨z8,y,z,A,B,C,D,F,G,H,I,J,p,t,k8,rfl,K,a0,O,u⟩ f
      refine tv ?_
      refine c_n 4 [] [1,6,7,8,9,10,45] f .nil fun f k=>?_
      have f:=oneCells_of (Ty.one _ (Ty.mono _ zr O))
      refine p_store_eq (i:=7) (j:=2) (b:=b1) (off:=0) (vs:=[.slice y m.1.length z,A,B,C,D,F,G,H,I,J]) (cs':=[.slice y m.1.length z,A,B,C,D,F,G,H,I,J]) K k rfl (by kernel_rfl) f rfl fun l o f k=>tv ?_
      refine c_dt (c_reg (c_n 2 [vI S,vI U,vI V,vI W,vI X] [1,6,7,9,48,49] k (.cell (f.bx 0 0 rfl rfl) (.cell (f.bx 0 1 rfl rfl) (.cell (f.bx 0 2 rfl rfl) (.cell (f.bx 0 3 rfl rfl) (.cell (f.bx 0 4 rfl rfl) .nil))))) fun o k=>(p_box (i:=2) (d:=(some 50)) (cs:=[vI S,vI U,vI V,vI W,vI X]) (T:=74) (v:=fun l=> .slice (some ⟨l,0,none⟩) 1 1) f k (fun b=>by kernel_rfl) fun l p t f u=>tv ?_)))
      have f:=f.ownBox (T:=DeedT) (E:=74) (n:=1) (xs:=[⟨S,U,V,W,X⟩]) (i:=0) rfl (Rows.cons (c:=[vI S,vI U,vI V,vI W,vI X]) rfl rfl) rfl (by decide)
      obtain ⟨K,k,q⟩:=bind_some q
      refine p_append (T:=DeedT) (i:=3) (j:=2) (d:=some 51) (o2:=(some ⟨l,0,none⟩)) (c2:=1) (ys:=([⟨S,U,V,W,X⟩])) el23 f u rfl (by kernel_rfl) (f.ownSrc (j:=0) rfl) k fun k l o p t f=>tv ?_
      refine c_z [] [1,6,7,8,9] f .nil fun o f=>?_
      refine n_block (n_then ?_)
      exact ⟨z8,K,m.1,m.2.1,k,l,y,z,A,B,C,D,F,G,H,I,J,(zt x k8),f.to,(St.drop 2 t),a0,(Ty.mono _ zr O),q⟩
     ·have q:=cond_f P M
      refine c_skip (n_block (n_then ?_))
      exact ⟨z5,Y,y6,y7,e2,q2,e3,q3,v2,v3,v4,v5,v6,v7,v8,v9,a1,x,R.to,(St.drop 1 g),(SliceR.mono (zt k4 x) ab),(Ty.mono _ (zt k4 x) ac),q⟩
   ·rintro g k ⟨z4,y2,y3,y4,e4,q4,e5,q5,a2,a3,a4,a5,a6,a7,a8,a9,aa,l,f,m,o,p,q⟩
    refine c_q [] [1,6,7,8,9] f .nil fun g f=>?_
    refine n_then ?_
    exact ⟨n1,Nat.lt_succ_self n1,z4,y2,y3,y4,(w64 (y1 + (1:Int))),e4,q4,e5,q5,a2,a3,a4,a5,a6,a7,a8,a9,aa,(zt (zt k3 k4) l),f.to,m,o,(Ty.mono _ zr p),q⟩
  ·have q:=cond_f ad Q
   refine c_exit 0 (x_then (x_then (x_block (n_then (c_sq [] [4,5] ae .nil fun f g=>(c_ret ?_))))))
   obtain ⟨k,f,l,m⟩:=af.share (j:=0) rfl
   refine c_rt [] (.tuple #[.slice e1 Z.length q1, .slice e2 Y.length q2]) g .nil ?_
   obtain rfl:=some_eq q
   exact ⟨_,rfl,k,e1,q1,e2,q2,(zt (zt (zt k2 k3) k4) f),rfl,(St.drop 2 l),(SliceR.mono (zt (zt k3 k4) f) ag),m⟩
def F24_j1 (k1:(List Int)→Pl→Int→Option (List Lot×List (List (List Part))×List Int×Int)) (y1:Int) (y2:List Int) (y3:Pl):Option (List Lot×List (List (List Part))×List Int×Int) :=
  (k1 y2 y3 (w64 (y1 + (1:Int))))
def F24_l1 (fuel:Nat) (x1:List Deed) (x2:Int):Nat→(List Int)→Pl→Int→Option (List Lot×List (List (List Part))×List Int×Int)
  | 0,_,_,_=>none
  | n1 + 1,y4,y5,y1 =>
    let k1:(List Int)→Pl→Int→Option (List Lot×List (List (List Part))×List Int×Int):=F24_l1 fuel x1 x2 n1
    (cond (decide (y1<(x1.length:Int))) ((getI x1 y1).bind fun p1=>(cond (y1 == x2) (F24_j1 k1 y1 y4 y5) ((F51 fuel y5 p1.kind p1.lot p1.frm p1.to p1.mass).bind fun r1=>(cond (r1.2.2.1 != (0:Int)) ((appC y4 ([y1])).bind fun d1=>(F24_j1 k1 y1 d1 r1.2.2.2)) (F24_j1 k1 y1 y4 r1.2.2.2))))) ((F20 fuel y5.lots y5.holds).bind fun r2=>(some (r2.1,r2.2,y4,0))))
def F24 (fuel:Nat) (x0:List Lot) (x1:List Deed) (x2:Int):Option (List Lot×List (List (List Part))×List Int×Int) :=
  ((F49 fuel x0 x1).bind fun r3=>(cond (r3 != (0:Int)) (some ([],[[],[],[],[],[],[],[],[],[]],[],r3)) ((F48 fuel x2 0 (w64 ((x1.length:Int) - (1:Int)))).bind fun r4=>(cond (!r4) (some ([],[[],[],[],[],[],[],[],[],[]],[],1)) ((F50 fuel x0 ([[],[],[],[],[],[],[],[],[]])).bind fun r5=>(F24_l1 fuel x1 x2 fuel ([]) r5 0))))))
set_option maxRecDepth 100000 in
theorem f24_ok (fuel:Nat) (x0:List Lot) (x1:List Deed) (x2:Int) (r:List Lot×List (List (List Part))×List Int×Int) (hr:F24 fuel x0 x1 x2=some r) (h:Zone) (L:List Atom) (w:World) (hS:St h L w) (o_x0:Option Addr) (c_x0:Nat) (hx_x0:SliceR LotT h o_x0 c_x0 x0) (o_x1:Option Addr) (c_x1:Nat) (hx_x1:SliceR DeedT h o_x1 c_x1 x1) :
    Calls Tryz.prog 24 #[.slice o_x0 x0.length c_x0, .slice o_x1 x1.length c_x1,vI x2] w fun e w'=>∃v,e= .returned v∧(∃h',∃o0:Option Addr,∃c0:Nat,∃v1_0:Value,∃v1_1:Value,∃v1_2:Value,∃v1_3:Value,∃v1_4:Value,∃v1_5:Value,∃v1_6:Value,∃v1_7:Value,∃v1_8:Value,∃o2:Option Addr,∃c2:Nat,Zone.le h h'∧v= .tuple #[.agg #[.slice o0 r.1.length c0,v1_0,v1_1,v1_2,v1_3,v1_4,v1_5,v1_6,v1_7,v1_8], .slice o2 r.2.2.1.length c2,vI r.2.2.2]∧St h' L w'∧SliceR LotT h' o0 c0 r.1∧(Ty.arr 9 (Ty.slice (Ty.slice PartT))).rep h' [v1_0,v1_1,v1_2,v1_3,v1_4,v1_5,v1_6,v1_7,v1_8] r.2.1∧SliceR Ty.int h' o2 c2 r.2.2.1):=by
 refine calls_intro (N:=62) Tryz.func24 (by kernel_rfl) fun a hf=>?_
 refine c_sr (c_box [N0,N0,N0,N0,N0,N0,N0,N0,N0,N0] 29 hS hf fun V m o k f=>tv (c_t [] [0,1,2,6] f .nil fun p g=>(c_seq (c_sr (c_n 2 [] [0,1,2,6,16,17] g .nil fun q l=>?_)))))
 obtain ⟨p,f,K⟩:=bind_some hr
 refine c_call l (f49_ok fuel x0 x1 p f h _ _ k o_x0 c_x0 hx_x0 o_x1 c_x1 hx_x1) ?_
 rintro g k l ⟨x,W,rfl,y⟩ f
 refine tv ?_
 refine c_t [] [0,1,2,6,9] f .nil fun g f=>?_
 refine c_sq [] [0,1,2,6,9,20] f .nil fun f o=>?_
 refine c_if (p != (0:Int)) o (fun m=>?_) (fun m=>?_)
 ·have B:=cond_t m K
  refine c_sr (c_n 2 [] [6,21,22] o .nil fun q g=>(c_st 0 [N0,N0,N0,N0,N0,N0,N0,N0,N0,N0] y g rfl fun s t f k=>tv (c_t [] [6,7,8] k .nil fun u l=>(c_ret (r_then (c_rt [N0,N0,N0,N0,N0,N0,N0,N0,N0,N0] (.tuple #[.agg #[N0,N0,N0,N0,N0,N0,N0,N0,N0,N0],N0,vI p]) l (.cell (f.bx 0 0 rfl rfl) (.cell (f.bx 0 1 rfl rfl) (.cell (f.bx 0 2 rfl rfl) (.cell (f.bx 0 3 rfl rfl) (.cell (f.bx 0 4 rfl rfl) (.cell (f.bx 0 5 rfl rfl) (.cell (f.bx 0 6 rfl rfl) (.cell (f.bx 0 7 rfl rfl) (.cell (f.bx 0 8 rfl rfl) (.cell (f.bx 0 9 rfl rfl) .nil)))))))))) ?_))))))
  obtain rfl:=some_eq B
  exact ⟨_,rfl,x,none,0,N0,N0,N0,N0,N0,N0,N0,N0,N0,none,0,W,rfl,(St.drop 1 f),SliceR.nil' _ _,⟨rfl,(Rows.cons (c:=[_]) (sliceRep (SliceR.nil' _ _)) (Rows.cons (c:=[_]) (sliceRep (SliceR.nil' _ _)) (Rows.cons (c:=[_]) (sliceRep (SliceR.nil' _ _)) (Rows.cons (c:=[_]) (sliceRep (SliceR.nil' _ _)) (Rows.cons (c:=[_]) (sliceRep (SliceR.nil' _ _)) (Rows.cons (c:=[_]) (sliceRep (SliceR.nil' _ _)) (Rows.cons (c:=[_]) (sliceRep (SliceR.nil' _ _)) (Rows.cons (c:=[_]) (sliceRep (SliceR.nil' _ _)) (Rows.cons (c:=[_]) (sliceRep (SliceR.nil' _ _)) rfl)))))))))⟩,SliceR.nil' _ _⟩
 ·have B:=cond_f m K
  refine c_skip (n_then (c_seq (c_sr (c_n 4 [] [0,1,2,6,23,26] o .nil fun f g=>?_))))
  obtain ⟨k,f,K⟩:=bind_some B
  refine c_call g (f48_ok fuel x2 0 (w64 ((x1.length:Int) - (1:Int))) k f x _ _ y ) ?_
  rintro g l m ⟨u,Y,rfl,x⟩ f
  refine tv ?_
  refine c_t [] [0,1,2,6,28] f .nil fun f o=>?_
  refine c_if (!k) o (fun m=>?_) (fun m=>?_)
  ·have B:=cond_t m K
   refine c_sr (c_n 1 [] [6,29] o .nil fun p g=>(c_st 0 [N0,N0,N0,N0,N0,N0,N0,N0,N0,N0] x g rfl fun q s f k=>tv (c_t [] [6,7,8] k .nil fun t l=>(c_ret (r_then (c_rt [N0,N0,N0,N0,N0,N0,N0,N0,N0,N0] (.tuple #[.agg #[N0,N0,N0,N0,N0,N0,N0,N0,N0,N0],N0,vI 1]) l (.cell (f.bx 0 0 rfl rfl) (.cell (f.bx 0 1 rfl rfl) (.cell (f.bx 0 2 rfl rfl) (.cell (f.bx 0 3 rfl rfl) (.cell (f.bx 0 4 rfl rfl) (.cell (f.bx 0 5 rfl rfl) (.cell (f.bx 0 6 rfl rfl) (.cell (f.bx 0 7 rfl rfl) (.cell (f.bx 0 8 rfl rfl) (.cell (f.bx 0 9 rfl rfl) .nil)))))))))) ?_))))))
   obtain rfl:=some_eq B
   exact ⟨_,rfl,u,none,0,N0,N0,N0,N0,N0,N0,N0,N0,N0,none,0,(zt W Y),rfl,(St.drop 1 f),SliceR.nil' _ _,⟨rfl,(Rows.cons (c:=[_]) (sliceRep (SliceR.nil' _ _)) (Rows.cons (c:=[_]) (sliceRep (SliceR.nil' _ _)) (Rows.cons (c:=[_]) (sliceRep (SliceR.nil' _ _)) (Rows.cons (c:=[_]) (sliceRep (SliceR.nil' _ _)) (Rows.cons (c:=[_]) (sliceRep (SliceR.nil' _ _)) (Rows.cons (c:=[_]) (sliceRep (SliceR.nil' _ _)) (Rows.cons (c:=[_]) (sliceRep (SliceR.nil' _ _)) (Rows.cons (c:=[_]) (sliceRep (SliceR.nil' _ _)) (Rows.cons (c:=[_]) (sliceRep (SliceR.nil' _ _)) rfl)))))))))⟩,SliceR.nil' _ _⟩
  ·have B:=cond_f m K
   refine c_skip (n_then (c_sr (c_n 2 [] [1,2,6,31] o .nil fun f g=>?_)))
   obtain ⟨o,f,B⟩:=bind_some B
   refine c_call g (f50_ok fuel x0 ([[],[],[],[],[],[],[],[],[]]) o f u _ _ x o_x0 c_x0 (SliceR.mono (zt W Y) hx_x0) (N0) (N0) (N0) (N0) (N0) (N0) (N0) (N0) (N0) ⟨rfl,(Rows.cons (c:=[_]) (sliceRep (SliceR.nil' _ _)) (Rows.cons (c:=[_]) (sliceRep (SliceR.nil' _ _)) (Rows.cons (c:=[_]) (sliceRep (SliceR.nil' _ _)) (Rows.cons (c:=[_]) (sliceRep (SliceR.nil' _ _)) (Rows.cons (c:=[_]) (sliceRep (SliceR.nil' _ _)) (Rows.cons (c:=[_]) (sliceRep (SliceR.nil' _ _)) (Rows.cons (c:=[_]) (sliceRep (SliceR.nil' _ _)) (Rows.cons (c:=[_]) (sliceRep (SliceR.nil' _ _)) (Rows.cons (c:=[_]) (sliceRep (SliceR.nil' _ _)) rfl)))))))))⟩) ?_
   rintro g k l ⟨m,q,Z,rfl,p⟩ f
   refine tv ?_
   refine c_t [] [1,2,6,10] f .nil fun g f=>?_
   refine c_sq [] [1,2,6,10,11] f .nil fun g f=>?_
   refine c_seq (c_sq [] [2,6,10,11,33,34,35] f .nil fun f g=>(c_block 0 ?_))
   have f:=p.ownNil Ty.int 3
   refine c_loop (fun n a w=>∃p:Zone,∃O:List Int,∃M:Pl,∃u:Int,∃P:Option Addr,∃Q:Nat,Zone.le m p∧Fr a 62 [(2,vI x2),(6,pB V 0),(10,pB q 0),(11, .slice P O.length Q),(33, .slice o_x1 x1.length c_x1),(34,vI (x1.length:Int)),(35,vI u)]∧St p (ownS Ty.int 3 P Q O::plA 69 49 101 q M::box V [N0,N0,N0,N0,N0,N0,N0,N0,N0,N0] 29::L) w∧(F24_l1 fuel x1 x2 n O M u)=some r) fuel ⟨m,[],o,0,none,0,zr,g.to,f,B⟩ ?_
   rintro f g k ⟨p,O,M,u,P,Q,X,l,z,U⟩
   cases f with
   | zero=>cases U
   | succ R =>
   refine c_sq [] [2,6,10,11,33,34,35,36] l .nil fun f S=>?_
   refine c_seq (c_if (decide (u<(x1.length:Int))) S (fun J=>?_) (fun J=>?_))
   ·have B:=cond_t J U
    refine c_skip (n_then (c_mid (fun a w=>∃F:Zone,∃A:List Int,∃G:Pl,∃H:Option Addr,∃I:Nat,Zone.le p F∧Fr a 62 [(2,vI x2),(6,pB V 0),(10,pB q 0),(11, .slice H A.length I),(33, .slice o_x1 x1.length c_x1),(34,vI (x1.length:Int)),(35,vI u)]∧St F (ownS Ty.int 3 H I A::plA 69 49 101 q G::box V [N0,N0,N0,N0,N0,N0,N0,N0,N0,N0] 29::L) w∧(F24_j1 (F24_l1 fuel x1 x2 R) u A G)=some r) ?_ ?_))
    ·skip
     refine c_block 1 (c_sr ?_)
     obtain ⟨g,f,K⟩:=bind_some B
     obtain ⟨k,l,m,o,rfl,f⟩:=SliceR.getI (SliceR.mono (zt (zt (zt W Y) Z) X) hx_x1) f
     refine c_n 3 [.pointer (some k),vI g.kind,vI g.lot,vI g.frm,vI g.to,vI g.mass] [2,6,10,11,33,34,35,37,39] S (.prop l (.prop m (.cell (z.cell (f 0 _ rfl)) (.cell (z.cell (f 1 _ rfl)) (.cell (z.cell (f 2 _ rfl)) (.cell (z.cell (f 3 _ rfl)) (.cell (z.cell (f 4 _ rfl)) .nil))))))) fun k f=>?_
     refine c_box [vI 0,vI 0,vI 0,vI 0,vI 0] 74 z f fun l m o k f=>tv ?_
     refine c_n 1 [] [2,6,10,11,12,13,33,34,35,39] f .nil fun l f=>?_
     refine c_st 0 [vI g.kind,vI g.lot,vI g.frm,vI g.to,vI g.mass] k f rfl fun l m f k=>tv ?_
     refine c_dt (c_seq (c_sq [] [2,6,10,11,12,13,33,34,35,42] k .nil fun m l=>(c_if (u == x2) l (fun k=>?_) (fun k=>?_))))
     ·have B:=cond_t k K
      refine c_exit 1 (x_then (x_block (n_then ?_)))
      exact ⟨p,O,M,P,Q,zr,l.to,(St.drop 1 f),B⟩
     ·have B:=cond_f k K
      refine c_skip (n_then (c_sr (c_n 2 [vI g.kind,vI g.lot,vI g.frm,vI g.to,vI g.mass] [2,6,10,11,12,33,34,35,44,45] l (.cell (f.bx 0 0 rfl rfl) (.cell (f.bx 0 1 rfl rfl) (.cell (f.bx 0 2 rfl rfl) (.cell (f.bx 0 3 rfl rfl) (.cell (f.bx 0 4 rfl rfl) .nil))))) fun k l=>?_)))
      have f:=St.swapTo (i:=3) (j:=0) (St.addEmp f) rfl rfl (by decide)
      have k:=f
      obtain ⟨x,f,K⟩:=bind_some B
      refine c_call l (f51_ok fuel M g.kind g.lot g.frm g.to g.mass x f p _ _ q k ) ?_
      rintro g k l ⟨C,q,s,t,D,rfl,f,m,o⟩ p
      have f:=St.swapTo (i:=0) (j:=3) f rfl rfl (by decide)
      have g:=f
      refine tv ?_
      refine c_n 3 [] [2,6,10,11,12,33,34,35,47,48] p .nil fun k f=>?_
      refine c_box [N0, .map none] 103 g f fun k l m f g=>tv ?_
      refine c_st 0 [.slice q x.1.length s, .map t] f g rfl fun g k y f=>tv ?_
      refine c_t [] [2,6,10,11,12,15,33,34,35] f .nil fun g f=>?_
      refine c_sq [] [2,6,10,11,12,33,34,35,50] f .nil fun f t=>?_
      refine c_if (x.2.2.1 != (0:Int)) t (fun l=>?_) (fun l=>?_)
      ·have B:=cond_t l K
       refine c_reg (c_n 2 [] [2,6,10,33,34,35,51,52] t .nil fun m f=>(p_box (i:=2) (d:=(some 53)) (cs:=[vI u]) (T:=3) (v:=fun g=> .slice (some ⟨g,0,none⟩) 1 1) y f (fun b=>by kernel_rfl) fun g o p k q=>tv ?_))
       have f:=k.ownBox (T:=Ty.int) (E:=3) (n:=1) (xs:=[u]) (i:=0) rfl (Rows.cons (c:=[vI u]) rfl rfl) rfl (by decide)
       obtain ⟨s,k,B⟩:=bind_some B
       refine p_append (T:=Ty.int) (i:=3) (j:=4) (d:=some 54) (o2:=(some ⟨g,0,none⟩)) (c2:=1) (ys:=([u])) el76 f q rfl (by kernel_rfl) (f.ownSrc (j:=0) rfl) k fun g k m o p f=>tv ?_
       refine c_z [] [2,6,10,11,33,34,35] f .nil fun m f=>?_
       refine n_block (n_then ?_)
       exact ⟨C,s,x.2.2.2,g,k,D,f.to,(St.drop 4 p),B⟩
      ·have B:=cond_f l K
       refine c_skip (n_block (n_then ?_))
       exact ⟨C,O,x.2.2.2,P,Q,D,t.to,(St.drop 3 y),B⟩
    ·rintro g k ⟨F,A,G,H,I,l,f,m,B⟩
     refine c_q [] [2,6,10,11,33,34,35] f .nil fun g f=>?_
     refine n_then ?_
     exact ⟨R,Nat.lt_succ_self R,F,A,G,(w64 (u + (1:Int))),H,I,(zt X l),f.to,m,B⟩
   ·have B:=cond_f J U
    refine c_exit 0 (x_then (x_then (x_block (n_then ?_))))
    obtain ⟨g,k,l,m,o,p,q,s,t,u,x,y,z,A,C,D,F,G,H,I,J,f⟩:=z.plOpen (i:=1) rfl
    refine c_sr (c_n 4 [.slice g M.lots.length k,l,m,o,p,q,s,t,u,x] [6,11,59] S (.cell (f.bx 3 0 rfl rfl) (.cell (f.bx 3 1 rfl rfl) (.cell (f.bx 3 2 rfl rfl) (.cell (f.bx 3 3 rfl rfl) (.cell (f.bx 3 4 rfl rfl) (.cell (f.bx 3 5 rfl rfl) (.cell (f.bx 3 6 rfl rfl) (.cell (f.bx 3 7 rfl rfl) (.cell (f.bx 3 8 rfl rfl) (.cell (f.bx 3 9 rfl rfl) .nil)))))))))) fun y D=>?_)
    obtain ⟨z,H,A,C⟩:=f.ownShareN (j:=0) rfl (n:=9) rfl
    obtain ⟨y,f,B⟩:=bind_some B
    refine c_call D (f20_ok fuel M.lots M.holds y f z _ _ A g k (SliceR.mono H J) l m o p q s t u x (Ty.mono _ zr C)) ?_
    rintro A C D ⟨F,k,l,m,o,p,q,s,t,u,x,z,I,rfl,g,J⟩ f
    refine tv ?_
    refine c_n 1 [] [6,60,61] f .nil fun f A=>?_
    have f:=g.ownOnes (j:=0) rfl
    refine p_store_eq (i:=6) (j:=5) (b:=V) (off:=0) (vs:=[.slice k y.1.length l,m,o,p,q,s,t,u,x,z]) (cs':=[.slice k y.1.length l,m,o,p,q,s,t,u,x,z]) g A rfl (by kernel_rfl) f rfl fun g A C f=>tv ?_
    refine c_t [] [6,7,8] f .nil fun f F=>?_
    refine c_ret ?_
    obtain ⟨g,A,f,G⟩:=C.share (j:=3) rfl
    obtain ⟨C,g,f,D⟩:=f.ownShareN (j:=0) rfl (n:=9) rfl
    refine c_rt [.slice k y.1.length l,m,o,p,q,s,t,u,x,z] (.tuple #[.agg #[.slice k y.1.length l,m,o,p,q,s,t,u,x,z], .slice P O.length Q,vI 0]) F (.cell (f.bx 5 0 rfl rfl) (.cell (f.bx 5 1 rfl rfl) (.cell (f.bx 5 2 rfl rfl) (.cell (f.bx 5 3 rfl rfl) (.cell (f.bx 5 4 rfl rfl) (.cell (f.bx 5 5 rfl rfl) (.cell (f.bx 5 6 rfl rfl) (.cell (f.bx 5 7 rfl rfl) (.cell (f.bx 5 8 rfl rfl) (.cell (f.bx 5 9 rfl rfl) .nil)))))))))) ?_
    obtain rfl:=some_eq B
    exact ⟨_,rfl,C,k,l,m,o,p,q,s,t,u,x,z,P,Q,(zt (zt (zt (zt (zt (zt (zt W Y) Z) X) H) I) A) g),rfl,(St.drop 6 f),(SliceR.mono (zt A g) J),(Ty.mono _ zr D),(SliceR.mono g G)⟩
end Go.Proofs.YtlmgjjmighajdaaGreat
set_option linter.unusedVariables false
namespace Go.Proofs.YtlmgjjmighajdaaGreat
open Go.Sl Go.Sx
def F25_j1 (k1:(List Int)→(List Lot)→(List (List (List Part)))→Int→Option (List Lot×List (List (List Part))×List Int×Int)) (y1:Int) (y2:List Int) (y3:List Lot) (y4:List (List (List Part))):Option (List Lot×List (List (List Part))×List Int×Int) :=
  (k1 y2 y3 y4 (w64 (y1 + (1:Int))))
def F25_j2 (k1:(List Int)→(List Lot)→(List (List (List Part)))→Int→Option (List Lot×List (List (List Part))×List Int×Int)) (y5:List Int) (y6:List Lot) (y7:List (List (List Part))) (y1:Int) (y8:Int) (y9:List Lot) (y10:List (List (List Part))):Option (List Lot×List (List (List Part))×List Int×Int) :=
  (cond (y8 != (0:Int)) ((appC y5 ([y1])).bind fun d1=>(F25_j1 k1 y1 d1 y6 y7)) (F25_j1 k1 y1 y5 y9 y10))
def F25_l1 (fuel:Nat) (x1:List Deed) (x2:Int):Nat→(List Int)→(List Lot)→(List (List (List Part)))→Int→Option (List Lot×List (List (List Part))×List Int×Int)
  | 0,_,_,_,_=>none
  | n1 + 1,y5,y6,y7,y1 =>
    let k1:(List Int)→(List Lot)→(List (List (List Part)))→Int→Option (List Lot×List (List (List Part))×List Int×Int):=F25_l1 fuel x1 x2 n1
    (cond (decide (y1<(x1.length:Int))) (cond (y1 == x2) (F25_j1 k1 y1 y5 y6 y7) ((getI x1 y1).bind fun p1=>((F22 fuel y6 y7 p1.kind p1.lot p1.frm p1.to p1.mass).bind fun r1=>(F25_j2 k1 y5 y6 y7 y1 r1.2.2.2 r1.1 r1.2.1)))) (some (y6,y7,y5,0)))
def F25 (fuel:Nat) (x0:List Lot) (x1:List Deed) (x2:Int):Option (List Lot×List (List (List Part))×List Int×Int) :=
  ((F21 fuel x0).bind fun r2=>(cond (r2 != (0:Int)) (some ([],[[],[],[],[],[],[],[],[],[]],[],60)) (cond (decide ((x1.length:Int) > (60:Int))) (some ([],[[],[],[],[],[],[],[],[],[]],[],2)) ((F60 fuel x2 0 (w64 ((x1.length:Int) - (1:Int)))).bind fun r3=>(cond (!r3) (some ([],[[],[],[],[],[],[],[],[],[]],[],1)) ((appC ([]) x0).bind fun d2=>(F25_l1 fuel x1 x2 fuel ([]) d2 ([[],[],[],[],[],[],[],[],[]]) 0)))))))
set_option maxRecDepth 100000 in
theorem f25_ok (fuel:Nat) (x0:List Lot) (x1:List Deed) (x2:Int) (r:List Lot×List (List (List Part))×List Int×Int) (hr:F25 fuel x0 x1 x2=some r) (h:Zone) (L:List Atom) (w:World) (hS:St h L w) (o_x0:Option Addr) (c_x0:Nat) (hx_x0:SliceR LotT h o_x0 c_x0 x0) (o_x1:Option Addr) (c_x1:Nat) (hx_x1:SliceR DeedT h o_x1 c_x1 x1) :
    Calls Tryz.prog 25 #[.slice o_x0 x0.length c_x0, .slice o_x1 x1.length c_x1,vI x2] w fun e w'=>∃v,e= .returned v∧(∃h',∃o0:Option Addr,∃c0:Nat,∃v1_0:Value,∃v1_1:Value,∃v1_2:Value,∃v1_3:Value,∃v1_4:Value,∃v1_5:Value,∃v1_6:Value,∃v1_7:Value,∃v1_8:Value,∃o2:Option Addr,∃c2:Nat,Zone.le h h'∧v= .tuple #[.agg #[.slice o0 r.1.length c0,v1_0,v1_1,v1_2,v1_3,v1_4,v1_5,v1_6,v1_7,v1_8], .slice o2 r.2.2.1.length c2,vI r.2.2.2]∧St h' L w'∧SliceR LotT h' o0 c0 r.1∧(Ty.arr 9 (Ty.slice (Ty.slice PartT))).rep h' [v1_0,v1_1,v1_2,v1_3,v1_4,v1_5,v1_6,v1_7,v1_8] r.2.1∧SliceR Ty.int h' o2 c2 r.2.2.1):=by
 refine calls_intro (N:=62) Tryz.func25 (by kernel_rfl) fun a hf=>?_
 refine c_sr (c_box [N0,N0,N0,N0,N0,N0,N0,N0,N0,N0] 29 hS hf fun b1 m o k f=>tv (c_t [] [0,1,2,6] f .nil fun q g=>(c_seq (c_sr (c_n 1 [] [0,1,2,6,15] g .nil fun t l=>?_)))))
 obtain ⟨g,f,F⟩:=bind_some hr
 refine c_call l (f21_ok fuel x0 g f h _ _ k o_x0 c_x0 hx_x0) ?_
 rintro k l m ⟨y,k2,rfl,z⟩ f
 refine tv ?_
 refine c_t [] [0,1,2,6,17] f .nil fun f o=>?_
 refine c_if (g != (0:Int)) o (fun m=>?_) (fun m=>?_)
 ·have p:=cond_t m F
  refine c_sr (c_n 1 [] [6,18] o .nil fun q g=>(c_st 0 [N0,N0,N0,N0,N0,N0,N0,N0,N0,N0] z g rfl fun t u f k=>tv (c_t [] [6,7,8] k .nil fun x l=>(c_ret (r_then (c_rt [N0,N0,N0,N0,N0,N0,N0,N0,N0,N0] (.tuple #[.agg #[N0,N0,N0,N0,N0,N0,N0,N0,N0,N0],N0,vI 60]) l (.cell (f.bx 0 0 rfl rfl) (.cell (f.bx 0 1 rfl rfl) (.cell (f.bx 0 2 rfl rfl) (.cell (f.bx 0 3 rfl rfl) (.cell (f.bx 0 4 rfl rfl) (.cell (f.bx 0 5 rfl rfl) (.cell (f.bx 0 6 rfl rfl) (.cell (f.bx 0 7 rfl rfl) (.cell (f.bx 0 8 rfl rfl) (.cell (f.bx 0 9 rfl rfl) .nil)))))))))) ?_))))))
  obtain rfl:=some_eq p
  exact ⟨_,rfl,y,none,0,N0,N0,N0,N0,N0,N0,N0,N0,N0,none,0,k2,rfl,(St.drop 1 f),SliceR.nil' _ _,⟨rfl,(Rows.cons (c:=[_]) (sliceRep (SliceR.nil' _ _)) (Rows.cons (c:=[_]) (sliceRep (SliceR.nil' _ _)) (Rows.cons (c:=[_]) (sliceRep (SliceR.nil' _ _)) (Rows.cons (c:=[_]) (sliceRep (SliceR.nil' _ _)) (Rows.cons (c:=[_]) (sliceRep (SliceR.nil' _ _)) (Rows.cons (c:=[_]) (sliceRep (SliceR.nil' _ _)) (Rows.cons (c:=[_]) (sliceRep (SliceR.nil' _ _)) (Rows.cons (c:=[_]) (sliceRep (SliceR.nil' _ _)) (Rows.cons (c:=[_]) (sliceRep (SliceR.nil' _ _)) rfl)))))))))⟩,SliceR.nil' _ _⟩
 ·have F:=cond_f m F
  refine c_skip (n_then (c_seq (c_sq [] [0,1,2,6,21] o .nil fun f o=>(c_if (decide ((x1.length:Int) > (60:Int))) o (fun m=>?_) (fun m=>?_)))))
  ·have p:=cond_t m F
   refine c_sr (c_n 1 [] [6,22] o .nil fun q g=>(c_st 0 [N0,N0,N0,N0,N0,N0,N0,N0,N0,N0] z g rfl fun t u f k=>tv (c_t [] [6,7,8] k .nil fun x l=>(c_ret (r_then (c_rt [N0,N0,N0,N0,N0,N0,N0,N0,N0,N0] (.tuple #[.agg #[N0,N0,N0,N0,N0,N0,N0,N0,N0,N0],N0,vI 2]) l (.cell (f.bx 0 0 rfl rfl) (.cell (f.bx 0 1 rfl rfl) (.cell (f.bx 0 2 rfl rfl) (.cell (f.bx 0 3 rfl rfl) (.cell (f.bx 0 4 rfl rfl) (.cell (f.bx 0 5 rfl rfl) (.cell (f.bx 0 6 rfl rfl) (.cell (f.bx 0 7 rfl rfl) (.cell (f.bx 0 8 rfl rfl) (.cell (f.bx 0 9 rfl rfl) .nil)))))))))) ?_))))))
   obtain rfl:=some_eq p
   exact ⟨_,rfl,y,none,0,N0,N0,N0,N0,N0,N0,N0,N0,N0,none,0,k2,rfl,(St.drop 1 f),SliceR.nil' _ _,⟨rfl,(Rows.cons (c:=[_]) (sliceRep (SliceR.nil' _ _)) (Rows.cons (c:=[_]) (sliceRep (SliceR.nil' _ _)) (Rows.cons (c:=[_]) (sliceRep (SliceR.nil' _ _)) (Rows.cons (c:=[_]) (sliceRep (SliceR.nil' _ _)) (Rows.cons (c:=[_]) (sliceRep (SliceR.nil' _ _)) (Rows.cons (c:=[_]) (sliceRep (SliceR.nil' _ _)) (Rows.cons (c:=[_]) (sliceRep (SliceR.nil' _ _)) (Rows.cons (c:=[_]) (sliceRep (SliceR.nil' _ _)) (Rows.cons (c:=[_]) (sliceRep (SliceR.nil' _ _)) rfl)))))))))⟩,SliceR.nil' _ _⟩
  ·have p:=cond_f m F
   refine c_skip (n_then (c_seq (c_sr (c_n 4 [] [0,1,2,6,23,26] o .nil fun f g=>?_))))
   obtain ⟨k,f,F⟩:=bind_some p
   refine c_call g (f60_ok fuel x2 0 (w64 ((x1.length:Int) - (1:Int))) k f y _ _ z ) ?_
   rintro g l m ⟨z,k3,rfl,y⟩ f
   refine tv ?_
   refine c_t [] [0,1,2,6,28] f .nil fun f o=>?_
   refine c_if (!k) o (fun m=>?_) (fun m=>?_)
   ·have p:=cond_t m F
    refine c_sr (c_n 1 [] [6,29] o .nil fun q g=>(c_st 0 [N0,N0,N0,N0,N0,N0,N0,N0,N0,N0] y g rfl fun t u f k=>tv (c_t [] [6,7,8] k .nil fun x l=>(c_ret (r_then (c_rt [N0,N0,N0,N0,N0,N0,N0,N0,N0,N0] (.tuple #[.agg #[N0,N0,N0,N0,N0,N0,N0,N0,N0,N0],N0,vI 1]) l (.cell (f.bx 0 0 rfl rfl) (.cell (f.bx 0 1 rfl rfl) (.cell (f.bx 0 2 rfl rfl) (.cell (f.bx 0 3 rfl rfl) (.cell (f.bx 0 4 rfl rfl) (.cell (f.bx 0 5 rfl rfl) (.cell (f.bx 0 6 rfl rfl) (.cell (f.bx 0 7 rfl rfl) (.cell (f.bx 0 8 rfl rfl) (.cell (f.bx 0 9 rfl rfl) .nil)))))))))) ?_))))))
    obtain rfl:=some_eq p
    exact ⟨_,rfl,z,none,0,N0,N0,N0,N0,N0,N0,N0,N0,N0,none,0,(zt k2 k3),rfl,(St.drop 1 f),SliceR.nil' _ _,⟨rfl,(Rows.cons (c:=[_]) (sliceRep (SliceR.nil' _ _)) (Rows.cons (c:=[_]) (sliceRep (SliceR.nil' _ _)) (Rows.cons (c:=[_]) (sliceRep (SliceR.nil' _ _)) (Rows.cons (c:=[_]) (sliceRep (SliceR.nil' _ _)) (Rows.cons (c:=[_]) (sliceRep (SliceR.nil' _ _)) (Rows.cons (c:=[_]) (sliceRep (SliceR.nil' _ _)) (Rows.cons (c:=[_]) (sliceRep (SliceR.nil' _ _)) (Rows.cons (c:=[_]) (sliceRep (SliceR.nil' _ _)) (Rows.cons (c:=[_]) (sliceRep (SliceR.nil' _ _)) rfl)))))))))⟩,SliceR.nil' _ _⟩
   ·have p:=cond_f m F
    refine c_skip (n_then (c_sr (p_box (i:=0) (d:=(some 30)) (cs:=[]) (T:=43) (v:=fun f=> .slice (some ⟨f,0,none⟩) 0 0) y o (fun b=>by kernel_rfl) fun f l m g k=>tv ?_)))
    have f:=g.ownBox (T:=LotT) (E:=43) (n:=0) (xs:=[]) (i:=0) rfl rfl rfl (by decide)
    refine c_n 1 [] [1,2,6,30,31] k .nil fun g k=>?_
    obtain ⟨t,g,p⟩:=bind_some p
    refine p_append (T:=LotT) (i:=2) (j:=0) (d:=some 32) (o2:=o_x0) (c2:=c_x0) (ys:=x0) el22 f k rfl (by kernel_rfl) (SliceR.src (SliceR.mono (zt k2 k3) hx_x0) f) g fun o q k l g f=>tv ?_
    refine c_n 1 [] [1,2,6,33] f .nil fun k f=>?_
    refine c_box [N0,N0,N0,N0,N0,N0,N0,N0,N0,N0] 29 g f fun Z k l f g=>tv ?_
    refine c_st 0 [.slice o t.length q,N0,N0,N0,N0,N0,N0,N0,N0,N0] f g rfl fun k l g f=>tv ?_
    refine c_dt (c_sq [] [1,2,6,9,10] f .nil fun k f=>(c_seq (c_sq [] [1,2,6,9,10,11] f .nil fun l m=>(c_block 0 ?_))))
    obtain ⟨f,k4,g,k⟩:=g.share (j:=1) rfl
    have g:=g.ownNil Ty.int 3
    refine c_loop (fun n a w=>∃z4:Zone,∃V:List Int,∃Y:List Lot,∃y7:List (List (List Part)),∃U:Int,∃W:Option Addr,∃X:Nat,∃e3:Option Addr,∃q3:Nat,∃v3:Value,∃v4:Value,∃v5:Value,∃v6:Value,∃v7:Value,∃v8:Value,∃v9:Value,∃a0:Value,∃a1:Value,Zone.le f z4∧Fr a 62 [(1, .slice o_x1 x1.length c_x1),(2,vI x2),(6,pB b1 0),(9,pB Z 0),(10, .slice W V.length X),(11,vI U)]∧St z4 (ownS Ty.int 3 W X V::box Z [.slice e3 Y.length q3,v3,v4,v5,v6,v7,v8,v9,a0,a1] 29::emp::box b1 [N0,N0,N0,N0,N0,N0,N0,N0,N0,N0] 29::L) w∧SliceR LotT z4 e3 q3 Y∧(Ty.arr 9 (Ty.slice (Ty.slice PartT))).rep z4 [v3,v4,v5,v6,v7,v8,v9,a0,a1] y7∧(F25_l1 fuel x1 x2 n V Y y7 U)=some r) fuel ⟨f,[],t,[[],[],[],[],[],[],[],[],[]],0,none,0,o,q,(N0),(N0),(N0),(N0),(N0),(N0),(N0),(N0),(N0),zr,m.to,g,k,⟨rfl,(Rows.cons (c:=[_]) (sliceRep (SliceR.nil' _ _)) (Rows.cons (c:=[_]) (sliceRep (SliceR.nil' _ _)) (Rows.cons (c:=[_]) (sliceRep (SliceR.nil' _ _)) (Rows.cons (c:=[_]) (sliceRep (SliceR.nil' _ _)) (Rows.cons (c:=[_]) (sliceRep (SliceR.nil' _ _)) (Rows.cons (c:=[_]) (sliceRep (SliceR.nil' _ _)) (Rows.cons (c:=[_]) (sliceRep (SliceR.nil' _ _)) (Rows.cons (c:=[_]) (sliceRep (SliceR.nil' _ _)) (Rows.cons (c:=[_]) (sliceRep (SliceR.nil' _ _)) rfl)))))))))⟩,p⟩ ?_
    rintro f g k ⟨z4,V,Y,y7,U,W,X,e3,q3,v3,v4,v5,v6,v7,v8,v9,a0,a1,k5,l,a3,af,a4,av⟩
    cases f with
    | zero=>cases av
    | succ n1 =>
    refine c_seq (c_sq [] [1,2,6,9,10,11,37] l .nil fun f au=>(c_if (decide (U<(x1.length:Int))) au (fun ar=>?_) (fun ar=>?_)))
    ·have F:=cond_t ar av
     refine c_skip (n_then (c_mid (fun a w=>∃z5:Zone,∃y2:List Int,∃y3:List Lot,∃y4:List (List (List Part)),∃e4:Option Addr,∃q4:Nat,∃e5:Option Addr,∃q5:Nat,∃ai:Value,∃aj:Value,∃ak:Value,∃al:Value,∃am:Value,∃an:Value,∃ao:Value,∃ap:Value,∃aq:Value,Zone.le z4 z5∧Fr a 62 [(1, .slice o_x1 x1.length c_x1),(2,vI x2),(6,pB b1 0),(9,pB Z 0),(10, .slice e4 y2.length q4),(11,vI U)]∧St z5 (ownS Ty.int 3 e4 q4 y2::box Z [.slice e5 y3.length q5,ai,aj,ak,al,am,an,ao,ap,aq] 29::emp::box b1 [N0,N0,N0,N0,N0,N0,N0,N0,N0,N0] 29::L) w∧SliceR LotT z5 e5 q5 y3∧(Ty.arr 9 (Ty.slice (Ty.slice PartT))).rep z5 [ai,aj,ak,al,am,an,ao,ap,aq] y4∧(F25_j1 (F25_l1 fuel x1 x2 n1) U y2 y3 y4)=some r) ?_ ?_))
     ·skip
      refine c_block 1 (c_seq (c_sq [] [1,2,6,9,10,11,42] au .nil fun g q=>(c_if (U == x2) q (fun f=>?_) (fun f=>?_))))
      ·have p:=cond_t f F
       refine c_exit 1 (x_then (x_block (n_then ?_)))
       exact ⟨z4,V,Y,y7,W,X,e3,q3,v3,v4,v5,v6,v7,v8,v9,a0,a1,zr,q.to,a3,af,(Ty.mono _ zr a4),p⟩
      ·have p:=cond_f f F
       refine c_skip (n_then (c_mid (fun a w=>∃z6:Zone,∃y8:Int,∃y9:List Lot,∃ah:List (List (List Part)),∃b4:Nat,∃e6:Option Addr,∃q6:Nat,∃a6:Value,∃a7:Value,∃a8:Value,∃a9:Value,∃aa:Value,∃ab:Value,∃ac:Value,∃ad:Value,∃ae:Value,Zone.le z4 z6∧Fr a 62 [(1, .slice o_x1 x1.length c_x1),(2,vI x2),(6,pB b1 0),(9,pB Z 0),(10, .slice W V.length X),(11,vI U),(12,pB b4 0),(14,vI y8)]∧St z6 (box b4 [.slice e6 y9.length q6,a6,a7,a8,a9,aa,ab,ac,ad,ae] 29::ownS Ty.int 3 W X V::box Z [.slice e3 Y.length q3,v3,v4,v5,v6,v7,v8,v9,a0,a1] 29::emp::box b1 [N0,N0,N0,N0,N0,N0,N0,N0,N0,N0] 29::L) w∧SliceR LotT z6 e6 q6 y9∧(Ty.arr 9 (Ty.slice (Ty.slice PartT))).rep z6 [a6,a7,a8,a9,aa,ab,ac,ad,ae] ah∧(F25_j2 (F25_l1 fuel x1 x2 n1) V Y y7 U y8 y9 ah)=some r) ?_ ?_))
       ·skip
        have a5:=a3.drew
        have m:=Sub.of zr a5
        refine w_regB (by kernel_rfl) [5,12,13] (Sub z4 (ownS Ty.int 3 W X V::box Z [.slice e3 Y.length q3,v3,v4,v5,v6,v7,v8,v9,a0,a1] 29::emp::box b1 [N0,N0,N0,N0,N0,N0,N0,N0,N0,N0] 29::L)) (by kernel_rfl) ?_
        refine k_seg' 10 [(0,true),(1,true),(2,true),(3,true),(4,true)] (by kernel_rfl) (by kernel_rfl) (At.start m) (by kernel_rfl) ?_
        obtain ⟨M,f,F⟩:=bind_some p
        obtain ⟨g,k,l,o,rfl,f⟩:=SliceR.getI (SliceR.mono (zt (zt (zt k2 k3) k4) k5) hx_x1) f
        refine c_S 5 [.slice e3 Y.length q3,v3,v4,v5,v6,v7,v8,v9,a0,a1, .pointer (some g),vI M.kind,vI M.lot,vI M.frm,vI M.to,vI M.mass] [1,2,6,9,10,11,44,48] m q (fun _ s=>(.cell (s.bx 1 0 rfl rfl) (.cell (s.bx 1 1 rfl rfl) (.cell (s.bx 1 2 rfl rfl) (.cell (s.bx 1 3 rfl rfl) (.cell (s.bx 1 4 rfl rfl) (.cell (s.bx 1 5 rfl rfl) (.cell (s.bx 1 6 rfl rfl) (.cell (s.bx 1 7 rfl rfl) (.cell (s.bx 1 8 rfl rfl) (.cell (s.bx 1 9 rfl rfl) (.prop k (.prop l (.cell (s.cell (f 0 _ rfl)) (.cell (s.cell (f 1 _ rfl)) (.cell (s.cell (f 2 _ rfl)) (.cell (s.cell (f 3 _ rfl)) (.cell (s.cell (f 4 _ rfl)) .nil)))))))))))))))))) .nil fun f ag=>?_
        refine c_done ?_
        intro f
        refine k_any' 9 [5,10,11] (by kernel_rfl) f (by kernel_rfl) (by kernel_rfl) ?_
        refine (all_cons ?_ (all_cons ?_ (all_cons ?_ all_nil)))
        ·skip
         obtain ⟨k,f,p⟩:=bind_some F
         refine c_call ag (f22_ok fuel Y y7 M.kind M.lot M.frm M.to M.mass k f z4 _ _ a5 e3 q3 af v3 v4 v5 v6 v7 v8 v9 a0 a1 (Ty.mono _ zr a4)) ?_
         rintro f g l ⟨R,u,x,y,z,A,B,C,D,G,H,I,O,P,t,rfl,Q,S,K,m⟩ o
         refine ⟨fun e=>absurd e (by decide),?_⟩
         refine c_done ?_
         intro f
         refine k_seg' 5 [(6,true),(7,true),(8,true),(9,true)] (by kernel_rfl) (by kernel_rfl) f (by kernel_rfl) ?_
         refine p_qP 4 [] [(1, .slice o_x1 x1.length c_x1),(2,vI x2),(6,pB b1 0),(9,pB Z 0),(10, .slice W V.length X),(11,vI U),(50, .agg #[.slice u k.1.length x,y,z,A,B,C,D,G,H,I]),(51, .agg #[.slice O k.2.2.1.length P]),(52,vI k.2.2.2)] [] o (by kernel_rfl) (fun _=> .nil) fun f J=>?_
         refine c_done ?_
         intro f
         refine k_any' 4 [10,11] (by kernel_rfl) f (by kernel_rfl) (by kernel_rfl) ?_
         refine (all_cons ?_ (all_cons ?_ all_nil))
         ·skip
          refine c_box [N0,N0,N0,N0,N0,N0,N0,N0,N0,N0] 29 Q J fun q f l g m=>⟨fun _=>Sub.of t (St.drop 1 g),?_⟩
          refine c_done ?_
          intro f
          refine k_seg' 0 [(11,false),(12,false),(13,false),(14,true)] (by kernel_rfl) (by kernel_rfl) f (by kernel_rfl) ?_
          refine c_box [N0] 49 g m fun g l m f o=>⟨fun _=>Sub.of t (St.drop 2 f),?_⟩
          have g:=Sub.of t (St.drop 2 f)
          have g:=oneCells_of (Ty.one _ (Ty.mono _ zr K))
          refine p_store_eq (i:=12) (j:=1) (b:=q) (off:=0) (vs:=[.slice u k.1.length x,y,z,A,B,C,D,G,H,I]) (cs':=[.slice u k.1.length x,y,z,A,B,C,D,G,H,I]) f o rfl (by kernel_rfl) g rfl fun l m f g=>⟨fun e=>absurd e (by decide),?_⟩
          refine c_st 0 [.slice O k.2.2.1.length P] f g rfl fun g l m f=>⟨fun e=>absurd e (by decide),?_⟩
          refine p_qP 1 [] [(1, .slice o_x1 x1.length c_x1),(2,vI x2),(6,pB b1 0),(9,pB Z 0),(10, .slice W V.length X),(11,vI U),(12,pB q 0),(14,vI k.2.2.2)] [] f (by kernel_rfl) (fun _=> .nil) fun f g=>?_
          refine c_done ?_
          intro f
          refine k_done' (by kernel_rfl) (by kernel_rfl) ?_
          refine n_then ?_
          exact ⟨R,k.2.2.2,k.1,k.2.1,q,u,x,y,z,A,B,C,D,G,H,I,t,g.to,(St.pick 2 [1] m (by kernel_rfl)),S,(Ty.mono _ zr K),p⟩
         ·skip
          refine c_box [N0] 49 Q J fun f l m g o=>⟨fun _=>Sub.of t (St.drop 1 g),?_⟩
          refine c_done ?_
          intro f
          refine k_seg' 0 [(10,false),(12,false),(13,false),(14,true)] (by kernel_rfl) (by kernel_rfl) f (by kernel_rfl) ?_
          refine c_box [N0,N0,N0,N0,N0,N0,N0,N0,N0,N0] 29 g o fun o g l f m=>⟨fun _=>Sub.of t (St.drop 2 f),?_⟩
          have g:=Sub.of t (St.drop 2 f)
          have g:=oneCells_of (Ty.one _ (Ty.mono _ zr K))
          refine p_store_eq (i:=12) (j:=0) (b:=o) (off:=0) (vs:=[.slice u k.1.length x,y,z,A,B,C,D,G,H,I]) (cs':=[.slice u k.1.length x,y,z,A,B,C,D,G,H,I]) f m rfl (by kernel_rfl) g rfl fun l m f g=>⟨fun e=>absurd e (by decide),?_⟩
          refine c_st 1 [.slice O k.2.2.1.length P] f g rfl fun g l m f=>⟨fun e=>absurd e (by decide),?_⟩
          refine p_qP 1 [] [(1, .slice o_x1 x1.length c_x1),(2,vI x2),(6,pB b1 0),(9,pB Z 0),(10, .slice W V.length X),(11,vI U),(12,pB o 0),(14,vI k.2.2.2)] [] f (by kernel_rfl) (fun _=> .nil) fun f g=>?_
          refine c_done ?_
          intro f
          refine k_done' (by kernel_rfl) (by kernel_rfl) ?_
          refine n_then ?_
          exact ⟨R,k.2.2.2,k.1,k.2.1,o,u,x,y,z,A,B,C,D,G,H,I,t,g.to,(St.pick 2 [0] m (by kernel_rfl)),S,(Ty.mono _ zr K),p⟩
        ·skip
         refine c_box [N0,N0,N0,N0,N0,N0,N0,N0,N0,N0] 29 a5 ag fun O f g Q a2=>⟨fun _=>Sub.of zr (St.drop 1 Q),?_⟩
         refine c_done ?_
         intro f
         have g:=Sub.of zr (St.drop 1 Q)
         refine k_seg' 9 [] (by kernel_rfl) (by kernel_rfl) f (by kernel_rfl) ?_
         refine c_done ?_
         intro f
         refine k_any' 8 [5,11] (by kernel_rfl) f (by kernel_rfl) (by kernel_rfl) ?_
         refine (all_cons ?_ (all_cons ?_ all_nil))
         ·skip
          obtain ⟨g,f,p⟩:=bind_some F
          refine c_call a2 (f22_ok fuel Y y7 M.kind M.lot M.frm M.to M.mass g f z4 _ _ Q e3 q3 af v3 v4 v5 v6 v7 v8 v9 a0 a1 (Ty.mono _ zr a4)) ?_
          rintro f k l ⟨R,q,t,u,x,y,z,A,B,C,D,G,H,I,K,rfl,J,S,P,m⟩ o
          refine ⟨fun e=>absurd e (by decide),?_⟩
          refine c_done ?_
          intro f
          refine k_seg' 0 [(6,true),(7,true),(8,true),(9,true),(11,false),(12,false),(13,false),(14,true)] (by kernel_rfl) (by kernel_rfl) f (by kernel_rfl) ?_
          refine p_qP 4 [] [(1, .slice o_x1 x1.length c_x1),(2,vI x2),(6,pB b1 0),(9,pB Z 0),(10, .slice W V.length X),(11,vI U),(12,pB O 0),(50, .agg #[.slice q g.1.length t,u,x,y,z,A,B,C,D,G]),(51, .agg #[.slice H g.2.2.1.length I]),(52,vI g.2.2.2)] [] o (by kernel_rfl) (fun _=> .nil) fun k f=>?_
          refine c_box [N0] 49 J f fun k l m f o=>⟨fun _=>Sub.of K (St.drop 2 f),?_⟩
          have k:=Sub.of K (St.drop 2 f)
          have k:=oneCells_of (Ty.one _ (Ty.mono _ zr P))
          refine p_store_eq (i:=12) (j:=1) (b:=O) (off:=0) (vs:=[.slice q g.1.length t,u,x,y,z,A,B,C,D,G]) (cs':=[.slice q g.1.length t,u,x,y,z,A,B,C,D,G]) f o rfl (by kernel_rfl) k rfl fun l m f k=>⟨fun e=>absurd e (by decide),?_⟩
          refine c_st 0 [.slice H g.2.2.1.length I] f k rfl fun k l m f=>⟨fun e=>absurd e (by decide),?_⟩
          refine p_qP 1 [] [(1, .slice o_x1 x1.length c_x1),(2,vI x2),(6,pB b1 0),(9,pB Z 0),(10, .slice W V.length X),(11,vI U),(12,pB O 0),(14,vI g.2.2.2)] [] f (by kernel_rfl) (fun _=> .nil) fun f k=>?_
          refine c_done ?_
          intro f
          refine k_done' (by kernel_rfl) (by kernel_rfl) ?_
          refine n_then ?_
          exact ⟨R,g.2.2.2,g.1,g.2.1,O,q,t,u,x,y,z,A,B,C,D,G,K,k.to,(St.pick 2 [1] m (by kernel_rfl)),S,(Ty.mono _ zr P),p⟩
         ·skip
          refine c_box [N0] 49 Q a2 fun P f g k l=>⟨fun _=>Sub.of zr (St.drop 2 k),?_⟩
          refine c_done ?_
          intro f
          have g:=Sub.of zr (St.drop 2 k)
          refine k_seg' 0 [(5,false),(6,true),(7,true),(8,true),(9,true),(12,false),(13,false),(14,true)] (by kernel_rfl) (by kernel_rfl) f (by kernel_rfl) ?_
          obtain ⟨f,g,p⟩:=bind_some F
          refine c_call l (f22_ok fuel Y y7 M.kind M.lot M.frm M.to M.mass f g z4 _ _ k e3 q3 af v3 v4 v5 v6 v7 v8 v9 a0 a1 (Ty.mono _ zr a4)) ?_
          rintro k G H ⟨Q,o,q,t,u,x,y,z,A,B,C,D,l,m,R,rfl,J,S,K,I⟩ g
          refine ⟨fun e=>absurd e (by decide),?_⟩
          refine p_qP 4 [] [(1, .slice o_x1 x1.length c_x1),(2,vI x2),(6,pB b1 0),(9,pB Z 0),(10, .slice W V.length X),(11,vI U),(12,pB O 0),(13,pB P 0),(50, .agg #[.slice o f.1.length q,t,u,x,y,z,A,B,C,D]),(51, .agg #[.slice l f.2.2.1.length m]),(52,vI f.2.2.2)] [] g (by kernel_rfl) (fun _=> .nil) fun g k=>?_
          have g:=oneCells_of (Ty.one _ (Ty.mono _ zr K))
          refine p_store_eq (i:=12) (j:=1) (b:=O) (off:=0) (vs:=[.slice o f.1.length q,t,u,x,y,z,A,B,C,D]) (cs':=[.slice o f.1.length q,t,u,x,y,z,A,B,C,D]) J k rfl (by kernel_rfl) g rfl fun G H g k=>⟨fun e=>absurd e (by decide),?_⟩
          refine c_st 0 [.slice l f.2.2.1.length m] g k rfl fun k l m g=>⟨fun e=>absurd e (by decide),?_⟩
          refine p_qP 1 [] [(1, .slice o_x1 x1.length c_x1),(2,vI x2),(6,pB b1 0),(9,pB Z 0),(10, .slice W V.length X),(11,vI U),(12,pB O 0),(14,vI f.2.2.2)] [] g (by kernel_rfl) (fun _=> .nil) fun g k=>?_
          refine c_done ?_
          intro g
          refine k_done' (by kernel_rfl) (by kernel_rfl) ?_
          refine n_then ?_
          exact ⟨Q,f.2.2.2,f.1,f.2.1,O,o,q,t,u,x,y,z,A,B,C,D,R,k.to,(St.pick 2 [1] m (by kernel_rfl)),S,(Ty.mono _ zr K),p⟩
        ·skip
         refine c_box [N0] 49 a5 ag fun a2 f g P S=>⟨fun _=>Sub.of zr (St.drop 1 P),?_⟩
         refine c_done ?_
         intro f
         have g:=Sub.of zr (St.drop 1 P)
         refine k_seg' 9 [] (by kernel_rfl) (by kernel_rfl) f (by kernel_rfl) ?_
         refine c_done ?_
         intro f
         refine k_any' 8 [5,10] (by kernel_rfl) f (by kernel_rfl) (by kernel_rfl) ?_
         refine (all_cons ?_ (all_cons ?_ all_nil))
         ·skip
          obtain ⟨g,f,p⟩:=bind_some F
          refine c_call S (f22_ok fuel Y y7 M.kind M.lot M.frm M.to M.mass g f z4 _ _ P e3 q3 af v3 v4 v5 v6 v7 v8 v9 a0 a1 (Ty.mono _ zr a4)) ?_
          rintro f k l ⟨Q,q,t,u,x,y,z,A,B,C,D,G,H,I,K,rfl,J,R,O,m⟩ o
          refine ⟨fun e=>absurd e (by decide),?_⟩
          refine c_done ?_
          intro f
          refine k_seg' 0 [(6,true),(7,true),(8,true),(9,true),(10,false),(12,false),(13,false),(14,true)] (by kernel_rfl) (by kernel_rfl) f (by kernel_rfl) ?_
          refine p_qP 4 [] [(1, .slice o_x1 x1.length c_x1),(2,vI x2),(6,pB b1 0),(9,pB Z 0),(10, .slice W V.length X),(11,vI U),(13,pB a2 0),(50, .agg #[.slice q g.1.length t,u,x,y,z,A,B,C,D,G]),(51, .agg #[.slice H g.2.2.1.length I]),(52,vI g.2.2.2)] [] o (by kernel_rfl) (fun _=> .nil) fun k f=>?_
          refine c_box [N0,N0,N0,N0,N0,N0,N0,N0,N0,N0] 29 J f fun o k l f m=>⟨fun _=>Sub.of K (St.drop 2 f),?_⟩
          have k:=Sub.of K (St.drop 2 f)
          have k:=oneCells_of (Ty.one _ (Ty.mono _ zr O))
          refine p_store_eq (i:=12) (j:=0) (b:=o) (off:=0) (vs:=[.slice q g.1.length t,u,x,y,z,A,B,C,D,G]) (cs':=[.slice q g.1.length t,u,x,y,z,A,B,C,D,G]) f m rfl (by kernel_rfl) k rfl fun l m f k=>⟨fun e=>absurd e (by decide),?_⟩
          refine c_st 1 [.slice H g.2.2.1.length I] f k rfl fun k l m f=>⟨fun e=>absurd e (by decide),?_⟩
          refine p_qP 1 [] [(1, .slice o_x1 x1.length c_x1),(2,vI x2),(6,pB b1 0),(9,pB Z 0),(10, .slice W V.length X),(11,vI U),(12,pB o 0),(14,vI g.2.2.2)] [] f (by kernel_rfl) (fun _=> .nil) fun f k=>?_
          refine c_done ?_
          intro f
          refine k_done' (by kernel_rfl) (by kernel_rfl) ?_
          refine n_then ?_
          exact ⟨Q,g.2.2.2,g.1,g.2.1,o,q,t,u,x,y,z,A,B,C,D,G,K,k.to,(St.pick 2 [0] m (by kernel_rfl)),R,(Ty.mono _ zr O),p⟩
         ·skip
          refine c_box [N0,N0,N0,N0,N0,N0,N0,N0,N0,N0] 29 P S fun K f g k l=>⟨fun _=>Sub.of zr (St.drop 2 k),?_⟩
          refine c_done ?_
          intro f
          have g:=Sub.of zr (St.drop 2 k)
          refine k_seg' 0 [(5,false),(6,true),(7,true),(8,true),(9,true),(12,false),(13,false),(14,true)] (by kernel_rfl) (by kernel_rfl) f (by kernel_rfl) ?_
          obtain ⟨f,g,p⟩:=bind_some F
          refine c_call l (f22_ok fuel Y y7 M.kind M.lot M.frm M.to M.mass f g z4 _ _ k e3 q3 af v3 v4 v5 v6 v7 v8 v9 a0 a1 (Ty.mono _ zr a4)) ?_
          rintro k G H ⟨O,o,q,t,u,x,y,z,A,B,C,D,l,m,P,rfl,J,Q,M,I⟩ g
          refine ⟨fun e=>absurd e (by decide),?_⟩
          refine p_qP 4 [] [(1, .slice o_x1 x1.length c_x1),(2,vI x2),(6,pB b1 0),(9,pB Z 0),(10, .slice W V.length X),(11,vI U),(12,pB K 0),(13,pB a2 0),(50, .agg #[.slice o f.1.length q,t,u,x,y,z,A,B,C,D]),(51, .agg #[.slice l f.2.2.1.length m]),(52,vI f.2.2.2)] [] g (by kernel_rfl) (fun _=> .nil) fun g k=>?_
          have g:=oneCells_of (Ty.one _ (Ty.mono _ zr M))
          refine p_store_eq (i:=12) (j:=0) (b:=K) (off:=0) (vs:=[.slice o f.1.length q,t,u,x,y,z,A,B,C,D]) (cs':=[.slice o f.1.length q,t,u,x,y,z,A,B,C,D]) J k rfl (by kernel_rfl) g rfl fun G H g k=>⟨fun e=>absurd e (by decide),?_⟩
          refine c_st 1 [.slice l f.2.2.1.length m] g k rfl fun k l m g=>⟨fun e=>absurd e (by decide),?_⟩
          refine p_qP 1 [] [(1, .slice o_x1 x1.length c_x1),(2,vI x2),(6,pB b1 0),(9,pB Z 0),(10, .slice W V.length X),(11,vI U),(12,pB K 0),(14,vI f.2.2.2)] [] g (by kernel_rfl) (fun _=> .nil) fun g k=>?_
          refine c_done ?_
          intro g
          refine k_done' (by kernel_rfl) (by kernel_rfl) ?_
          refine n_then ?_
          exact ⟨O,f.2.2.2,f.1,f.2.1,K,o,q,t,u,x,y,z,A,B,C,D,P,k.to,(St.pick 2 [0] m (by kernel_rfl)),Q,(Ty.mono _ zr M),p⟩
       ·rintro k l ⟨z6,y8,y9,ah,b4,e6,q6,a6,a7,a8,a9,aa,ab,ac,ad,ae,z,g,f,B,A,F⟩
        refine c_sq [] [1,2,6,9,10,11,12,54] g .nil fun g x=>?_
        refine c_if (y8 != (0:Int)) x (fun m=>?_) (fun m=>?_)
        ·have p:=cond_t m F
         refine c_reg (c_n 2 [] [1,2,6,9,11,55,56] x .nil fun o g=>(p_box (i:=2) (d:=(some 57)) (cs:=[vI U]) (T:=3) (v:=fun k=> .slice (some ⟨k,0,none⟩) 1 1) f g (fun b=>by kernel_rfl) fun k q t l u=>tv ?_))
         have g:=l.ownBox (T:=Ty.int) (E:=3) (n:=1) (xs:=[U]) (i:=0) rfl (Rows.cons (c:=[vI U]) rfl rfl) rfl (by decide)
         obtain ⟨y,l,p⟩:=bind_some p
         refine p_append (T:=Ty.int) (i:=3) (j:=2) (d:=some 58) (o2:=(some ⟨k,0,none⟩)) (c2:=1) (ys:=([U])) el76 g u rfl (by kernel_rfl) (g.ownSrc (j:=0) rfl) l fun k l o q t g=>tv ?_
         refine c_z [] [1,2,6,9,10,11] g .nil fun o g=>?_
         refine n_block (n_then ?_)
         exact ⟨z6,y,Y,y7,k,l,e3,q3,v3,v4,v5,v6,v7,v8,v9,a0,a1,z,g.to,(St.drop 2 t),(SliceR.mono z af),(Ty.mono _ z a4),p⟩
        ·have p:=cond_f m F
         refine c_reg (c_n 1 [.slice e6 y9.length q6,a6,a7,a8,a9,aa,ab,ac,ad,ae] [1,2,6,9,10,11,59] x (.cell (f.bx 0 0 rfl rfl) (.cell (f.bx 0 1 rfl rfl) (.cell (f.bx 0 2 rfl rfl) (.cell (f.bx 0 3 rfl rfl) (.cell (f.bx 0 4 rfl rfl) (.cell (f.bx 0 5 rfl rfl) (.cell (f.bx 0 6 rfl rfl) (.cell (f.bx 0 7 rfl rfl) (.cell (f.bx 0 8 rfl rfl) (.cell (f.bx 0 9 rfl rfl) .nil)))))))))) fun g k=>?_)
         have g:=oneCells_of (Ty.one _ (Ty.mono _ zr A))
         refine p_store_eq (i:=1) (j:=2) (b:=Z) (off:=0) (vs:=[.slice e6 y9.length q6,a6,a7,a8,a9,aa,ab,ac,ad,ae]) (cs':=[.slice e6 y9.length q6,a6,a7,a8,a9,aa,ab,ac,ad,ae]) f k rfl (by kernel_rfl) g rfl fun k l f g=>tv ?_
         refine c_done (n_block (n_then ?_))
         exact ⟨z6,V,y9,ah,W,X,e6,q6,a6,a7,a8,a9,aa,ab,ac,ad,ae,z,g.to,(St.drop 1 f),B,(Ty.mono _ zr A),p⟩
     ·rintro g k ⟨z5,y2,y3,y4,e4,q4,e5,q5,ai,aj,ak,al,am,an,ao,ap,aq,l,f,m,o,q,p⟩
      refine c_q [] [1,2,6,9,10,11] f .nil fun g f=>?_
      refine n_then ?_
      exact ⟨n1,Nat.lt_succ_self n1,z5,y2,y3,y4,(w64 (U + (1:Int))),e4,q4,e5,q5,ai,aj,ak,al,am,an,ao,ap,aq,(zt k5 l),f.to,m,o,(Ty.mono _ zr q),p⟩
    ·have p:=cond_f ar av
     refine c_exit 0 (x_then (x_then (x_block (n_then (c_sr (c_n 2 [.slice e3 Y.length q3,v3,v4,v5,v6,v7,v8,v9,a0,a1] [6,60,61] au (.cell (a3.bx 1 0 rfl rfl) (.cell (a3.bx 1 1 rfl rfl) (.cell (a3.bx 1 2 rfl rfl) (.cell (a3.bx 1 3 rfl rfl) (.cell (a3.bx 1 4 rfl rfl) (.cell (a3.bx 1 5 rfl rfl) (.cell (a3.bx 1 6 rfl rfl) (.cell (a3.bx 1 7 rfl rfl) (.cell (a3.bx 1 8 rfl rfl) (.cell (a3.bx 1 9 rfl rfl) .nil)))))))))) fun f g=>?_))))))
     have f:=oneCells_of (Ty.one _ (Ty.mono _ zr a4))
     refine p_store_eq (i:=2) (j:=3) (b:=b1) (off:=0) (vs:=[.slice e3 Y.length q3,v3,v4,v5,v6,v7,v8,v9,a0,a1]) (cs':=[.slice e3 Y.length q3,v3,v4,v5,v6,v7,v8,v9,a0,a1]) a3 g rfl (by kernel_rfl) f rfl fun g k l f=>tv ?_
     refine c_t [] [6,7,8] f .nil fun f k=>?_
     refine c_ret ?_
     obtain ⟨l,g,f,m⟩:=l.share (j:=0) rfl
     refine c_rt [.slice e3 Y.length q3,v3,v4,v5,v6,v7,v8,v9,a0,a1] (.tuple #[.agg #[.slice e3 Y.length q3,v3,v4,v5,v6,v7,v8,v9,a0,a1], .slice W V.length X,vI 0]) k (.cell (f.bx 3 0 rfl rfl) (.cell (f.bx 3 1 rfl rfl) (.cell (f.bx 3 2 rfl rfl) (.cell (f.bx 3 3 rfl rfl) (.cell (f.bx 3 4 rfl rfl) (.cell (f.bx 3 5 rfl rfl) (.cell (f.bx 3 6 rfl rfl) (.cell (f.bx 3 7 rfl rfl) (.cell (f.bx 3 8 rfl rfl) (.cell (f.bx 3 9 rfl rfl) .nil)))))))))) ?_
     obtain rfl:=some_eq p
     exact ⟨_,rfl,l,e3,q3,v3,v4,v5,v6,v7,v8,v9,a0,a1,W,X,(zt (zt (zt (zt k2 k3) k4) k5) g),rfl,(St.drop 4 f),(SliceR.mono g af),(Ty.mono _ g a4),m⟩
def F61 (fuel:Nat) (x0:List Deed):Option (List Deed) :=
  ((appC ([]) x0).bind fun d1=>(some (d1)))
set_option maxRecDepth 100000 in
theorem f61_ok (fuel:Nat) (x0:List Deed) (r:List Deed) (hr:F61 fuel x0=some r) (h:Zone) (L:List Atom) (w:World) (hS:St h L w) (o_x0:Option Addr) (c_x0:Nat) (hx_x0:SliceR DeedT h o_x0 c_x0 x0) :
    Calls Tryz.prog 61 #[.slice o_x0 x0.length c_x0] w fun e w'=>∃v,e= .returned v∧(∃h',∃o0:Option Addr,∃c0:Nat,Zone.le h h'∧v= .slice o0 r.length c0∧St h' (ownS DeedT 74 o0 c0 r::L) w'):=by
 cases o_x0 with
 | none =>
  obtain ⟨c,f⟩:=hx_x0.hnil rfl
  subst c f
  have hr:some ([]:List Deed)=some r:=by simpa [F61,appC] using hr
  refine calls_intro (N:=8) Tryz.func61 (by kernel_rfl) fun a hf=>?_
  refine c_sq [] [0] hf .nil fun l c=>?_
  refine c_seq (c_sq [] [0,4] c .nil fun m f=>(w_if_true f (by kernel_rfl) (c_sq [] [2] f .nil fun p k=>(c_ret (r_then ?_)))))
  have g:=hS.ownNil DeedT 74
  refine c_rt [] (N0) k .nil ?_
  obtain rfl:=some_eq hr
  exact ⟨_,rfl,h,none,0,zr,rfl,(St.pick 1 [0] g (by kernel_rfl))⟩
 | some oa =>
  refine calls_intro (N:=8) Tryz.func61 (by kernel_rfl) fun a hf=>?_
  refine c_sq [] [0] hf .nil fun l c=>?_
  refine c_seq (c_sq [] [0,4] c .nil fun m f=>(w_if_false f (by kernel_rfl) (c_skip (n_then (c_sr (p_box (i:=0) (d:=(some 5)) (cs:=[]) (T:=74) (v:=fun c=> .slice (some ⟨c,0,none⟩) 0 0) hS f (fun b=>by kernel_rfl) fun c f p g k=>tv ?_))))))
  have c:=g.ownBox (T:=DeedT) (E:=74) (n:=0) (xs:=[]) (i:=0) rfl rfl rfl (by decide)
  refine c_n 1 [] [5,6] k .nil fun f g=>?_
  obtain ⟨k,f,o⟩:=bind_some hr
  refine p_append (T:=DeedT) (i:=2) (j:=0) (d:=some 7) (o2:=(some oa)) (c2:=c_x0) (ys:=x0) el23 c g rfl (by kernel_rfl) (SliceR.src hx_x0 c) f fun f g l m p c=>tv ?_
  refine c_t [] [2] c .nil fun l c=>?_
  refine c_ret (c_rt [] (.slice f k.length g) c .nil ?_)
  obtain rfl:=some_eq o
  exact ⟨_,rfl,h,f,g,zr,rfl,(St.pick 1 [0] p (by kernel_rfl))⟩
def F87_l1 (x0:List Part) (x1:List Part):Nat→Int→Option (Bool)
  | 0,_=>none
  | n1 + 1,y1 =>
    let k1:Int→Option (Bool):=F87_l1 x0 x1 n1
    (cond (decide (y1<(x0.length:Int))) ((getI x0 y1).bind fun p1=>((getI x1 y1).bind fun p2=>(cond (!((p1.lot == p2.lot) && ((p1.mass == p2.mass) && true))) (some (false)) (k1 (w64 (y1 + (1:Int))))))) (some (true)))
def F87 (fuel:Nat) (x0:List Part) (x1:List Part):Option (Bool) :=
  (cond ((x0.length:Int) != (x1.length:Int)) (some (false)) (F87_l1 x0 x1 fuel 0))
set_option maxRecDepth 100000 in
theorem f87_ok (fuel:Nat) (x0:List Part) (x1:List Part) (r:Bool) (hr:F87 fuel x0 x1=some r) (h:Zone) (L:List Atom) (w:World) (hS:St h L w) (o_x0:Option Addr) (c_x0:Nat) (hx_x0:SliceR PartT h o_x0 c_x0 x0) (o_x1:Option Addr) (c_x1:Nat) (hx_x1:SliceR PartT h o_x1 c_x1 x1) :
    Calls Tryz.prog 87 #[.slice o_x0 x0.length c_x0, .slice o_x1 x1.length c_x1] w fun e w'=>∃v,e= .returned v∧(∃h',Zone.le h h'∧v= .bool r∧St h' L w'):=by
 refine calls_intro (N:=26) Tryz.func87 (by kernel_rfl) fun a hf=>?_
 refine c_sq [] [0,1] hf .nil fun c b=>?_
 refine c_seq (c_sq [] [0,1,10] b .nil fun b d=>(c_if ((x0.length:Int) != (x1.length:Int)) d (fun c=>?_) (fun c=>?_)))
 ·have f:=cond_t c hr
  refine c_sq [] [4] d .nil fun g b=>?_
  refine c_ret (r_then (c_rt [] (.bool false) b .nil ?_))
  obtain rfl:=some_eq f
  exact ⟨_,rfl,h,zr,rfl,hS⟩
 ·have f:=cond_f c hr
  refine c_skip (n_then (c_seq (c_sq [] [0,1,12,13] d .nil fun c b=>(c_block 0 (c_loop (fun n a w=>∃t:Zone,∃u:Int,Zone.le h t∧Fr a 26 [(0, .slice o_x0 x0.length c_x0),(1, .slice o_x1 x1.length c_x1),(12,vI (x0.length:Int)),(13,vI u)]∧St t (L) w∧(F87_l1 x0 x1 n u)=some r) fuel ⟨h,0,zr,b.to,hS,f⟩ ?_)))))
  rintro b c d ⟨t,u,y,g,D,B⟩
  cases b with
  | zero=>cases B
  | succ C =>
  refine c_sq [] [0,1,12,13,14] g .nil fun b A=>?_
  refine c_seq (c_if (decide (u<(x0.length:Int))) A (fun z=>?_) (fun z=>?_))
  ·have f:=cond_t z B
   refine c_skip (n_then (c_seq (c_block 1 (c_sq [] [0,1,5,12,13] A .nil fun b x=>?_))))
   have l:=D.drew
   obtain ⟨d,b,f⟩:=bind_some f
   obtain ⟨m,o,p,b,rfl,g⟩:=SliceR.getI (SliceR.mono y hx_x0) b
   obtain ⟨b,c,s⟩:=bind_some f
   obtain ⟨i,j,k,q,rfl,c⟩:=SliceR.getI (SliceR.mono y hx_x1) c
   refine c_sqD [(0,true),(1,true),(2,true),(3,true),(4,true),(5,true),(6,true),(7,true),(8,true)] [] [.pointer (some m),vI d.lot,vI d.mass, .pointer (some i),vI b.lot,vI b.mass] [0,1,12,13,24] x (.prop o (.prop p (.cell (l.cell (g 0 _ rfl)) (.cell (l.cell (g 1 _ rfl)) (.prop j (.prop k (.cell (l.cell (c 0 _ rfl)) (.cell (l.cell (c 1 _ rfl)) .nil)))))))) .nil fun c g=>?_
   refine c_if (!((d.lot == b.lot) && ((d.mass == b.mass) && true))) g (fun c=>?_) (fun c=>?_)
   ·have f:=cond_t c s
    refine c_sq [] [4] g .nil fun d b=>?_
    refine c_ret (r_block (r_then (r_then (r_block (r_then (c_rt [] (.bool false) b .nil ?_))))))
    obtain rfl:=some_eq f
    exact ⟨_,rfl,t,y,rfl,l⟩
   ·have f:=cond_f c s
    refine c_skip (n_block (n_then (c_q [] [0,1,12,13] g .nil fun c b=>(n_then ?_))))
    exact ⟨C,Nat.lt_succ_self C,t,(w64 (u + (1:Int))),y,b.to,l,f⟩
  ·have f:=cond_f z B
   refine c_exit 0 (x_then (x_then (x_block (n_then (c_sq [] [4] A .nil fun c b=>(c_ret (c_rt [] (.bool true) b .nil ?_)))))))
   obtain rfl:=some_eq f
   exact ⟨_,rfl,t,y,rfl,D⟩
def F86 (fuel:Nat) (x0:List Part) (x1:List Part):Option (Bool) :=
  ((F87 fuel x0 x1).bind fun r1=>(some (r1)))
set_option maxRecDepth 100000 in
theorem f86_ok (fuel:Nat) (x0:List Part) (x1:List Part) (r:Bool) (hr:F86 fuel x0 x1=some r) (h:Zone) (L:List Atom) (w:World) (hS:St h L w) (o_x0:Option Addr) (c_x0:Nat) (hx_x0:SliceR PartT h o_x0 c_x0 x0) (o_x1:Option Addr) (c_x1:Nat) (hx_x1:SliceR PartT h o_x1 c_x1 x1) :
    Calls Tryz.prog 86 #[.agg #[.slice o_x0 x0.length c_x0], .agg #[.slice o_x1 x1.length c_x1]] w fun e w'=>∃v,e= .returned v∧(∃h',Zone.le h h'∧v= .bool r∧St h' L w'):=by
 refine calls_intro (N:=10) Tryz.func86 (by kernel_rfl) fun a hf=>?_
 refine c_sr (c_box [.slice o_x0 x0.length c_x0] 49 hS hf fun j k l c d=>tv (c_box [.slice o_x1 x1.length c_x1] 49 c d fun m n o b f=>tv (c_t [] [2,3] f .nil fun p g=>(c_sr (c_n 4 [.slice o_x0 x0.length c_x0, .slice o_x1 x1.length c_x1] [6,8] g (.cell (b.bx 1 0 rfl rfl) (.cell (b.bx 0 0 rfl rfl) .nil)) fun q i=>?_)))))
 obtain ⟨d,c,s⟩:=bind_some hr
 refine c_call i (f87_ok fuel x0 x1 d c h _ _ b o_x0 c_x0 hx_x0 o_x1 c_x1 hx_x1) ?_
 rintro c f g ⟨i,j,rfl,k⟩ b
 refine tv ?_
 refine c_t [] [4] b .nil fun c b=>?_
 refine c_ret (c_rt [] (.bool d) b .nil ?_)
 obtain rfl:=some_eq s
 exact ⟨_,rfl,i,j,rfl,(St.drop 2 k)⟩
def F88_l1 (x0:List Lot) (x1:List Lot):Nat→Int→Option (Bool)
  | 0,_=>none
  | n1 + 1,y1 =>
    let k1:Int→Option (Bool):=F88_l1 x0 x1 n1
    (cond (decide (y1<(x0.length:Int))) ((getI x0 y1).bind fun p1=>((getI x1 y1).bind fun p2=>(cond (!((p1.id == p2.id) && ((p1.owner == p2.owner) && ((p1.grade == p2.grade) && ((p1.wet == p2.wet) && true))))) (some (false)) (k1 (w64 (y1 + (1:Int))))))) (some (true)))
def F88 (fuel:Nat) (x0:List Lot) (x1:List Lot):Option (Bool) :=
  (cond ((x0.length:Int) != (x1.length:Int)) (some (false)) (F88_l1 x0 x1 fuel 0))
set_option maxRecDepth 100000 in
theorem f88_ok (fuel:Nat) (x0:List Lot) (x1:List Lot) (r:Bool) (hr:F88 fuel x0 x1=some r) (h:Zone) (L:List Atom) (w:World) (hS:St h L w) (o_x0:Option Addr) (c_x0:Nat) (hx_x0:SliceR LotT h o_x0 c_x0 x0) (o_x1:Option Addr) (c_x1:Nat) (hx_x1:SliceR LotT h o_x1 c_x1 x1) :
    Calls Tryz.prog 88 #[.slice o_x0 x0.length c_x0, .slice o_x1 x1.length c_x1] w fun e w'=>∃v,e= .returned v∧(∃h',Zone.le h h'∧v= .bool r∧St h' L w'):=by
 refine calls_intro (N:=26) Tryz.func88 (by kernel_rfl) fun a hf=>?_
 refine c_sq [] [0,1] hf .nil fun c b=>?_
 refine c_seq (c_sq [] [0,1,10] b .nil fun b d=>(c_if ((x0.length:Int) != (x1.length:Int)) d (fun c=>?_) (fun c=>?_)))
 ·have i:=cond_t c hr
  refine c_sq [] [4] d .nil fun f b=>?_
  refine c_ret (r_then (c_rt [] (.bool false) b .nil ?_))
  obtain rfl:=some_eq i
  exact ⟨_,rfl,h,zr,rfl,hS⟩
 ·have i:=cond_f c hr
  refine c_skip (n_then (c_seq (c_sq [] [0,1,12,13] d .nil fun c b=>(c_block 0 (c_loop (fun n a w=>∃t:Zone,∃u:Int,Zone.le h t∧Fr a 26 [(0, .slice o_x0 x0.length c_x0),(1, .slice o_x1 x1.length c_x1),(12,vI (x0.length:Int)),(13,vI u)]∧St t (L) w∧(F88_l1 x0 x1 n u)=some r) fuel ⟨h,0,zr,b.to,hS,i⟩ ?_)))))
  rintro b c d ⟨t,u,y,f,D,B⟩
  cases b with
  | zero=>cases B
  | succ C =>
  refine c_sq [] [0,1,12,13,14] f .nil fun b A=>?_
  refine c_seq (c_if (decide (u<(x0.length:Int))) A (fun z=>?_) (fun z=>?_))
  ·have i:=cond_t z B
   refine c_skip (n_then (c_seq (c_block 1 (c_sq [] [0,1,5,12,13] A .nil fun b x=>?_))))
   have g:=D.drew
   obtain ⟨d,b,i⟩:=bind_some i
   obtain ⟨m,o,p,b,rfl,f⟩:=SliceR.getI (SliceR.mono y hx_x0) b
   obtain ⟨b,c,s⟩:=bind_some i
   obtain ⟨j,k,l,q,rfl,c⟩:=SliceR.getI (SliceR.mono y hx_x1) c
   refine c_sqD [(0,true),(1,true),(2,true),(3,true),(4,true),(5,true),(6,true),(7,true),(8,true)] [] [.pointer (some m),vI d.id,vI d.owner,vI d.grade,vI d.wet, .pointer (some j),vI b.id,vI b.owner,vI b.grade,vI b.wet] [0,1,12,13,24] x (.prop o (.prop p (.cell (g.cell (f 0 _ rfl)) (.cell (g.cell (f 1 _ rfl)) (.cell (g.cell (f 2 _ rfl)) (.cell (g.cell (f 3 _ rfl)) (.prop k (.prop l (.cell (g.cell (c 0 _ rfl)) (.cell (g.cell (c 1 _ rfl)) (.cell (g.cell (c 2 _ rfl)) (.cell (g.cell (c 3 _ rfl)) .nil)))))))))))) .nil fun c f=>?_
   refine c_if (!((d.id == b.id) && ((d.owner == b.owner) && ((d.grade == b.grade) && ((d.wet == b.wet) && true))))) f (fun c=>?_) (fun c=>?_)
   ·have i:=cond_t c s
    refine c_sq [] [4] f .nil fun d b=>?_
    refine c_ret (r_block (r_then (r_then (r_block (r_then (c_rt [] (.bool false) b .nil ?_))))))
    obtain rfl:=some_eq i
    exact ⟨_,rfl,t,y,rfl,g⟩
   ·have i:=cond_f c s
    refine c_skip (n_block (n_then (c_q [] [0,1,12,13] f .nil fun c b=>(n_then ?_))))
    exact ⟨C,Nat.lt_succ_self C,t,(w64 (u + (1:Int))),y,b.to,g,i⟩
  ·have i:=cond_f z B
   refine c_exit 0 (x_then (x_then (x_block (n_then (c_sq [] [4] A .nil fun c b=>(c_ret (c_rt [] (.bool true) b .nil ?_)))))))
   obtain rfl:=some_eq i
   exact ⟨_,rfl,t,y,rfl,D⟩
def F62_j1 (k1:Int→Option (Bool)) (y1:Int) (y2:Bool):Option (Bool) :=
  (cond (!y2) (some (false)) (k1 (w64 (y1 + (1:Int)))))
def F62_l2 (fuel:Nat) (k1:Int→Option (Bool)) (y1:Int) (p1:List (List Part)) (p2:List (List Part)):Nat→Int→Option (Bool)
  | 0,_=>none
  | n1 + 1,y3 =>
    let k2:Int→Option (Bool):=F62_l2 fuel k1 y1 p1 p2 n1
    (cond (decide (y3<(p1.length:Int))) ((getI p1 y3).bind fun p3=>((getI p2 y3).bind fun p4=>((F86 fuel p3 p4).bind fun r1=>(cond (!r1) (F62_j1 k1 y1 false) (k2 (w64 (y3 + (1:Int)))))))) (F62_j1 k1 y1 true))
def F62_l1 (fuel:Nat) (x0l:List Lot) (x0h:List (List (List Part))) (x1l:List Lot) (x1h:List (List (List Part))):Nat→Int→Option (Bool)
  | 0,_=>none
  | n2 + 1,y1 =>
    let k1:Int→Option (Bool):=F62_l1 fuel x0l x0h x1l x1h n2
    (cond (decide (y1<(9:Int))) ((getI x0h y1).bind fun p1=>((getI x1h y1).bind fun p2=>(cond ((p1.length:Int) != (p2.length:Int)) (F62_j1 k1 y1 false) (F62_l2 fuel k1 y1 p1 p2 fuel 0)))) ((F88 fuel x0l x1l).bind fun r2=>(some (r2))))
def F62 (fuel:Nat) (x0l:List Lot) (x0h:List (List (List Part))) (x1l:List Lot) (x1h:List (List (List Part))):Option (Bool) :=
  (F62_l1 fuel x0l x0h x1l x1h fuel 0)
set_option maxRecDepth 100000 in
theorem f62_ok (fuel:Nat) (x0l:List Lot) (x0h:List (List (List Part))) (x1l:List Lot) (x1h:List (List (List Part))) (r:Bool) (hr:F62 fuel x0l x0h x1l x1h=some r) (h:Zone) (L:List Atom) (w:World) (hS:St h L w) (o_x0l:Option Addr) (c_x0l:Nat) (hx_x0l:SliceR LotT h o_x0l c_x0l x0l) (V00 V01 V02 V03 V04 V05 V06 V07 V08:Value) (hx_x0h:(Ty.arr 9 (Ty.slice (Ty.slice PartT))).rep h [V00,V01,V02,V03,V04,V05,V06,V07,V08] x0h) (o_x1l:Option Addr) (c_x1l:Nat) (hx_x1l:SliceR LotT h o_x1l c_x1l x1l) (V10 V11 V12 V13 V14 V15 V16 V17 V18:Value) (hx_x1h:(Ty.arr 9 (Ty.slice (Ty.slice PartT))).rep h [V10,V11,V12,V13,V14,V15,V16,V17,V18] x1h) :
    Calls Tryz.prog 62 #[.agg #[.slice o_x0l x0l.length c_x0l,V00,V01,V02,V03,V04,V05,V06,V07,V08], .agg #[.slice o_x1l x1l.length c_x1l,V10,V11,V12,V13,V14,V15,V16,V17,V18]] w fun e w'=>∃v,e= .returned v∧(∃h',Zone.le h h'∧v= .bool r∧St h' L w'):=by
 refine calls_intro (N:=25) Tryz.func62 (by kernel_rfl) fun a hf=>?_
 refine c_sr (c_box [.slice o_x0l x0l.length c_x0l,V00,V01,V02,V03,V04,V05,V06,V07,V08] 29 hS hf fun M m o b c=>tv (c_box [.slice o_x1l x1l.length c_x1l,V10,V11,V12,V13,V14,V15,V16,V17,V18] 29 b c fun O p q d g=>tv (c_t [] [2,3] g .nil fun s j=>(c_seq (c_sq [] [2,3,6] j .nil fun t k=>(c_block 0 (c_loop (fun n a w=>∃I:Zone,∃D:Int,Zone.le h I∧Fr a 25 [(2,pB M 0),(3,pB O 0),(6,vI D)]∧St I (box O [.slice o_x1l x1l.length c_x1l,V10,V11,V12,V13,V14,V15,V16,V17,V18] 29::box M [.slice o_x0l x0l.length c_x0l,V00,V01,V02,V03,V04,V05,V06,V07,V08] 29::L) w∧(F62_l1 fuel x0l x0h x1l x1h n D)=some r) fuel ⟨h,0,zr,k.to,d,hr⟩ ?_)))))))
 rintro b c g ⟨I,D,Q,d,T,W⟩
 cases b with
 | zero=>cases W
 | succ S =>
 refine c_sq [] [2,3,6,7] d .nil fun b V=>?_
 refine c_seq (c_if (decide (D<(9:Int))) V (fun U=>?_) (fun U=>?_))
 ·have l:=cond_t U W
  refine c_skip (n_then (c_seq (c_block 1 (c_sq [] [2,3,5,6] V .nil fun b t=>(c_seq ?_)))))
  have p:=T.drew
  refine c_regD (rD 10 [8]) [8] (fun x=>x=g.drew) rfl ?_
  obtain ⟨k,b,l⟩:=bind_some l
  obtain ⟨d,_,j,q,s,hehv39334,u⟩:=arrGet (Ty.mono _ Q hx_x0h) rfl b
  obtain rfl:=List.head_eq_of_cons_eq hehv39334
  obtain ⟨g,b,y⟩:=bind_some l
  obtain ⟨b,_,c,m,o,hehv39344,z⟩:=arrGet (Ty.mono _ Q hx_x1h) rfl b
  obtain rfl:=List.head_eq_of_cons_eq hehv39344
  refine c_E 8 [.slice q k.length s, .slice m g.length o] [2,3,6,12,16] t (.prop d (.cell ((arrAddr M 1 D.toNat) ▸ (p.box (i:=1) rfl (getElem?_app_right [.slice o_x0l x0l.length c_x0l] _ _ j []))) (.prop b (.cell ((arrAddr O 1 D.toNat) ▸ (p.box (i:=0) rfl (getElem?_app_right [.slice o_x1l x1l.length c_x1l] _ _ c []))) .nil)))) .nil fun c b=>?_
  refine c_call (f:=85) (args:= #[.slice q k.length s, .slice m g.length o, .func (.func 86) #[] #[]]) (Φ:=fun v w=>∃P:Zone,∃H:Bool,Zone.le I P∧v= .bool H∧St P (box O [.slice o_x1l x1l.length c_x1l,V10,V11,V12,V13,V14,V15,V16,V17,V18] 29::box M [.slice o_x0l x0l.length c_x0l,V00,V01,V02,V03,V04,V05,V06,V07,V08] 29::L) w∧(F62_j1 (F62_l1 fuel x0l x0h x1l x1h S) D H)=some r) b ?_ ?_
  ·refine calls_intro (N:=32) Tryz.func85 (by kernel_rfl) fun c b=>?_
   refine c_sq [] [0,1,2] b .nil fun c b=>?_
   refine c_seq (c_sq [] [0,1,2,14] b .nil fun c d=>(c_if ((k.length:Int) != (g.length:Int)) d (fun b=>?_) (fun b=>?_)))
   ·have l:=cond_t b y
    refine c_sq [] [6] d .nil fun j c=>?_
    refine c_ret (r_then (c_rt [] (.bool false) c .nil ?_))
    exact ⟨_,rfl,I,false,zr,rfl,p,l⟩
   ·have l:=cond_f b y
    refine c_skip (n_then (c_seq (c_sq [] [1,2,15,16,17] d .nil fun c b=>(c_block 0 (c_loop (fun n a w=>∃C:Zone,∃A:Int,Zone.le I C∧Fr a 32 [(1, .slice m g.length o),(2, .func (.func 86) #[] #[]),(15, .slice q k.length s),(16,vI (k.length:Int)),(17,vI A)]∧St C (box O [.slice o_x1l x1l.length c_x1l,V10,V11,V12,V13,V14,V15,V16,V17,V18] 29::box M [.slice o_x0l x0l.length c_x0l,V00,V01,V02,V03,V04,V05,V06,V07,V08] 29::L) w∧(F62_l2 fuel (F62_l1 fuel x0l x0h x1l x1h S) D k g n A)=some r) fuel ⟨I,0,zr,b.to,p,l⟩ ?_)))))
    rintro b c d ⟨C,A,B,g,K,J⟩
    cases b with
    | zero=>cases J
    | succ R =>
    refine c_sq [] [1,2,15,16,17,18] g .nil fun b G=>?_
    refine c_seq (c_if (decide (A<(k.length:Int))) G (fun E=>?_) (fun E=>?_))
    ·have l:=cond_t E J
     refine c_skip (n_then (c_seq (c_block 1 (c_sr ?_))))
     obtain ⟨t,b,l⟩:=bind_some l
     obtain ⟨c,d,g,k,b,j⟩:=SliceR.getI (SliceR.mono B u) b
     obtain ⟨q,s,rfl,F⟩:=b
     refine c_n 3 [.pointer (some c), .slice q t.length s] [1,2,15,16,17,19,21] G (.prop d (.prop g (.cell (K.cell (j 0 _ rfl)) .nil))) fun c b=>?_
     refine c_box [N0] 49 K b fun d g j c b=>tv ?_
     refine c_n 1 [] [1,2,7,8,15,16,17,21] b .nil fun d b=>?_
     refine c_st 0 [.slice q t.length s] c b rfl fun b c p u=>tv ?_
     refine c_dt (c_sr ?_)
     obtain ⟨j,b,l⟩:=bind_some l
     obtain ⟨g,k,m,c,b,o⟩:=SliceR.getI (SliceR.mono B z) b
     obtain ⟨c,d,rfl,z⟩:=b
     refine c_n 4 [.pointer (some g), .slice c j.length d] [1,2,8,15,16,17,25] u (.prop k (.prop m (.cell (p.cell (o 0 _ rfl)) .nil))) fun g b=>?_
     refine c_box [N0] 49 p b fun k m o b g=>tv ?_
     refine c_st 0 [.slice c j.length d] b g rfl fun k m b g=>tv ?_
     refine c_dt (c_sr (c_n 3 [.slice q t.length s, .slice c j.length d] [1,2,15,16,17,26,27,28] g (.cell (b.bx 1 0 rfl rfl) (.cell (b.bx 0 0 rfl rfl) .nil)) fun g k=>?_))
     obtain ⟨m,g,y⟩:=bind_some l
     refine c_call k (f86_ok fuel t j m g C _ _ b q s F c d z) ?_
     rintro c d g ⟨j,k,rfl,o⟩ b
     refine tv ?_
     refine c_t [] [1,2,15,16,17,30] b .nil fun b d=>?_
     refine c_if (!m) d (fun b=>?_) (fun b=>?_)
     ·have l:=cond_t b y
      refine c_sq [] [6] d .nil fun g c=>?_
      refine c_ret (r_block (r_then (r_then (r_block (r_then (c_rt [] (.bool false) c .nil ?_))))))
      exact ⟨_,rfl,j,false,(zt B k),rfl,(St.drop 2 o),l⟩
     ·have l:=cond_f b y
      refine c_skip (n_block (n_then (c_q [] [1,2,15,16,17] d .nil fun c b=>(n_then ?_))))
      exact ⟨R,Nat.lt_succ_self R,j,(w64 (A + (1:Int))),(zt B k),b.to,(St.drop 2 o),l⟩
    ·have l:=cond_f E J
     refine c_exit 0 (x_then (x_then (x_block (n_then (c_sq [] [6] G .nil fun c b=>(c_ret (c_rt [] (.bool true) b .nil ?_)))))))
     exact ⟨_,rfl,C,true,B,rfl,K,l⟩
  ·rintro c d g ⟨P,H,j,rfl,k,y⟩ b
   refine ⟨fun e=>absurd e (by decide),?_⟩
   refine p_qP 1 [] [(2,pB M 0),(3,pB O 0),(6,vI D),(18, .bool (!H))] [] b (by kernel_rfl) (fun _=> .nil) fun b d=>?_
   refine c_dt (c_if (!H) d (fun c=>?_) (fun c=>?_))
   ·have l:=cond_t c y
    refine c_sq [] [4] d .nil fun g b=>?_
    refine c_ret (r_block (r_then (r_then (r_block (r_then (c_rt [] (.bool false) b .nil ?_))))))
    obtain rfl:=some_eq l
    exact ⟨_,rfl,P,(zt Q j),rfl,(St.drop 2 k)⟩
   ·have l:=cond_f c y
    refine c_skip (n_block (n_then (c_q [] [2,3,6] d .nil fun c b=>(n_then ?_))))
    exact ⟨S,Nat.lt_succ_self S,P,(w64 (D + (1:Int))),(zt Q j),b.to,k,l⟩
 ·have l:=cond_f U W
  refine c_exit 0 (x_then (x_then (x_block (n_then (c_sr (c_n 4 [.slice o_x0l x0l.length c_x0l, .slice o_x1l x1l.length c_x1l] [21,23] V (.cell (T.bx 1 0 rfl rfl) (.cell (T.bx 0 0 rfl rfl) .nil)) fun b c=>?_))))))
  obtain ⟨d,b,l⟩:=bind_some l
  refine c_call c (f88_ok fuel x0l x1l d b I _ _ T o_x0l c_x0l (SliceR.mono Q hx_x0l) o_x1l c_x1l (SliceR.mono Q hx_x1l)) ?_
  rintro c g j ⟨k,m,rfl,o⟩ b
  refine tv ?_
  refine c_t [] [4] b .nil fun c b=>?_
  refine c_ret (c_rt [] (.bool d) b .nil ?_)
  obtain rfl:=some_eq l
  exact ⟨_,rfl,k,(zt Q m),rfl,(St.drop 2 o)⟩
def F26_j1 (y1:Bool):Option (Bool×Int) :=
  (some (y1,0))
def F26 (fuel:Nat) (x0:List Lot) (x1:List Deed) (x2:Int):Option (Bool×Int) :=
  ((F6 fuel x0 x1).bind fun r1=>(cond (r1.2.2.2 != (0:Int)) (some (false,r1.2.2.2)) ((F48 fuel x2 0 (w64 ((x1.length:Int) - (2:Int)))).bind fun r2=>(cond (!r2) (some (false,1)) ((F61 fuel x1).bind fun r3=>((getI r3 (w64 (x2 + (1:Int)))).bind fun p1=>((getI r3 x2).bind fun p2=>((getI r3 x2).bind fun p3=>((setI r3 x2 (⟨p1.kind,p1.lot,p1.frm,p1.to,p1.mass⟩:Deed)).bind fun d1=>((getI d1 (w64 (x2 + (1:Int)))).bind fun p4=>((setI d1 (w64 (x2 + (1:Int))) (⟨p2.kind,p2.lot,p2.frm,p2.to,p2.mass⟩:Deed)).bind fun d2=>((F6 fuel x0 d2).bind fun r4=>(cond (r4.2.2.2 == (0:Int)) ((F62 fuel r1.1 r1.2.1 r4.1 r4.2.1).bind fun r5=>(F26_j1 r5)) (F26_j1 false))))))))))))))
set_option maxRecDepth 100000 in
theorem f26_ok (fuel:Nat) (x0:List Lot) (x1:List Deed) (x2:Int) (r:Bool×Int) (hr:F26 fuel x0 x1 x2=some r) (h:Zone) (L:List Atom) (w:World) (hS:St h L w) (o_x0:Option Addr) (c_x0:Nat) (hx_x0:SliceR LotT h o_x0 c_x0 x0) (o_x1:Option Addr) (c_x1:Nat) (hx_x1:SliceR DeedT h o_x1 c_x1 x1) :
    Calls Tryz.prog 26 #[.slice o_x0 x0.length c_x0, .slice o_x1 x1.length c_x1,vI x2] w fun e w'=>∃v,e= .returned v∧(∃h',Zone.le h h'∧v= .tuple #[.bool r.1,vI r.2]∧St h' L w'):=by
 refine calls_intro (N:=61) Tryz.func26 (by kernel_rfl) fun a hf=>?_
 refine c_sq [] [0,1,2] hf .nil fun d c=>?_
 refine c_sr (c_n 2 [] [0,1,2,14,15] c .nil fun c d=>?_)
 obtain ⟨K,c,E⟩:=bind_some hr
 refine c_call d (f6_ok fuel x0 x1 K c h _ _ hS o_x0 c_x0 hx_x0 o_x1 c_x1 hx_x1) ?_
 rintro d f g ⟨l,R,S,T,U,V,W,X,Y,Z,v9,a0,k1,rfl,k,a2,a1⟩ c
 refine tv ?_
 refine c_n 4 [] [0,1,2,17,18,19] c .nil fun d c=>?_
 refine c_box [N0,N0,N0,N0,N0,N0,N0,N0,N0,N0] 29 k c fun P c g d f=>tv ?_
 have c:=oneCells_of (Ty.one _ (Ty.mono _ zr a1))
 refine p_store_eq (i:=8) (j:=0) (b:=P) (off:=0) (vs:=[.slice R K.1.length S,T,U,V,W,X,Y,Z,v9,a0]) (cs':=[.slice R K.1.length S,T,U,V,W,X,Y,Z,v9,a0]) d f rfl (by kernel_rfl) c rfl fun d f k c=>tv ?_
 refine c_t [] [0,1,2,8,10] c .nil fun d c=>?_
 refine c_seq (c_sq [] [0,1,2,8,10,21] c .nil fun c f=>(c_if (K.2.2.2 != (0:Int)) f (fun d=>?_) (fun d=>?_)))
 ·have n:=cond_t d E
  refine c_sq [] [6,7] f .nil fun g c=>?_
  refine c_ret (r_then (c_rt [] (.tuple #[.bool false,vI K.2.2.2]) c .nil ?_))
  obtain rfl:=some_eq n
  exact ⟨_,rfl,l,k1,rfl,(St.drop 1 k)⟩
 ·have n:=cond_f d E
  refine c_skip (n_then (c_seq (c_sr (c_n 4 [] [0,1,2,8,23,26] f .nil fun c d=>?_))))
  obtain ⟨f,c,E⟩:=bind_some n
  refine c_call d (f48_ok fuel x2 0 (w64 ((x1.length:Int) - (2:Int))) f c l _ _ k ) ?_
  rintro d g k ⟨l,O,rfl,m⟩ c
  refine tv ?_
  refine c_t [] [0,1,2,8,28] c .nil fun c g=>?_
  refine c_if (!f) g (fun d=>?_) (fun d=>?_)
  ·have n:=cond_t d E
   refine c_sq [] [6,7] g .nil fun f c=>?_
   refine c_ret (r_then (c_rt [] (.tuple #[.bool false,vI 1]) c .nil ?_))
   obtain rfl:=some_eq n
   exact ⟨_,rfl,l,(zt k1 O),rfl,(St.drop 1 m)⟩
  ·have n:=cond_f d E
   refine c_skip (n_then (c_sr (c_n 1 [] [0,2,8,29] g .nil fun c f=>?_)))
   obtain ⟨c,d,n⟩:=bind_some n
   refine c_call f (f61_ok fuel x1 c d l _ _ m o_x1 c_x1 (SliceR.mono (zt k1 O) hx_x1)) ?_
   rintro d l f ⟨g,C,D,Q,rfl,k⟩ c
   refine tv ?_
   refine c_t [] [0,1,2,8] c .nil fun c F=>?_
   refine c_seq ?_
   have p:=k.drew
   refine c_regD (rD 18 [15,17]) [15,17] (fun x=>x=l.drew) rfl ?_
   obtain ⟨d,c,n⟩:=bind_some n
   obtain ⟨z,A,B,c,rfl,g⟩:=p.ownGet (j:=0) rfl c
   obtain ⟨c,f,n⟩:=bind_some n
   obtain ⟨q,s,t,k,rfl,f⟩:=p.ownGet (j:=0) rfl f
   obtain ⟨k,o,n⟩:=bind_some n
   obtain ⟨k,m,l,u,rfl,y⟩:=p.ownGet (j:=0) rfl o
   refine c_E 15 [.pointer (some z),vI d.kind,vI d.lot,vI d.frm,vI d.to,vI d.mass, .pointer (some q),vI c.kind,vI c.lot,vI c.frm,vI c.to,vI c.mass, .pointer (some k)] [0,1,8,33,35,40,44,45] F (.prop A (.prop B (.cell (g 0 _ rfl) (.cell (g 1 _ rfl) (.cell (g 2 _ rfl) (.cell (g 3 _ rfl) (.cell (g 4 _ rfl) (.prop s (.prop t (.cell (f 0 _ rfl) (.cell (f 1 _ rfl) (.cell (f 2 _ rfl) (.cell (f 3 _ rfl) (.cell (f 4 _ rfl) (.prop m (.prop l .nil)))))))))))))))) .nil fun f q=>?_
   obtain ⟨g,f,n⟩:=bind_some n
   have l:=setI_len f
   refine p_setOwn (i:=15) (j:=0) (ad:=k) (ix:=x2) (off:=0) (vs:=[vI d.kind,vI d.lot,vI d.frm,vI d.to,vI d.mass]) (x':=(⟨d.kind,d.lot,d.frm,d.to,d.mass⟩:Deed)) p q rfl m o (by kernel_rfl) (by kernel_rfl) rfl f fun m o q f=>?_
   have p:=Fr.conv (fl':=[(0, .slice o_x0 x0.length c_x0),(1, .slice C g.length D),(8,pB P 0),(33, .slice C g.length D),(35,vI (w64 (x2 + (1:Int)))),(40, .agg #[vI d.kind,vI d.lot,vI d.frm,vI d.to,vI d.mass]),(44, .agg #[vI c.kind,vI c.lot,vI c.frm,vI c.to,vI c.mass]),(45, .pointer (some (k.add (Int.toNat x2 * 5))))]) f (by rw [l] <;> kernel_rfl)
   refine ⟨fun e=>absurd e (by decide),?_⟩
   obtain ⟨d,l,n⟩:=bind_some n
   obtain ⟨d,k,f,m,rfl,o⟩:=q.ownGet (j:=0) rfl l
   refine p_qP 1 [.pointer (some d)] [(0, .slice o_x0 x0.length c_x0),(1, .slice C g.length D),(8,pB P 0),(44, .agg #[vI c.kind,vI c.lot,vI c.frm,vI c.to,vI c.mass]),(46, .pointer (some (d.add (Int.toNat (w64 (x2 + (1:Int))) * 5))))] [.prop (C=some d), .prop (0≤(w64 (x2 + (1:Int)))∧(w64 (x2 + (1:Int)))<(g.length:Nat))] p (by kernel_rfl) (fun _=>(.prop k (.prop f .nil))) fun f m=>?_
   obtain ⟨o,f,n⟩:=bind_some n
   have g:=setI_len f
   refine p_setOwn (i:=17) (j:=0) (ad:=d) (ix:=(w64 (x2 + (1:Int)))) (off:=0) (vs:=[vI c.kind,vI c.lot,vI c.frm,vI c.to,vI c.mass]) (x':=(⟨c.kind,c.lot,c.frm,c.to,c.mass⟩:Deed)) q m rfl k l (by kernel_rfl) (by kernel_rfl) rfl f fun k l m f=>?_
   have c:=Fr.conv (fl':=[(0, .slice o_x0 x0.length c_x0),(1, .slice C o.length D),(8,pB P 0),(44, .agg #[vI c.kind,vI c.lot,vI c.frm,vI c.to,vI c.mass]),(46, .pointer (some (d.add (Int.toNat (w64 (x2 + (1:Int))) * 5))))]) f (by rw [g] <;> kernel_rfl)
   refine ⟨fun e=>absurd e (by decide),?_⟩
   refine c_dt (c_sr (c_n 2 [] [8,48,49] c .nil fun c l=>?_))
   obtain ⟨d,I,g,k⟩:=m.share (j:=0) rfl
   obtain ⟨f,c,E⟩:=bind_some n
   refine c_call l (f6_ok fuel x0 o f c d _ _ g o_x0 c_x0 (SliceR.mono (zt (zt (zt k1 O) Q) I) hx_x0) C D k) ?_
   rintro d g k ⟨H,m,o,p,q,s,t,u,y,z,A,B,J,rfl,l,M,G⟩ c
   refine tv ?_
   refine c_n 4 [] [8,51,52,53] c .nil fun d c=>?_
   refine c_box [N0,N0,N0,N0,N0,N0,N0,N0,N0,N0] 29 l c fun g c l d k=>tv ?_
   have c:=oneCells_of (Ty.one _ (Ty.mono _ zr G))
   refine p_store_eq (i:=8) (j:=0) (b:=g) (off:=0) (vs:=[.slice m f.1.length o,p,q,s,t,u,y,z,A,B]) (cs':=[.slice m f.1.length o,p,q,s,t,u,y,z,A,B]) d k rfl (by kernel_rfl) c rfl fun k l c d=>tv ?_
   refine c_t [] [8,10,11] d .nil fun d k=>?_
   refine c_mid (fun a w=>∃D:Zone,∃C:Bool,Zone.le H D∧Fr a 61 [(6, .bool C),(7,vI 0)]∧St D (box g [.slice m f.1.length o,p,q,s,t,u,y,z,A,B] 29::emp::box P [.slice R K.1.length S,T,U,V,W,X,Y,Z,v9,a0] 29::L) w∧(F26_j1 C)=some r) ?_ ?_
   ·skip
    refine c_reg (c_n 3 [] [8,11,56] k .nil fun d F=>?_)
    rcases bft (f.2.2.2 == (0:Int)) with g | g
    ·have n:=cond_t g E
     have d:=F.lit 56 g
     refine c_n 2 [.slice R K.1.length S,T,U,V,W,X,Y,Z,v9,a0, .slice m f.1.length o,p,q,s,t,u,y,z,A,B] [56,57,58] d (.cell (c.bx 2 0 rfl rfl) (.cell (c.bx 2 1 rfl rfl) (.cell (c.bx 2 2 rfl rfl) (.cell (c.bx 2 3 rfl rfl) (.cell (c.bx 2 4 rfl rfl) (.cell (c.bx 2 5 rfl rfl) (.cell (c.bx 2 6 rfl rfl) (.cell (c.bx 2 7 rfl rfl) (.cell (c.bx 2 8 rfl rfl) (.cell (c.bx 2 9 rfl rfl) (.cell (c.bx 0 0 rfl rfl) (.cell (c.bx 0 1 rfl rfl) (.cell (c.bx 0 2 rfl rfl) (.cell (c.bx 0 3 rfl rfl) (.cell (c.bx 0 4 rfl rfl) (.cell (c.bx 0 5 rfl rfl) (.cell (c.bx 0 6 rfl rfl) (.cell (c.bx 0 7 rfl rfl) (.cell (c.bx 0 8 rfl rfl) (.cell (c.bx 0 9 rfl rfl) .nil)))))))))))))))))))) fun d k=>?_
     obtain ⟨l,d,n⟩:=bind_some n
     refine c_call k (f62_ok fuel K.1 K.2.1 f.1 f.2.1 l d H _ _ c R S (SliceR.mono (zt (zt (zt O Q) I) J) a2) T U V W X Y Z v9 a0 (Ty.mono _ (zt (zt (zt O Q) I) J) a1) m o M p q s t u y z A B (Ty.mono _ zr G)) ?_
     rintro f k m ⟨o,p,rfl,q⟩ d
     refine tv ?_
     refine c_t [] [6,7] d .nil fun f d=>?_
     exact ⟨o,l,p,d.to,q,n⟩
    ·have n:=cond_f g E
     have d:=F.lit 56 g
     refine c_t [] [6,7] d .nil fun f d=>?_
     exact ⟨H,false,zr,d.to,c,n⟩
   ·rintro d f ⟨D,C,g,c,k,n⟩
    refine c_ret (c_rt [] (.tuple #[.bool C,vI 0]) c .nil ?_)
    obtain rfl:=some_eq n
    exact ⟨_,rfl,D,(zt (zt (zt (zt (zt k1 O) Q) I) J) g),rfl,(St.drop 3 k)⟩
def F7_j1 (k1:(List Lot)→(List (List (List Part)))→Int→Option (List Lot×List (List (List Part))×Int×Int)) (y1:Int) (y2:Int) (y3:List Lot) (y4:List (List (List Part))):Option (List Lot×List (List (List Part))×Int×Int) :=
  (cond (y2 != (0:Int)) (some ([],[[],[],[],[],[],[],[],[],[]],y1,y2)) (k1 y3 y4 (w64 (y1 + (1:Int)))))
def F7_l1 (fuel:Nat) (x1:List Deed):Nat→(List Lot)→(List (List (List Part)))→Int→Option (List Lot×List (List (List Part))×Int×Int)
  | 0,_,_,_=>none
  | n1 + 1,y5,y6,y1 =>
    let k1:(List Lot)→(List (List (List Part)))→Int→Option (List Lot×List (List (List Part))×Int×Int):=F7_l1 fuel x1 n1
    (cond (decide (y1<(x1.length:Int))) ((getI x1 y1).bind fun p1=>((F22 fuel y5 y6 p1.kind p1.lot p1.frm p1.to p1.mass).bind fun r1=>(F7_j1 k1 y1 r1.2.2.2 r1.1 r1.2.1))) (some (y5,y6,(x1.length:Int),0)))
def F7 (fuel:Nat) (x0:List Lot) (x1:List Deed):Option (List Lot×List (List (List Part))×Int×Int) :=
  ((F21 fuel x0).bind fun r2=>(cond (r2 != (0:Int)) (some ([],[[],[],[],[],[],[],[],[],[]],0,60)) (cond (decide ((x1.length:Int) > (60:Int))) (some ([],[[],[],[],[],[],[],[],[],[]],0,2)) ((appC ([]) x0).bind fun d1=>(F7_l1 fuel x1 fuel d1 ([[],[],[],[],[],[],[],[],[]]) 0)))))
set_option maxRecDepth 100000 in
theorem f7_ok (fuel:Nat) (x0:List Lot) (x1:List Deed) (r:List Lot×List (List (List Part))×Int×Int) (hr:F7 fuel x0 x1=some r) (h:Zone) (L:List Atom) (w:World) (hS:St h L w) (o_x0:Option Addr) (c_x0:Nat) (hx_x0:SliceR LotT h o_x0 c_x0 x0) (o_x1:Option Addr) (c_x1:Nat) (hx_x1:SliceR DeedT h o_x1 c_x1 x1) :
    Calls Tryz.prog 7 #[.slice o_x0 x0.length c_x0, .slice o_x1 x1.length c_x1] w fun e w'=>∃v,e= .returned v∧(∃h',∃o0:Option Addr,∃c0:Nat,∃v1_0:Value,∃v1_1:Value,∃v1_2:Value,∃v1_3:Value,∃v1_4:Value,∃v1_5:Value,∃v1_6:Value,∃v1_7:Value,∃v1_8:Value,Zone.le h h'∧v= .tuple #[.agg #[.slice o0 r.1.length c0,v1_0,v1_1,v1_2,v1_3,v1_4,v1_5,v1_6,v1_7,v1_8],vI r.2.2.1,vI r.2.2.2]∧St h' L w'∧SliceR LotT h' o0 c0 r.1∧(Ty.arr 9 (Ty.slice (Ty.slice PartT))).rep h' [v1_0,v1_1,v1_2,v1_3,v1_4,v1_5,v1_6,v1_7,v1_8] r.2.1):=by
 refine calls_intro (N:=49) Tryz.func7 (by kernel_rfl) fun a hf=>?_
 refine c_sr (c_box [N0,N0,N0,N0,N0,N0,N0,N0,N0,N0] 29 hS hf fun b1 m o k f=>tv (c_t [] [0,1,4] f .nil fun p g=>(c_seq (c_sr (c_n 1 [] [0,1,4,12] g .nil fun t l=>?_)))))
 obtain ⟨g,f,F⟩:=bind_some hr
 refine c_call l (f21_ok fuel x0 g f h _ _ k o_x0 c_x0 hx_x0) ?_
 rintro k l m ⟨z,k2,rfl,y⟩ f
 refine tv ?_
 refine c_t [] [0,1,4,14] f .nil fun f o=>?_
 refine c_if (g != (0:Int)) o (fun m=>?_) (fun m=>?_)
 ·have q:=cond_t m F
  refine c_sr (c_n 1 [] [4,15] o .nil fun p g=>(c_st 0 [N0,N0,N0,N0,N0,N0,N0,N0,N0,N0] y g rfl fun t u f k=>tv (c_t [] [4,5,6] k .nil fun x l=>(c_ret (r_then (c_rt [N0,N0,N0,N0,N0,N0,N0,N0,N0,N0] (.tuple #[.agg #[N0,N0,N0,N0,N0,N0,N0,N0,N0,N0],vI 0,vI 60]) l (.cell (f.bx 0 0 rfl rfl) (.cell (f.bx 0 1 rfl rfl) (.cell (f.bx 0 2 rfl rfl) (.cell (f.bx 0 3 rfl rfl) (.cell (f.bx 0 4 rfl rfl) (.cell (f.bx 0 5 rfl rfl) (.cell (f.bx 0 6 rfl rfl) (.cell (f.bx 0 7 rfl rfl) (.cell (f.bx 0 8 rfl rfl) (.cell (f.bx 0 9 rfl rfl) .nil)))))))))) ?_))))))
  obtain rfl:=some_eq q
  exact ⟨_,rfl,z,none,0,N0,N0,N0,N0,N0,N0,N0,N0,N0,k2,rfl,(St.drop 1 f),SliceR.nil' _ _,⟨rfl,(Rows.cons (c:=[_]) (sliceRep (SliceR.nil' _ _)) (Rows.cons (c:=[_]) (sliceRep (SliceR.nil' _ _)) (Rows.cons (c:=[_]) (sliceRep (SliceR.nil' _ _)) (Rows.cons (c:=[_]) (sliceRep (SliceR.nil' _ _)) (Rows.cons (c:=[_]) (sliceRep (SliceR.nil' _ _)) (Rows.cons (c:=[_]) (sliceRep (SliceR.nil' _ _)) (Rows.cons (c:=[_]) (sliceRep (SliceR.nil' _ _)) (Rows.cons (c:=[_]) (sliceRep (SliceR.nil' _ _)) (Rows.cons (c:=[_]) (sliceRep (SliceR.nil' _ _)) rfl)))))))))⟩⟩
 ·have F:=cond_f m F
  refine c_skip (n_then (c_seq (c_sq [] [0,1,4,18] o .nil fun f o=>(c_if (decide ((x1.length:Int) > (60:Int))) o (fun m=>?_) (fun m=>?_)))))
  ·have q:=cond_t m F
   refine c_sr (c_n 1 [] [4,19] o .nil fun p g=>(c_st 0 [N0,N0,N0,N0,N0,N0,N0,N0,N0,N0] y g rfl fun t u f k=>tv (c_t [] [4,5,6] k .nil fun x l=>(c_ret (r_then (c_rt [N0,N0,N0,N0,N0,N0,N0,N0,N0,N0] (.tuple #[.agg #[N0,N0,N0,N0,N0,N0,N0,N0,N0,N0],vI 0,vI 2]) l (.cell (f.bx 0 0 rfl rfl) (.cell (f.bx 0 1 rfl rfl) (.cell (f.bx 0 2 rfl rfl) (.cell (f.bx 0 3 rfl rfl) (.cell (f.bx 0 4 rfl rfl) (.cell (f.bx 0 5 rfl rfl) (.cell (f.bx 0 6 rfl rfl) (.cell (f.bx 0 7 rfl rfl) (.cell (f.bx 0 8 rfl rfl) (.cell (f.bx 0 9 rfl rfl) .nil)))))))))) ?_))))))
   obtain rfl:=some_eq q
   exact ⟨_,rfl,z,none,0,N0,N0,N0,N0,N0,N0,N0,N0,N0,k2,rfl,(St.drop 1 f),SliceR.nil' _ _,⟨rfl,(Rows.cons (c:=[_]) (sliceRep (SliceR.nil' _ _)) (Rows.cons (c:=[_]) (sliceRep (SliceR.nil' _ _)) (Rows.cons (c:=[_]) (sliceRep (SliceR.nil' _ _)) (Rows.cons (c:=[_]) (sliceRep (SliceR.nil' _ _)) (Rows.cons (c:=[_]) (sliceRep (SliceR.nil' _ _)) (Rows.cons (c:=[_]) (sliceRep (SliceR.nil' _ _)) (Rows.cons (c:=[_]) (sliceRep (SliceR.nil' _ _)) (Rows.cons (c:=[_]) (sliceRep (SliceR.nil' _ _)) (Rows.cons (c:=[_]) (sliceRep (SliceR.nil' _ _)) rfl)))))))))⟩⟩
  ·have q:=cond_f m F
   refine c_skip (n_then (c_sr (p_box (i:=0) (d:=(some 20)) (cs:=[]) (T:=43) (v:=fun f=> .slice (some ⟨f,0,none⟩) 0 0) y o (fun b=>by kernel_rfl) fun f l m g k=>tv ?_)))
   have f:=g.ownBox (T:=LotT) (E:=43) (n:=0) (xs:=[]) (i:=0) rfl rfl rfl (by decide)
   refine c_n 1 [] [1,4,20,21] k .nil fun g k=>?_
   obtain ⟨p,g,q⟩:=bind_some q
   refine p_append (T:=LotT) (i:=2) (j:=0) (d:=some 22) (o2:=o_x0) (c2:=c_x0) (ys:=x0) el22 f k rfl (by kernel_rfl) (SliceR.src (SliceR.mono k2 hx_x0) f) g fun m o k l g f=>tv ?_
   refine c_n 1 [] [1,4,23] f .nil fun k f=>?_
   refine c_box [N0,N0,N0,N0,N0,N0,N0,N0,N0,N0] 29 g f fun V k l f g=>tv ?_
   refine c_st 0 [.slice m p.length o,N0,N0,N0,N0,N0,N0,N0,N0,N0] f g rfl fun k l g f=>tv ?_
   refine c_dt (c_seq (c_sq [] [1,4,7,8] f .nil fun f l=>(c_block 0 ?_)))
   obtain ⟨f,k3,g,k⟩:=g.share (j:=1) rfl
   refine c_loop (fun n a w=>∃z3:Zone,∃W:List Lot,∃y6:List (List (List Part)),∃U:Int,∃X:Option Addr,∃Y:Nat,∃Z:Value,∃v3:Value,∃v4:Value,∃v5:Value,∃v6:Value,∃v7:Value,∃v8:Value,∃v9:Value,∃a0:Value,Zone.le f z3∧Fr a 49 [(1, .slice o_x1 x1.length c_x1),(4,pB b1 0),(7,pB V 0),(8,vI U)]∧St z3 (box V [.slice X W.length Y,Z,v3,v4,v5,v6,v7,v8,v9,a0] 29::emp::box b1 [N0,N0,N0,N0,N0,N0,N0,N0,N0,N0] 29::L) w∧SliceR LotT z3 X Y W∧(Ty.arr 9 (Ty.slice (Ty.slice PartT))).rep z3 [Z,v3,v4,v5,v6,v7,v8,v9,a0] y6∧(F7_l1 fuel x1 n W y6 U)=some r) fuel ⟨f,p,[[],[],[],[],[],[],[],[],[]],0,m,o,(N0),(N0),(N0),(N0),(N0),(N0),(N0),(N0),(N0),zr,l.to,g,k,⟨rfl,(Rows.cons (c:=[_]) (sliceRep (SliceR.nil' _ _)) (Rows.cons (c:=[_]) (sliceRep (SliceR.nil' _ _)) (Rows.cons (c:=[_]) (sliceRep (SliceR.nil' _ _)) (Rows.cons (c:=[_]) (sliceRep (SliceR.nil' _ _)) (Rows.cons (c:=[_]) (sliceRep (SliceR.nil' _ _)) (Rows.cons (c:=[_]) (sliceRep (SliceR.nil' _ _)) (Rows.cons (c:=[_]) (sliceRep (SliceR.nil' _ _)) (Rows.cons (c:=[_]) (sliceRep (SliceR.nil' _ _)) (Rows.cons (c:=[_]) (sliceRep (SliceR.nil' _ _)) rfl)))))))))⟩,q⟩ ?_
   rintro f g k ⟨z3,W,y6,U,X,Y,Z,v3,v4,v5,v6,v7,v8,v9,a0,k4,l,a2,af,ad,ai⟩
   cases f with
   | zero=>cases ai
   | succ n1 =>
   refine c_seq (c_sq [] [1,4,7,8,27] l .nil fun f ah=>(c_if (decide (U<(x1.length:Int))) ah (fun ag=>?_) (fun ag=>?_)))
   ·have q:=cond_t ag ai
    refine c_skip (n_then (c_seq (c_block 1 (c_mid (fun a w=>∃z4:Zone,∃y2:Int,∃y3:List Lot,∃y4:List (List (List Part)),∃b4:Nat,∃e3:Option Addr,∃q3:Nat,∃a3:Value,∃a4:Value,∃a5:Value,∃a6:Value,∃a7:Value,∃a8:Value,∃a9:Value,∃aa:Value,∃ab:Value,Zone.le z3 z4∧Fr a 49 [(1, .slice o_x1 x1.length c_x1),(4,pB b1 0),(7,pB V 0),(8,vI U),(9,pB b4 0),(11,vI y2)]∧St z4 (box b4 [.slice e3 y3.length q3,a3,a4,a5,a6,a7,a8,a9,aa,ab] 29::box V [.slice X W.length Y,Z,v3,v4,v5,v6,v7,v8,v9,a0] 29::emp::box b1 [N0,N0,N0,N0,N0,N0,N0,N0,N0,N0] 29::L) w∧SliceR LotT z4 e3 q3 y3∧(Ty.arr 9 (Ty.slice (Ty.slice PartT))).rep z4 [a3,a4,a5,a6,a7,a8,a9,aa,ab] y4∧(F7_j1 (F7_l1 fuel x1 n1) U y2 y3 y4)=some r) ?_ ?_))))
    ·skip
     have ac:=a2.drew
     have m:=Sub.of zr ac
     refine w_regB (by kernel_rfl) [5,12,13] (Sub z3 (box V [.slice X W.length Y,Z,v3,v4,v5,v6,v7,v8,v9,a0] 29::emp::box b1 [N0,N0,N0,N0,N0,N0,N0,N0,N0,N0] 29::L)) (by kernel_rfl) ?_
     refine k_seg' 10 [(0,true),(1,true),(2,true),(3,true),(4,true)] (by kernel_rfl) (by kernel_rfl) (At.start m) (by kernel_rfl) ?_
     obtain ⟨M,f,F⟩:=bind_some q
     obtain ⟨g,k,l,o,rfl,f⟩:=SliceR.getI (SliceR.mono (zt (zt k2 k3) k4) hx_x1) f
     refine c_S 5 [.slice X W.length Y,Z,v3,v4,v5,v6,v7,v8,v9,a0, .pointer (some g),vI M.kind,vI M.lot,vI M.frm,vI M.to,vI M.mass] [1,4,7,8,31,35] m ah (fun _ s=>(.cell (s.bx 0 0 rfl rfl) (.cell (s.bx 0 1 rfl rfl) (.cell (s.bx 0 2 rfl rfl) (.cell (s.bx 0 3 rfl rfl) (.cell (s.bx 0 4 rfl rfl) (.cell (s.bx 0 5 rfl rfl) (.cell (s.bx 0 6 rfl rfl) (.cell (s.bx 0 7 rfl rfl) (.cell (s.bx 0 8 rfl rfl) (.cell (s.bx 0 9 rfl rfl) (.prop k (.prop l (.cell (s.cell (f 0 _ rfl)) (.cell (s.cell (f 1 _ rfl)) (.cell (s.cell (f 2 _ rfl)) (.cell (s.cell (f 3 _ rfl)) (.cell (s.cell (f 4 _ rfl)) .nil)))))))))))))))))) .nil fun f ae=>?_
     refine c_done ?_
     intro f
     refine k_any' 9 [5,10,11] (by kernel_rfl) f (by kernel_rfl) (by kernel_rfl) ?_
     refine (all_cons ?_ (all_cons ?_ (all_cons ?_ all_nil)))
     ·skip
      obtain ⟨k,f,q⟩:=bind_some F
      refine c_call ae (f22_ok fuel W y6 M.kind M.lot M.frm M.to M.mass k f z3 _ _ ac X Y af Z v3 v4 v5 v6 v7 v8 v9 a0 (Ty.mono _ zr ad)) ?_
      rintro f g l ⟨R,u,x,y,z,A,B,C,D,G,H,I,O,P,t,rfl,Q,S,K,m⟩ o
      refine ⟨fun e=>absurd e (by decide),?_⟩
      refine c_done ?_
      intro f
      refine k_seg' 5 [(6,true),(7,true),(8,true),(9,true)] (by kernel_rfl) (by kernel_rfl) f (by kernel_rfl) ?_
      refine p_qP 4 [] [(1, .slice o_x1 x1.length c_x1),(4,pB b1 0),(7,pB V 0),(8,vI U),(37, .agg #[.slice u k.1.length x,y,z,A,B,C,D,G,H,I]),(38, .agg #[.slice O k.2.2.1.length P]),(39,vI k.2.2.2)] [] o (by kernel_rfl) (fun _=> .nil) fun f J=>?_
      refine c_done ?_
      intro f
      refine k_any' 4 [10,11] (by kernel_rfl) f (by kernel_rfl) (by kernel_rfl) ?_
      refine (all_cons ?_ (all_cons ?_ all_nil))
      ·skip
       refine c_box [N0,N0,N0,N0,N0,N0,N0,N0,N0,N0] 29 Q J fun p f l g m=>⟨fun _=>Sub.of t (St.drop 1 g),?_⟩
       refine c_done ?_
       intro f
       refine k_seg' 0 [(11,false),(12,false),(13,false),(14,true)] (by kernel_rfl) (by kernel_rfl) f (by kernel_rfl) ?_
       refine c_box [N0] 49 g m fun g l m f o=>⟨fun _=>Sub.of t (St.drop 2 f),?_⟩
       have g:=Sub.of t (St.drop 2 f)
       have g:=oneCells_of (Ty.one _ (Ty.mono _ zr K))
       refine p_store_eq (i:=12) (j:=1) (b:=p) (off:=0) (vs:=[.slice u k.1.length x,y,z,A,B,C,D,G,H,I]) (cs':=[.slice u k.1.length x,y,z,A,B,C,D,G,H,I]) f o rfl (by kernel_rfl) g rfl fun l m f g=>⟨fun e=>absurd e (by decide),?_⟩
       refine c_st 0 [.slice O k.2.2.1.length P] f g rfl fun g l m f=>⟨fun e=>absurd e (by decide),?_⟩
       refine p_qP 1 [] [(1, .slice o_x1 x1.length c_x1),(4,pB b1 0),(7,pB V 0),(8,vI U),(9,pB p 0),(11,vI k.2.2.2)] [] f (by kernel_rfl) (fun _=> .nil) fun f g=>?_
       refine c_done ?_
       intro f
       refine k_done' (by kernel_rfl) (by kernel_rfl) ?_
       refine n_then ?_
       exact ⟨R,k.2.2.2,k.1,k.2.1,p,u,x,y,z,A,B,C,D,G,H,I,t,g.to,(St.pick 2 [1] m (by kernel_rfl)),S,(Ty.mono _ zr K),q⟩
      ·skip
       refine c_box [N0] 49 Q J fun f l m g o=>⟨fun _=>Sub.of t (St.drop 1 g),?_⟩
       refine c_done ?_
       intro f
       refine k_seg' 0 [(10,false),(12,false),(13,false),(14,true)] (by kernel_rfl) (by kernel_rfl) f (by kernel_rfl) ?_
       refine c_box [N0,N0,N0,N0,N0,N0,N0,N0,N0,N0] 29 g o fun o g l f m=>⟨fun _=>Sub.of t (St.drop 2 f),?_⟩
       have g:=Sub.of t (St.drop 2 f)
       have g:=oneCells_of (Ty.one _ (Ty.mono _ zr K))
       refine p_store_eq (i:=12) (j:=0) (b:=o) (off:=0) (vs:=[.slice u k.1.length x,y,z,A,B,C,D,G,H,I]) (cs':=[.slice u k.1.length x,y,z,A,B,C,D,G,H,I]) f m rfl (by kernel_rfl) g rfl fun l m f g=>⟨fun e=>absurd e (by decide),?_⟩
       refine c_st 1 [.slice O k.2.2.1.length P] f g rfl fun g l m f=>⟨fun e=>absurd e (by decide),?_⟩
       refine p_qP 1 [] [(1, .slice o_x1 x1.length c_x1),(4,pB b1 0),(7,pB V 0),(8,vI U),(9,pB o 0),(11,vI k.2.2.2)] [] f (by kernel_rfl) (fun _=> .nil) fun f g=>?_
       refine c_done ?_
       intro f
       refine k_done' (by kernel_rfl) (by kernel_rfl) ?_
       refine n_then ?_
       exact ⟨R,k.2.2.2,k.1,k.2.1,o,u,x,y,z,A,B,C,D,G,H,I,t,g.to,(St.pick 2 [0] m (by kernel_rfl)),S,(Ty.mono _ zr K),q⟩
     ·skip
      refine c_box [N0,N0,N0,N0,N0,N0,N0,N0,N0,N0] 29 ac ae fun O f g Q a1=>⟨fun _=>Sub.of zr (St.drop 1 Q),?_⟩
      refine c_done ?_
      intro f
      have g:=Sub.of zr (St.drop 1 Q)
      refine k_seg' 9 [] (by kernel_rfl) (by kernel_rfl) f (by kernel_rfl) ?_
      refine c_done ?_
      intro f
      refine k_any' 8 [5,11] (by kernel_rfl) f (by kernel_rfl) (by kernel_rfl) ?_
      refine (all_cons ?_ (all_cons ?_ all_nil))
      ·skip
       obtain ⟨g,f,q⟩:=bind_some F
       refine c_call a1 (f22_ok fuel W y6 M.kind M.lot M.frm M.to M.mass g f z3 _ _ Q X Y af Z v3 v4 v5 v6 v7 v8 v9 a0 (Ty.mono _ zr ad)) ?_
       rintro f k l ⟨R,p,t,u,x,y,z,A,B,C,D,G,H,I,K,rfl,J,S,P,m⟩ o
       refine ⟨fun e=>absurd e (by decide),?_⟩
       refine c_done ?_
       intro f
       refine k_seg' 0 [(6,true),(7,true),(8,true),(9,true),(11,false),(12,false),(13,false),(14,true)] (by kernel_rfl) (by kernel_rfl) f (by kernel_rfl) ?_
       refine p_qP 4 [] [(1, .slice o_x1 x1.length c_x1),(4,pB b1 0),(7,pB V 0),(8,vI U),(9,pB O 0),(37, .agg #[.slice p g.1.length t,u,x,y,z,A,B,C,D,G]),(38, .agg #[.slice H g.2.2.1.length I]),(39,vI g.2.2.2)] [] o (by kernel_rfl) (fun _=> .nil) fun k f=>?_
       refine c_box [N0] 49 J f fun k l m f o=>⟨fun _=>Sub.of K (St.drop 2 f),?_⟩
       have k:=Sub.of K (St.drop 2 f)
       have k:=oneCells_of (Ty.one _ (Ty.mono _ zr P))
       refine p_store_eq (i:=12) (j:=1) (b:=O) (off:=0) (vs:=[.slice p g.1.length t,u,x,y,z,A,B,C,D,G]) (cs':=[.slice p g.1.length t,u,x,y,z,A,B,C,D,G]) f o rfl (by kernel_rfl) k rfl fun l m f k=>⟨fun e=>absurd e (by decide),?_⟩
       refine c_st 0 [.slice H g.2.2.1.length I] f k rfl fun k l m f=>⟨fun e=>absurd e (by decide),?_⟩
       refine p_qP 1 [] [(1, .slice o_x1 x1.length c_x1),(4,pB b1 0),(7,pB V 0),(8,vI U),(9,pB O 0),(11,vI g.2.2.2)] [] f (by kernel_rfl) (fun _=> .nil) fun f k=>?_
       refine c_done ?_
       intro f
       refine k_done' (by kernel_rfl) (by kernel_rfl) ?_
       refine n_then ?_
       exact ⟨R,g.2.2.2,g.1,g.2.1,O,p,t,u,x,y,z,A,B,C,D,G,K,k.to,(St.pick 2 [1] m (by kernel_rfl)),S,(Ty.mono _ zr P),q⟩
      ·skip
       refine c_box [N0] 49 Q a1 fun P f g k l=>⟨fun _=>Sub.of zr (St.drop 2 k),?_⟩
       refine c_done ?_
       intro f
       have g:=Sub.of zr (St.drop 2 k)
       refine k_seg' 0 [(5,false),(6,true),(7,true),(8,true),(9,true),(12,false),(13,false),(14,true)] (by kernel_rfl) (by kernel_rfl) f (by kernel_rfl) ?_
       obtain ⟨f,g,q⟩:=bind_some F
       refine c_call l (f22_ok fuel W y6 M.kind M.lot M.frm M.to M.mass f g z3 _ _ k X Y af Z v3 v4 v5 v6 v7 v8 v9 a0 (Ty.mono _ zr ad)) ?_
       rintro k G H ⟨Q,o,p,t,u,x,y,z,A,B,C,D,l,m,R,rfl,J,S,K,I⟩ g
       refine ⟨fun e=>absurd e (by decide),?_⟩
       refine p_qP 4 [] [(1, .slice o_x1 x1.length c_x1),(4,pB b1 0),(7,pB V 0),(8,vI U),(9,pB O 0),(10,pB P 0),(37, .agg #[.slice o f.1.length p,t,u,x,y,z,A,B,C,D]),(38, .agg #[.slice l f.2.2.1.length m]),(39,vI f.2.2.2)] [] g (by kernel_rfl) (fun _=> .nil) fun g k=>?_
       have g:=oneCells_of (Ty.one _ (Ty.mono _ zr K))
       refine p_store_eq (i:=12) (j:=1) (b:=O) (off:=0) (vs:=[.slice o f.1.length p,t,u,x,y,z,A,B,C,D]) (cs':=[.slice o f.1.length p,t,u,x,y,z,A,B,C,D]) J k rfl (by kernel_rfl) g rfl fun G H g k=>⟨fun e=>absurd e (by decide),?_⟩
       refine c_st 0 [.slice l f.2.2.1.length m] g k rfl fun k l m g=>⟨fun e=>absurd e (by decide),?_⟩
       refine p_qP 1 [] [(1, .slice o_x1 x1.length c_x1),(4,pB b1 0),(7,pB V 0),(8,vI U),(9,pB O 0),(11,vI f.2.2.2)] [] g (by kernel_rfl) (fun _=> .nil) fun g k=>?_
       refine c_done ?_
       intro g
       refine k_done' (by kernel_rfl) (by kernel_rfl) ?_
       refine n_then ?_
       exact ⟨Q,f.2.2.2,f.1,f.2.1,O,o,p,t,u,x,y,z,A,B,C,D,R,k.to,(St.pick 2 [1] m (by kernel_rfl)),S,(Ty.mono _ zr K),q⟩
     ·skip
      refine c_box [N0] 49 ac ae fun a1 f g P S=>⟨fun _=>Sub.of zr (St.drop 1 P),?_⟩
      refine c_done ?_
      intro f
      have g:=Sub.of zr (St.drop 1 P)
      refine k_seg' 9 [] (by kernel_rfl) (by kernel_rfl) f (by kernel_rfl) ?_
      refine c_done ?_
      intro f
      refine k_any' 8 [5,10] (by kernel_rfl) f (by kernel_rfl) (by kernel_rfl) ?_
      refine (all_cons ?_ (all_cons ?_ all_nil))
      ·skip
       obtain ⟨g,f,q⟩:=bind_some F
       refine c_call S (f22_ok fuel W y6 M.kind M.lot M.frm M.to M.mass g f z3 _ _ P X Y af Z v3 v4 v5 v6 v7 v8 v9 a0 (Ty.mono _ zr ad)) ?_
       rintro f k l ⟨Q,p,t,u,x,y,z,A,B,C,D,G,H,I,K,rfl,J,R,O,m⟩ o
       refine ⟨fun e=>absurd e (by decide),?_⟩
       refine c_done ?_
       intro f
       refine k_seg' 0 [(6,true),(7,true),(8,true),(9,true),(10,false),(12,false),(13,false),(14,true)] (by kernel_rfl) (by kernel_rfl) f (by kernel_rfl) ?_
       refine p_qP 4 [] [(1, .slice o_x1 x1.length c_x1),(4,pB b1 0),(7,pB V 0),(8,vI U),(10,pB a1 0),(37, .agg #[.slice p g.1.length t,u,x,y,z,A,B,C,D,G]),(38, .agg #[.slice H g.2.2.1.length I]),(39,vI g.2.2.2)] [] o (by kernel_rfl) (fun _=> .nil) fun k f=>?_
       refine c_box [N0,N0,N0,N0,N0,N0,N0,N0,N0,N0] 29 J f fun o k l f m=>⟨fun _=>Sub.of K (St.drop 2 f),?_⟩
       have k:=Sub.of K (St.drop 2 f)
       have k:=oneCells_of (Ty.one _ (Ty.mono _ zr O))
       refine p_store_eq (i:=12) (j:=0) (b:=o) (off:=0) (vs:=[.slice p g.1.length t,u,x,y,z,A,B,C,D,G]) (cs':=[.slice p g.1.length t,u,x,y,z,A,B,C,D,G]) f m rfl (by kernel_rfl) k rfl fun l m f k=>⟨fun e=>absurd e (by decide),?_⟩
       refine c_st 1 [.slice H g.2.2.1.length I] f k rfl fun k l m f=>⟨fun e=>absurd e (by decide),?_⟩
       refine p_qP 1 [] [(1, .slice o_x1 x1.length c_x1),(4,pB b1 0),(7,pB V 0),(8,vI U),(9,pB o 0),(11,vI g.2.2.2)] [] f (by kernel_rfl) (fun _=> .nil) fun f k=>?_
       refine c_done ?_
       intro f
       refine k_done' (by kernel_rfl) (by kernel_rfl) ?_
       refine n_then ?_
       exact ⟨Q,g.2.2.2,g.1,g.2.1,o,p,t,u,x,y,z,A,B,C,D,G,K,k.to,(St.pick 2 [0] m (by kernel_rfl)),R,(Ty.mono _ zr O),q⟩
      ·skip
       refine c_box [N0,N0,N0,N0,N0,N0,N0,N0,N0,N0] 29 P S fun K f g k l=>⟨fun _=>Sub.of zr (St.drop 2 k),?_⟩
       refine c_done ?_
       intro f
       have g:=Sub.of zr (St.drop 2 k)
       refine k_seg' 0 [(5,false),(6,true),(7,true),(8,true),(9,true),(12,false),(13,false),(14,true)] (by kernel_rfl) (by kernel_rfl) f (by kernel_rfl) ?_
       obtain ⟨f,g,q⟩:=bind_some F
       refine c_call l (f22_ok fuel W y6 M.kind M.lot M.frm M.to M.mass f g z3 _ _ k X Y af Z v3 v4 v5 v6 v7 v8 v9 a0 (Ty.mono _ zr ad)) ?_
       rintro k G H ⟨O,o,p,t,u,x,y,z,A,B,C,D,l,m,P,rfl,J,Q,M,I⟩ g
       refine ⟨fun e=>absurd e (by decide),?_⟩
       refine p_qP 4 [] [(1, .slice o_x1 x1.length c_x1),(4,pB b1 0),(7,pB V 0),(8,vI U),(9,pB K 0),(10,pB a1 0),(37, .agg #[.slice o f.1.length p,t,u,x,y,z,A,B,C,D]),(38, .agg #[.slice l f.2.2.1.length m]),(39,vI f.2.2.2)] [] g (by kernel_rfl) (fun _=> .nil) fun g k=>?_
       have g:=oneCells_of (Ty.one _ (Ty.mono _ zr M))
       refine p_store_eq (i:=12) (j:=0) (b:=K) (off:=0) (vs:=[.slice o f.1.length p,t,u,x,y,z,A,B,C,D]) (cs':=[.slice o f.1.length p,t,u,x,y,z,A,B,C,D]) J k rfl (by kernel_rfl) g rfl fun G H g k=>⟨fun e=>absurd e (by decide),?_⟩
       refine c_st 1 [.slice l f.2.2.1.length m] g k rfl fun k l m g=>⟨fun e=>absurd e (by decide),?_⟩
       refine p_qP 1 [] [(1, .slice o_x1 x1.length c_x1),(4,pB b1 0),(7,pB V 0),(8,vI U),(9,pB K 0),(11,vI f.2.2.2)] [] g (by kernel_rfl) (fun _=> .nil) fun g k=>?_
       refine c_done ?_
       intro g
       refine k_done' (by kernel_rfl) (by kernel_rfl) ?_
       refine n_then ?_
       exact ⟨O,f.2.2.2,f.1,f.2.1,K,o,p,t,u,x,y,z,A,B,C,D,P,k.to,(St.pick 2 [0] m (by kernel_rfl)),Q,(Ty.mono _ zr M),q⟩
    ·rintro k l ⟨z4,y2,y3,y4,b4,e3,q3,a3,a4,a5,a6,a7,a8,a9,aa,ab,z,f,g,B,A,F⟩
     refine c_seq (c_sq [] [1,4,7,8,9,11,41] f .nil fun f p=>(c_if (y2 != (0:Int)) p (fun o=>?_) (fun o=>?_)))
     ·have q:=cond_t o F
      refine c_sr (c_n 3 [] [4,42,43,44] p .nil fun t k=>(c_st 3 [N0,N0,N0,N0,N0,N0,N0,N0,N0,N0] g k rfl fun u x f l=>tv (c_t [] [4,5,6] l .nil fun y m=>(c_ret (r_then (r_block (r_then (r_then (r_block (r_then (c_rt [N0,N0,N0,N0,N0,N0,N0,N0,N0,N0] (.tuple #[.agg #[N0,N0,N0,N0,N0,N0,N0,N0,N0,N0],vI U,vI y2]) m (.cell (f.bx 3 0 rfl rfl) (.cell (f.bx 3 1 rfl rfl) (.cell (f.bx 3 2 rfl rfl) (.cell (f.bx 3 3 rfl rfl) (.cell (f.bx 3 4 rfl rfl) (.cell (f.bx 3 5 rfl rfl) (.cell (f.bx 3 6 rfl rfl) (.cell (f.bx 3 7 rfl rfl) (.cell (f.bx 3 8 rfl rfl) (.cell (f.bx 3 9 rfl rfl) .nil)))))))))) ?_)))))))))))
      obtain rfl:=some_eq q
      exact ⟨_,rfl,z4,none,0,N0,N0,N0,N0,N0,N0,N0,N0,N0,(zt (zt (zt k2 k3) k4) z),rfl,(St.drop 4 f),SliceR.nil' _ _,⟨rfl,(Rows.cons (c:=[_]) (sliceRep (SliceR.nil' _ _)) (Rows.cons (c:=[_]) (sliceRep (SliceR.nil' _ _)) (Rows.cons (c:=[_]) (sliceRep (SliceR.nil' _ _)) (Rows.cons (c:=[_]) (sliceRep (SliceR.nil' _ _)) (Rows.cons (c:=[_]) (sliceRep (SliceR.nil' _ _)) (Rows.cons (c:=[_]) (sliceRep (SliceR.nil' _ _)) (Rows.cons (c:=[_]) (sliceRep (SliceR.nil' _ _)) (Rows.cons (c:=[_]) (sliceRep (SliceR.nil' _ _)) (Rows.cons (c:=[_]) (sliceRep (SliceR.nil' _ _)) rfl)))))))))⟩⟩
     ·have q:=cond_f o F
      refine c_skip (n_then (c_reg (c_n 1 [.slice e3 y3.length q3,a3,a4,a5,a6,a7,a8,a9,aa,ab] [1,4,7,8,45] p (.cell (g.bx 0 0 rfl rfl) (.cell (g.bx 0 1 rfl rfl) (.cell (g.bx 0 2 rfl rfl) (.cell (g.bx 0 3 rfl rfl) (.cell (g.bx 0 4 rfl rfl) (.cell (g.bx 0 5 rfl rfl) (.cell (g.bx 0 6 rfl rfl) (.cell (g.bx 0 7 rfl rfl) (.cell (g.bx 0 8 rfl rfl) (.cell (g.bx 0 9 rfl rfl) .nil)))))))))) fun f k=>?_)))
      have f:=oneCells_of (Ty.one _ (Ty.mono _ zr A))
      refine p_store_eq (i:=1) (j:=1) (b:=V) (off:=0) (vs:=[.slice e3 y3.length q3,a3,a4,a5,a6,a7,a8,a9,aa,ab]) (cs':=[.slice e3 y3.length q3,a3,a4,a5,a6,a7,a8,a9,aa,ab]) g k rfl (by kernel_rfl) f rfl fun k l g f=>tv ?_
      refine c_done (n_block (n_then (c_q [] [1,4,7,8] f .nil fun k f=>(n_then ?_))))
      exact ⟨n1,Nat.lt_succ_self n1,z4,y3,y4,(w64 (U + (1:Int))),e3,q3,a3,a4,a5,a6,a7,a8,a9,aa,ab,(zt k4 z),f.to,(St.drop 1 g),B,(Ty.mono _ zr A),q⟩
   ·have q:=cond_f ag ai
    refine c_exit 0 (x_then (x_then (x_block (n_then (c_sr (c_n 3 [.slice X W.length Y,Z,v3,v4,v5,v6,v7,v8,v9,a0] [4,46,48] ah (.cell (a2.bx 0 0 rfl rfl) (.cell (a2.bx 0 1 rfl rfl) (.cell (a2.bx 0 2 rfl rfl) (.cell (a2.bx 0 3 rfl rfl) (.cell (a2.bx 0 4 rfl rfl) (.cell (a2.bx 0 5 rfl rfl) (.cell (a2.bx 0 6 rfl rfl) (.cell (a2.bx 0 7 rfl rfl) (.cell (a2.bx 0 8 rfl rfl) (.cell (a2.bx 0 9 rfl rfl) .nil)))))))))) fun f g=>?_))))))
    have f:=oneCells_of (Ty.one _ (Ty.mono _ zr ad))
    refine p_store_eq (i:=3) (j:=2) (b:=b1) (off:=0) (vs:=[.slice X W.length Y,Z,v3,v4,v5,v6,v7,v8,v9,a0]) (cs':=[.slice X W.length Y,Z,v3,v4,v5,v6,v7,v8,v9,a0]) a2 g rfl (by kernel_rfl) f rfl fun k l f g=>tv ?_
    refine c_t [] [4,5,6] g .nil fun k g=>?_
    refine c_ret (c_rt [.slice X W.length Y,Z,v3,v4,v5,v6,v7,v8,v9,a0] (.tuple #[.agg #[.slice X W.length Y,Z,v3,v4,v5,v6,v7,v8,v9,a0],vI (x1.length:Int),vI 0]) g (.cell (f.bx 2 0 rfl rfl) (.cell (f.bx 2 1 rfl rfl) (.cell (f.bx 2 2 rfl rfl) (.cell (f.bx 2 3 rfl rfl) (.cell (f.bx 2 4 rfl rfl) (.cell (f.bx 2 5 rfl rfl) (.cell (f.bx 2 6 rfl rfl) (.cell (f.bx 2 7 rfl rfl) (.cell (f.bx 2 8 rfl rfl) (.cell (f.bx 2 9 rfl rfl) .nil)))))))))) ?_)
    obtain rfl:=some_eq q
    exact ⟨_,rfl,z3,X,Y,Z,v3,v4,v5,v6,v7,v8,v9,a0,(zt (zt k2 k3) k4),rfl,(St.drop 3 f),af,(Ty.mono _ zr ad)⟩
def F23_l1 (x0:List Part) (x1:List Part):Nat→Int→Option (Bool)
  | 0,_=>none
  | n1 + 1,y1 =>
    let k1:Int→Option (Bool):=F23_l1 x0 x1 n1
    (cond (decide (y1<(x0.length:Int))) ((getI x0 y1).bind fun p1=>((getI x1 y1).bind fun p2=>(cond (!((p1.lot == p2.lot) && ((p1.mass == p2.mass) && true))) (some (false)) (k1 (w64 (y1 + (1:Int))))))) (some (true)))
def F23 (fuel:Nat) (x0:List Part) (x1:List Part):Option (Bool) :=
  (cond ((x0.length:Int) != (x1.length:Int)) (some (false)) (F23_l1 x0 x1 fuel 0))
set_option maxRecDepth 100000 in
theorem f23_ok (fuel:Nat) (x0:List Part) (x1:List Part) (r:Bool) (hr:F23 fuel x0 x1=some r) (h:Zone) (L:List Atom) (w:World) (hS:St h L w) (o_x0:Option Addr) (c_x0:Nat) (hx_x0:SliceR PartT h o_x0 c_x0 x0) (o_x1:Option Addr) (c_x1:Nat) (hx_x1:SliceR PartT h o_x1 c_x1 x1) :
    Calls Tryz.prog 23 #[.agg #[.slice o_x0 x0.length c_x0], .agg #[.slice o_x1 x1.length c_x1]] w fun e w'=>∃v,e= .returned v∧(∃h',Zone.le h h'∧v= .bool r∧St h' L w'):=by
 refine calls_intro (N:=31) Tryz.func23 (by kernel_rfl) fun a hf=>?_
 refine c_sr (c_box [.slice o_x0 x0.length c_x0] 49 hS hf fun t l m b c=>tv (c_box [.slice o_x1 x1.length c_x1] 49 b c fun u o p g d=>tv (c_t [] [2,3] d .nil fun q f=>(c_seq (c_sq [.slice o_x0 x0.length c_x0, .slice o_x1 x1.length c_x1] [2,3,12] f (.cell (g.bx 1 0 rfl rfl) (.cell (g.bx 0 0 rfl rfl) .nil)) fun s k=>(c_if ((x0.length:Int) != (x1.length:Int)) k (fun j=>?_) (fun j=>?_)))))))
 ·have i:=cond_t j hr
  refine c_sq [] [4] k .nil fun c b=>?_
  refine c_ret (r_then (c_rt [] (.bool false) b .nil ?_))
  obtain rfl:=some_eq i
  exact ⟨_,rfl,h,zr,rfl,(St.drop 2 g)⟩
 ·have i:=cond_f j hr
  refine c_skip (n_then (c_seq (c_sq [] [2,3,5] k .nil fun c b=>(c_block 0 (c_loop (fun n a w=>∃s:Zone,∃y:Int,Zone.le h s∧Fr a 31 [(2,pB t 0),(3,pB u 0),(5,vI y)]∧St s (box u [.slice o_x1 x1.length c_x1] 49::box t [.slice o_x0 x0.length c_x0] 49::L) w∧(F23_l1 x0 x1 n y)=some r) fuel ⟨h,0,zr,b.to,g,i⟩ ?_)))))
  rintro b c d ⟨s,y,t,f,B,A⟩
  cases b with
  | zero=>cases A
  | succ C =>
  refine c_seq (c_sq [.slice o_x0 x0.length c_x0] [2,3,5,17] f (.cell (B.bx 1 0 rfl rfl) .nil) fun b z=>(c_if (decide (y<(x0.length:Int))) z (fun u=>?_) (fun u=>?_)))
  ·have i:=cond_t u A
   refine c_skip (n_then (c_seq (c_block 1 ?_)))
   have f:=B.drew
   obtain ⟨d,b,i⟩:=bind_some i
   obtain ⟨m,o,p,b,rfl,g⟩:=SliceR.getI (SliceR.mono t hx_x0) b
   obtain ⟨b,c,x⟩:=bind_some i
   obtain ⟨j,k,l,q,rfl,c⟩:=SliceR.getI (SliceR.mono t hx_x1) c
   refine c_sqD [(0,true),(1,true),(2,true),(3,true),(4,true),(5,true),(6,true),(7,true),(8,true),(9,true),(10,true)] [] [.slice o_x0 x0.length c_x0, .pointer (some m),vI d.lot,vI d.mass, .slice o_x1 x1.length c_x1, .pointer (some j),vI b.lot,vI b.mass] [2,3,5,30] z (.cell (f.bx 1 0 rfl rfl) (.prop o (.prop p (.cell (f.cell (g 0 _ rfl)) (.cell (f.cell (g 1 _ rfl)) (.cell (f.bx 0 0 rfl rfl) (.prop k (.prop l (.cell (f.cell (c 0 _ rfl)) (.cell (f.cell (c 1 _ rfl)) .nil)))))))))) .nil fun c g=>?_
   refine c_if (!((d.lot == b.lot) && ((d.mass == b.mass) && true))) g (fun c=>?_) (fun c=>?_)
   ·have i:=cond_t c x
    refine c_sq [] [4] g .nil fun d b=>?_
    refine c_ret (r_block (r_then (r_then (r_block (r_then (c_rt [] (.bool false) b .nil ?_))))))
    obtain rfl:=some_eq i
    exact ⟨_,rfl,s,t,rfl,(St.drop 2 f)⟩
   ·have i:=cond_f c x
    refine c_skip (n_block (n_then (c_q [] [2,3,5] g .nil fun c b=>(n_then ?_))))
    exact ⟨C,Nat.lt_succ_self C,s,(w64 (y + (1:Int))),t,b.to,f,i⟩
  ·have i:=cond_f u A
   refine c_exit 0 (x_then (x_then (x_block (n_then (c_sq [] [4] z .nil fun c b=>(c_ret (c_rt [] (.bool true) b .nil ?_)))))))
   obtain rfl:=some_eq i
   exact ⟨_,rfl,s,t,rfl,(St.drop 2 B)⟩
def F8_l3 (fuel:Nat) (k1:Int→Option (Bool)) (x0h:List (List (List Part))) (x1h:List (List (List Part))) (y1:Int):Nat→Int→Option (Bool)
  | 0,_=>none
  | n1 + 1,y2 =>
    let k2:Int→Option (Bool):=F8_l3 fuel k1 x0h x1h y1 n1
    ((getI x0h y1).bind fun p1=>(cond (decide (y2<(p1.length:Int))) ((getI x0h y1).bind fun p2=>((getI p2 y2).bind fun p3=>((getI x1h y1).bind fun p4=>((getI p4 y2).bind fun p5=>((F23 fuel p3 p5).bind fun r1=>(cond (!r1) (some (false)) (k2 (w64 (y2 + (1:Int)))))))))) (k1 (w64 (y1 + (1:Int))))))
def F8_l2 (fuel:Nat) (x0h:List (List (List Part))) (x1h:List (List (List Part))):Nat→Int→Option (Bool)
  | 0,_=>none
  | n2 + 1,y1 =>
    let k1:Int→Option (Bool):=F8_l2 fuel x0h x1h n2
    (cond (decide (y1<(9:Int))) ((getI x0h y1).bind fun p6=>((getI x1h y1).bind fun p7=>(cond ((p6.length:Int) != (p7.length:Int)) (some (false)) (F8_l3 fuel k1 x0h x1h y1 fuel 0)))) (some (true)))
def F8_l1 (fuel:Nat) (x0l:List Lot) (x0h:List (List (List Part))) (x1l:List Lot) (x1h:List (List (List Part))):Nat→Int→Option (Bool)
  | 0,_=>none
  | n3 + 1,y3 =>
    let k3:Int→Option (Bool):=F8_l1 fuel x0l x0h x1l x1h n3
    (cond (decide (y3<(x0l.length:Int))) ((getI x0l y3).bind fun p8=>((getI x1l y3).bind fun p9=>(cond (!((p8.id == p9.id) && ((p8.owner == p9.owner) && ((p8.grade == p9.grade) && ((p8.wet == p9.wet) && true))))) (some (false)) (k3 (w64 (y3 + (1:Int))))))) (F8_l2 fuel x0h x1h fuel 0))
def F8 (fuel:Nat) (x0l:List Lot) (x0h:List (List (List Part))) (x1l:List Lot) (x1h:List (List (List Part))):Option (Bool) :=
  (cond ((x0l.length:Int) != (x1l.length:Int)) (some (false)) (F8_l1 fuel x0l x0h x1l x1h fuel 0))
set_option maxRecDepth 100000 in
theorem f8_ok (fuel:Nat) (x0l:List Lot) (x0h:List (List (List Part))) (x1l:List Lot) (x1h:List (List (List Part))) (r:Bool) (hr:F8 fuel x0l x0h x1l x1h=some r) (h:Zone) (L:List Atom) (w:World) (hS:St h L w) (o_x0l:Option Addr) (c_x0l:Nat) (hx_x0l:SliceR LotT h o_x0l c_x0l x0l) (V00 V01 V02 V03 V04 V05 V06 V07 V08:Value) (hx_x0h:(Ty.arr 9 (Ty.slice (Ty.slice PartT))).rep h [V00,V01,V02,V03,V04,V05,V06,V07,V08] x0h) (o_x1l:Option Addr) (c_x1l:Nat) (hx_x1l:SliceR LotT h o_x1l c_x1l x1l) (V10 V11 V12 V13 V14 V15 V16 V17 V18:Value) (hx_x1h:(Ty.arr 9 (Ty.slice (Ty.slice PartT))).rep h [V10,V11,V12,V13,V14,V15,V16,V17,V18] x1h) :
    Calls Tryz.prog 8 #[.agg #[.slice o_x0l x0l.length c_x0l,V00,V01,V02,V03,V04,V05,V06,V07,V08], .agg #[.slice o_x1l x1l.length c_x1l,V10,V11,V12,V13,V14,V15,V16,V17,V18]] w fun e w'=>∃v,e= .returned v∧(∃h',Zone.le h h'∧v= .bool r∧St h' L w'):=by
 refine calls_intro (N:=75) Tryz.func8 (by kernel_rfl) fun a hf=>?_
 refine c_sr (c_box [.slice o_x0l x0l.length c_x0l,V00,V01,V02,V03,V04,V05,V06,V07,V08] 29 hS hf fun V m o b c=>tv (c_box [.slice o_x1l x1l.length c_x1l,V10,V11,V12,V13,V14,V15,V16,V17,V18] 29 b c fun X p q g d=>tv (c_t [] [2,3] d .nil fun s f=>(c_seq (c_sq [.slice o_x0l x0l.length c_x0l, .slice o_x1l x1l.length c_x1l] [2,3,15] f (.cell (g.bx 1 0 rfl rfl) (.cell (g.bx 0 0 rfl rfl) .nil)) fun t l=>(c_if ((x0l.length:Int) != (x1l.length:Int)) l (fun k=>?_) (fun k=>?_)))))))
 ·have j:=cond_t k hr
  refine c_sq [] [4] l .nil fun c b=>?_
  refine c_ret (r_then (c_rt [] (.bool false) b .nil ?_))
  obtain rfl:=some_eq j
  exact ⟨_,rfl,h,zr,rfl,(St.drop 2 g)⟩
 ·have j:=cond_f k hr
  refine c_skip (n_then (c_seq (c_sq [] [2,3,5] l .nil fun c b=>(c_block 0 (c_loop (fun n a w=>∃t:Zone,∃y:Int,Zone.le h t∧Fr a 75 [(2,pB V 0),(3,pB X 0),(5,vI y)]∧St t (box X [.slice o_x1l x1l.length c_x1l,V10,V11,V12,V13,V14,V15,V16,V17,V18] 29::box V [.slice o_x0l x0l.length c_x0l,V00,V01,V02,V03,V04,V05,V06,V07,V08] 29::L) w∧(F8_l1 fuel x0l x0h x1l x1h n y)=some r) fuel ⟨h,0,zr,b.to,g,j⟩ ?_)))))
  rintro b c d ⟨t,y,S,f,B,I⟩
  cases b with
  | zero=>cases I
  | succ C =>
  refine c_seq (c_sq [.slice o_x0l x0l.length c_x0l] [2,3,5,20] f (.cell (B.bx 1 0 rfl rfl) .nil) fun b A=>(c_if (decide (y<(x0l.length:Int))) A (fun z=>?_) (fun z=>?_)))
  ·have j:=cond_t z I
   refine c_skip (n_then (c_seq (c_block 1 ?_)))
   have g:=B.drew
   obtain ⟨d,b,j⟩:=bind_some j
   obtain ⟨o,p,q,b,rfl,f⟩:=SliceR.getI (SliceR.mono S hx_x0l) b
   obtain ⟨b,c,u⟩:=bind_some j
   obtain ⟨k,l,m,s,rfl,c⟩:=SliceR.getI (SliceR.mono S hx_x1l) c
   refine c_sqD [(0,true),(1,true),(2,true),(3,true),(4,true),(5,true),(6,true),(7,true),(8,true),(9,true),(10,true)] [] [.slice o_x0l x0l.length c_x0l, .pointer (some o),vI d.id,vI d.owner,vI d.grade,vI d.wet, .slice o_x1l x1l.length c_x1l, .pointer (some k),vI b.id,vI b.owner,vI b.grade,vI b.wet] [2,3,5,33] A (.cell (g.bx 1 0 rfl rfl) (.prop p (.prop q (.cell (g.cell (f 0 _ rfl)) (.cell (g.cell (f 1 _ rfl)) (.cell (g.cell (f 2 _ rfl)) (.cell (g.cell (f 3 _ rfl)) (.cell (g.bx 0 0 rfl rfl) (.prop l (.prop m (.cell (g.cell (c 0 _ rfl)) (.cell (g.cell (c 1 _ rfl)) (.cell (g.cell (c 2 _ rfl)) (.cell (g.cell (c 3 _ rfl)) .nil)))))))))))))) .nil fun c f=>?_
   refine c_if (!((d.id == b.id) && ((d.owner == b.owner) && ((d.grade == b.grade) && ((d.wet == b.wet) && true))))) f (fun c=>?_) (fun c=>?_)
   ·have j:=cond_t c u
    refine c_sq [] [4] f .nil fun d b=>?_
    refine c_ret (r_block (r_then (r_then (r_block (r_then (c_rt [] (.bool false) b .nil ?_))))))
    obtain rfl:=some_eq j
    exact ⟨_,rfl,t,S,rfl,(St.drop 2 g)⟩
   ·have j:=cond_f c u
    refine c_skip (n_block (n_then (c_q [] [2,3,5] f .nil fun c b=>(n_then ?_))))
    exact ⟨C,Nat.lt_succ_self C,t,(w64 (y + (1:Int))),S,b.to,g,j⟩
  ·have j:=cond_f z I
   refine c_exit 0 (x_then (x_then (x_block (n_then (c_seq (c_sq [] [2,3,6] A .nil fun c b=>(c_block 2 (c_loop (fun n a w=>∃Y:Zone,∃C:Int,Zone.le t Y∧Fr a 75 [(2,pB V 0),(3,pB X 0),(6,vI C)]∧St Y (box X [.slice o_x1l x1l.length c_x1l,V10,V11,V12,V13,V14,V15,V16,V17,V18] 29::box V [.slice o_x0l x0l.length c_x0l,V00,V01,V02,V03,V04,V05,V06,V07,V08] 29::L) w∧(F8_l2 fuel x0h x1h n C)=some r) fuel ⟨t,0,zr,b.to,B,j⟩ ?_))))))))
   rintro b c d ⟨Y,C,R,f,a4,a3⟩
   cases b with
   | zero=>cases a3
   | succ n2 =>
   refine c_seq (c_sq [] [2,3,6,35] f .nil fun b a2=>(c_if (decide (C<(9:Int))) a2 (fun a1=>?_) (fun a1=>?_)))
   ·have j:=cond_t a1 a3
    refine c_skip (n_then (c_seq (c_block 3 (c_seq ?_))))
    have m:=a4.drew
    obtain ⟨l,b,j⟩:=bind_some j
    obtain ⟨o,_,p,q,s,hehv12246,b⟩:=arrGet (Ty.mono _ (zt S R) hx_x0h) rfl b
    obtain rfl:=List.head_eq_of_cons_eq hehv12246
    obtain ⟨c,b,u⟩:=bind_some j
    obtain ⟨b,_,d,f,g,hehv12256,k⟩:=arrGet (Ty.mono _ (zt S R) hx_x1h) rfl b
    obtain rfl:=List.head_eq_of_cons_eq hehv12256
    refine c_sqD [(0,true),(1,true),(2,true),(3,true),(4,true),(5,true),(6,true),(7,true),(8,true),(9,true),(10,true)] [] [.slice q l.length s, .slice f c.length g] [2,3,6,48] a2 (.prop o (.cell ((arrAddr V 1 C.toNat) ▸ (m.box (i:=1) rfl (getElem?_app_right [.slice o_x0l x0l.length c_x0l] _ _ p []))) (.prop b (.cell ((arrAddr X 1 C.toNat) ▸ (m.box (i:=0) rfl (getElem?_app_right [.slice o_x1l x1l.length c_x1l] _ _ d []))) .nil)))) .nil fun b d=>?_
    refine c_if ((l.length:Int) != (c.length:Int)) d (fun c=>?_) (fun c=>?_)
    ·have j:=cond_t c u
     refine c_sq [] [4] d .nil fun f b=>?_
     refine c_ret (r_then (r_block (r_then (r_then (r_block (r_then (c_rt [] (.bool false) b .nil ?_)))))))
     obtain rfl:=some_eq j
     exact ⟨_,rfl,Y,(zt S R),rfl,(St.drop 2 m)⟩
    ·have j:=cond_f c u
     refine c_skip (n_then (c_sq [] [2,3,6,7] d .nil fun c b=>(c_block 4 (c_loop (fun n a w=>∃U:Zone,∃J:Int,Zone.le Y U∧Fr a 75 [(2,pB V 0),(3,pB X 0),(6,vI C),(7,vI J)]∧St U (box X [.slice o_x1l x1l.length c_x1l,V10,V11,V12,V13,V14,V15,V16,V17,V18] 29::box V [.slice o_x0l x0l.length c_x0l,V00,V01,V02,V03,V04,V05,V06,V07,V08] 29::L) w∧(F8_l3 fuel (F8_l2 fuel x0h x1h n2) x0h x1h C n J)=some r) fuel ⟨Y,0,zr,b.to,m,j⟩ ?_))))
     rintro b c m ⟨U,J,K,l,a0,j⟩
     cases b with
     | zero=>cases j
     | succ n1 =>
     refine c_seq ?_
     obtain ⟨c,b,I⟩:=bind_some j
     obtain ⟨b,_,d,f,g,hehv12826,k⟩:=arrGet (Ty.mono _ (zt (zt S R) K) hx_x0h) rfl b
     obtain rfl:=List.head_eq_of_cons_eq hehv12826
     refine c_sq [.slice f c.length g] [2,3,6,7,55] l (.prop b (.cell ((arrAddr V 1 C.toNat) ▸ (a0.box (i:=1) rfl (getElem?_app_right [.slice o_x0l x0l.length c_x0l] _ _ d []))) .nil)) fun b Z=>?_
     refine c_if (decide (J<(c.length:Int))) Z (fun W=>?_) (fun W=>?_)
     ·have j:=cond_t W I
      refine c_skip (n_then (c_seq (c_block 5 (c_seq ?_))))
      have o:=a0.drew
      refine c_regD (rD 16 [14]) [14] (fun x=>x=m.drew) rfl ?_
      obtain ⟨T,b,j⟩:=bind_some j
      obtain ⟨M,_,O,P,Q,hehv12913,c⟩:=arrGet (Ty.mono _ (zt (zt S R) K) hx_x0h) rfl b
      obtain rfl:=List.head_eq_of_cons_eq hehv12913
      obtain ⟨B,b,j⟩:=bind_some j
      obtain ⟨D,E,F,c,b,G⟩:=SliceR.getI c b
      obtain ⟨p,q,rfl,H⟩:=b
      obtain ⟨A,b,j⟩:=bind_some j
      obtain ⟨s,_,t,y,z,hehv12935,c⟩:=arrGet (Ty.mono _ (zt (zt S R) K) hx_x1h) rfl b
      obtain rfl:=List.head_eq_of_cons_eq hehv12935
      obtain ⟨l,b,j⟩:=bind_some j
      obtain ⟨d,f,g,c,b,k⟩:=SliceR.getI c b
      obtain ⟨b,c,rfl,m⟩:=b
      refine c_E 14 [.slice P T.length Q, .pointer (some D), .slice p B.length q, .slice y A.length z, .pointer (some d), .slice b l.length c] [2,3,6,7,64,71] Z (.prop M (.cell ((arrAddr V 1 C.toNat) ▸ (o.box (i:=1) rfl (getElem?_app_right [.slice o_x0l x0l.length c_x0l] _ _ O []))) (.prop E (.prop F (.cell (o.cell (G 0 _ rfl)) (.prop s (.cell ((arrAddr X 1 C.toNat) ▸ (o.box (i:=0) rfl (getElem?_app_right [.slice o_x1l x1l.length c_x1l] _ _ t []))) (.prop f (.prop g (.cell (o.cell (k 0 _ rfl)) .nil)))))))))) .nil fun d g=>?_
      obtain ⟨d,f,u⟩:=bind_some j
      refine c_call g (f23_ok fuel B l d f U _ _ o p q H b c m) ?_
      rintro c f g ⟨k,l,rfl,m⟩ b
      refine ⟨fun e=>absurd e (by decide),?_⟩
      refine p_qP 1 [] [(2,pB V 0),(3,pB X 0),(6,vI C),(7,vI J),(8, .bool d)] [] b (by kernel_rfl) (fun _=> .nil) fun c b=>?_
      refine c_dt (c_sq [] [2,3,6,7,74] b .nil fun b f=>(c_if (!d) f (fun c=>?_) (fun c=>?_)))
      ·have j:=cond_t c u
       refine c_sq [] [4] f .nil fun d b=>?_
       refine c_ret (r_block (r_then (r_then (r_block (r_block (r_then (r_then (r_block (r_then (c_rt [] (.bool false) b .nil ?_))))))))))
       obtain rfl:=some_eq j
       exact ⟨_,rfl,k,(zt (zt (zt S R) K) l),rfl,(St.drop 2 m)⟩
      ·have j:=cond_f c u
       refine c_skip (n_block (n_then (c_q [] [2,3,6,7] f .nil fun c b=>(n_then ?_))))
       exact ⟨n1,Nat.lt_succ_self n1,k,(w64 (J + (1:Int))),(zt K l),b.to,m,j⟩
     ·have j:=cond_f W I
      refine c_exit 4 (x_then (x_then (x_block (n_block (n_then (c_q [] [2,3,6] Z .nil fun c b=>(n_then ?_)))))))
      exact ⟨n2,Nat.lt_succ_self n2,U,(w64 (C + (1:Int))),(zt R K),b.to,a0,j⟩
   ·have j:=cond_f a1 a3
    refine c_exit 2 (x_then (x_then (x_block (n_then (c_sq [] [4] a2 .nil fun c b=>(c_ret (c_rt [] (.bool true) b .nil ?_)))))))
    obtain rfl:=some_eq j
    exact ⟨_,rfl,Y,(zt S R),rfl,(St.drop 2 a4)⟩
def F27_j1 (y1:Bool):Option (Bool×Int) :=
  (some (y1,0))
def F27 (fuel:Nat) (x0:List Lot) (x1:List Deed) (x2:Int):Option (Bool×Int) :=
  ((F7 fuel x0 x1).bind fun r1=>(cond (r1.2.2.2 != (0:Int)) (some (false,r1.2.2.2)) ((F60 fuel x2 0 (w64 ((x1.length:Int) - (2:Int)))).bind fun r2=>(cond (!r2) (some (false,1)) ((appC ([]) x1).bind fun d1=>((getI x1 (w64 (x2 + (1:Int)))).bind fun p1=>((getI d1 x2).bind fun p2=>((setI d1 x2 (⟨p1.kind,p1.lot,p1.frm,p1.to,p1.mass⟩:Deed)).bind fun d2=>((getI x1 x2).bind fun p3=>((getI d2 (w64 (x2 + (1:Int)))).bind fun p4=>((setI d2 (w64 (x2 + (1:Int))) (⟨p3.kind,p3.lot,p3.frm,p3.to,p3.mass⟩:Deed)).bind fun d3=>((F7 fuel x0 d3).bind fun r3=>((F8 fuel r1.1 r1.2.1 r3.1 r3.2.1).bind fun r4=>(cond (r3.2.2.2 == (0:Int)) (F27_j1 r4) (F27_j1 false)))))))))))))))
set_option maxRecDepth 100000 in
theorem f27_ok (fuel:Nat) (x0:List Lot) (x1:List Deed) (x2:Int) (r:Bool×Int) (hr:F27 fuel x0 x1 x2=some r) (h:Zone) (L:List Atom) (w:World) (hS:St h L w) (o_x0:Option Addr) (c_x0:Nat) (hx_x0:SliceR LotT h o_x0 c_x0 x0) (o_x1:Option Addr) (c_x1:Nat) (hx_x1:SliceR DeedT h o_x1 c_x1 x1) :
    Calls Tryz.prog 27 #[.slice o_x0 x0.length c_x0, .slice o_x1 x1.length c_x1,vI x2] w fun e w'=>∃v,e= .returned v∧(∃h',Zone.le h h'∧v= .tuple #[.bool r.1,vI r.2]∧St h' L w'):=by
 refine calls_intro (N:=66) Tryz.func27 (by kernel_rfl) fun a hf=>?_
 refine c_sq [] [0,1,2] hf .nil fun f c=>?_
 refine c_sr (c_n 2 [] [0,1,2,17,18] c .nil fun c f=>?_)
 obtain ⟨M,c,G⟩:=bind_some hr
 refine c_call f (f7_ok fuel x0 x1 M c h _ _ hS o_x0 c_x0 hx_x0 o_x1 c_x1 hx_x1) ?_
 rintro f g k ⟨m,R,S,U,V,W,X,Y,Z,v8,v9,a0,Q,rfl,l,a2,a1⟩ c
 refine tv ?_
 refine c_n 4 [] [0,1,2,20,21,22] c .nil fun f c=>?_
 refine c_box [N0,N0,N0,N0,N0,N0,N0,N0,N0,N0] 29 l c fun b1 c k f g=>tv ?_
 have c:=oneCells_of (Ty.one _ (Ty.mono _ zr a1))
 refine p_store_eq (i:=8) (j:=0) (b:=b1) (off:=0) (vs:=[.slice R M.1.length S,U,V,W,X,Y,Z,v8,v9,a0]) (cs':=[.slice R M.1.length S,U,V,W,X,Y,Z,v8,v9,a0]) f g rfl (by kernel_rfl) c rfl fun f g l c=>tv ?_
 refine c_t [] [0,1,2,8,10] c .nil fun f c=>?_
 refine c_seq (c_sq [] [0,1,2,8,10,24] c .nil fun c g=>(c_if (M.2.2.2 != (0:Int)) g (fun f=>?_) (fun f=>?_)))
 ·have o:=cond_t f G
  refine c_sq [] [6,7] g .nil fun k c=>?_
  refine c_ret (r_then (c_rt [] (.tuple #[.bool false,vI M.2.2.2]) c .nil ?_))
  obtain rfl:=some_eq o
  exact ⟨_,rfl,m,Q,rfl,(St.drop 1 l)⟩
 ·have o:=cond_f f G
  refine c_skip (n_then (c_seq (c_sr (c_n 4 [] [0,1,2,8,26,29] g .nil fun c f=>?_))))
  obtain ⟨g,c,G⟩:=bind_some o
  refine c_call f (f60_ok fuel x2 0 (w64 ((x1.length:Int) - (2:Int))) g c m _ _ l ) ?_
  rintro f k l ⟨p,P,rfl,m⟩ c
  refine tv ?_
  refine c_t [] [0,1,2,8,31] c .nil fun c k=>?_
  refine c_if (!g) k (fun f=>?_) (fun f=>?_)
  ·have o:=cond_t f G
   refine c_sq [] [6,7] k .nil fun g c=>?_
   refine c_ret (r_then (c_rt [] (.tuple #[.bool false,vI 1]) c .nil ?_))
   obtain rfl:=some_eq o
   exact ⟨_,rfl,p,(zt Q P),rfl,(St.drop 1 m)⟩
  ·have o:=cond_f f G
   refine c_skip (n_then (c_sr (p_box (i:=0) (d:=(some 32)) (cs:=[]) (T:=74) (v:=fun c=> .slice (some ⟨c,0,none⟩) 0 0) m k (fun b=>by kernel_rfl) fun c k l f g=>tv ?_)))
   have c:=f.ownBox (T:=DeedT) (E:=74) (n:=0) (xs:=[]) (i:=0) rfl rfl rfl (by decide)
   refine c_n 1 [] [0,1,2,8,32,33] g .nil fun f g=>?_
   obtain ⟨k,f,o⟩:=bind_some o
   refine p_append (T:=DeedT) (i:=2) (j:=0) (d:=some 34) (o2:=o_x1) (c2:=c_x1) (ys:=x1) el23 c g rfl (by kernel_rfl) (SliceR.src (SliceR.mono (zt Q P) hx_x1) c) f fun z A f k g c=>tv ?_
   refine c_t [] [0,1,2,8,11] c .nil fun c y=>?_
   refine c_sr ?_
   obtain ⟨c,f,o⟩:=bind_some o
   obtain ⟨q,s,t,k,rfl,f⟩:=SliceR.getI (SliceR.mono (zt Q P) hx_x1) f
   obtain ⟨k,p,o⟩:=bind_some o
   obtain ⟨k,m,l,u,rfl,x⟩:=g.ownGet (j:=0) rfl p
   refine c_n 8 [.pointer (some q),vI c.kind,vI c.lot,vI c.frm,vI c.to,vI c.mass, .pointer (some k)] [0,1,2,8,11,41,42] y (.prop s (.prop t (.cell (g.cell (f 0 _ rfl)) (.cell (g.cell (f 1 _ rfl)) (.cell (g.cell (f 2 _ rfl)) (.cell (g.cell (f 3 _ rfl)) (.cell (g.cell (f 4 _ rfl)) (.prop m (.prop l .nil))))))))) fun f q=>?_
   obtain ⟨s,f,o⟩:=bind_some o
   have l:=setI_len f
   refine p_setOwn (i:=8) (j:=0) (ad:=k) (ix:=x2) (off:=0) (vs:=[vI c.kind,vI c.lot,vI c.frm,vI c.to,vI c.mass]) (x':=(⟨c.kind,c.lot,c.frm,c.to,c.mass⟩:Deed)) g q rfl m p (by kernel_rfl) (by kernel_rfl) rfl f fun m p g f=>?_
   have y:=Fr.conv (fl':=[(0, .slice o_x0 x0.length c_x0),(1, .slice o_x1 x1.length c_x1),(2,vI x2),(8,pB b1 0),(11, .slice z s.length A),(41, .agg #[vI c.kind,vI c.lot,vI c.frm,vI c.to,vI c.mass]),(42, .pointer (some (k.add (Int.toNat x2 * 5))))]) f (by rw [l] <;> kernel_rfl)
   refine tv ?_
   refine c_dt (c_sr ?_)
   obtain ⟨c,f,o⟩:=bind_some o
   obtain ⟨q,s,t,k,rfl,f⟩:=SliceR.getI (SliceR.mono (zt Q P) hx_x1) f
   obtain ⟨k,p,o⟩:=bind_some o
   obtain ⟨k,m,l,u,rfl,x⟩:=g.ownGet (j:=0) rfl p
   refine c_n 8 [.pointer (some q),vI c.kind,vI c.lot,vI c.frm,vI c.to,vI c.mass, .pointer (some k)] [0,8,11,49,50] y (.prop s (.prop t (.cell (g.cell (f 0 _ rfl)) (.cell (g.cell (f 1 _ rfl)) (.cell (g.cell (f 2 _ rfl)) (.cell (g.cell (f 3 _ rfl)) (.cell (g.cell (f 4 _ rfl)) (.prop m (.prop l .nil))))))))) fun f q=>?_
   obtain ⟨s,f,o⟩:=bind_some o
   have l:=setI_len f
   refine p_setOwn (i:=8) (j:=0) (ad:=k) (ix:=(w64 (x2 + (1:Int)))) (off:=0) (vs:=[vI c.kind,vI c.lot,vI c.frm,vI c.to,vI c.mass]) (x':=(⟨c.kind,c.lot,c.frm,c.to,c.mass⟩:Deed)) g q rfl m p (by kernel_rfl) (by kernel_rfl) rfl f fun g m p f=>?_
   have c:=Fr.conv (fl':=[(0, .slice o_x0 x0.length c_x0),(8,pB b1 0),(11, .slice z s.length A),(49, .agg #[vI c.kind,vI c.lot,vI c.frm,vI c.to,vI c.mass]),(50, .pointer (some (k.add (Int.toNat (w64 (x2 + (1:Int))) * 5))))]) f (by rw [l] <;> kernel_rfl)
   refine tv ?_
   refine c_dt (c_sr (c_n 2 [] [8,52,53] c .nil fun c m=>?_))
   obtain ⟨f,K,k,l⟩:=p.share (j:=0) rfl
   obtain ⟨g,c,o⟩:=bind_some o
   refine c_call m (f7_ok fuel x0 s g c f _ _ k o_x0 c_x0 (SliceR.mono (zt (zt Q P) K) hx_x0) z A l) ?_
   rintro f k B ⟨I,l,m,p,q,s,t,u,x,y,z,A,O,rfl,C,J,D⟩ c
   refine tv ?_
   refine c_n 4 [] [8,55,56,57] c .nil fun f c=>?_
   refine c_box [N0,N0,N0,N0,N0,N0,N0,N0,N0,N0] 29 C c fun F c B f k=>tv ?_
   have c:=oneCells_of (Ty.one _ (Ty.mono _ zr D))
   refine p_store_eq (i:=8) (j:=0) (b:=F) (off:=0) (vs:=[.slice l g.1.length m,p,q,s,t,u,x,y,z,A]) (cs':=[.slice l g.1.length m,p,q,s,t,u,x,y,z,A]) f k rfl (by kernel_rfl) c rfl fun k B c f=>tv ?_
   refine c_t [] [8,12,14] f .nil fun k f=>?_
   refine c_sr (c_n 2 [.slice R M.1.length S,U,V,W,X,Y,Z,v8,v9,a0, .slice l g.1.length m,p,q,s,t,u,x,y,z,A] [14,58,59] f (.cell (c.bx 2 0 rfl rfl) (.cell (c.bx 2 1 rfl rfl) (.cell (c.bx 2 2 rfl rfl) (.cell (c.bx 2 3 rfl rfl) (.cell (c.bx 2 4 rfl rfl) (.cell (c.bx 2 5 rfl rfl) (.cell (c.bx 2 6 rfl rfl) (.cell (c.bx 2 7 rfl rfl) (.cell (c.bx 2 8 rfl rfl) (.cell (c.bx 2 9 rfl rfl) (.cell (c.bx 0 0 rfl rfl) (.cell (c.bx 0 1 rfl rfl) (.cell (c.bx 0 2 rfl rfl) (.cell (c.bx 0 3 rfl rfl) (.cell (c.bx 0 4 rfl rfl) (.cell (c.bx 0 5 rfl rfl) (.cell (c.bx 0 6 rfl rfl) (.cell (c.bx 0 7 rfl rfl) (.cell (c.bx 0 8 rfl rfl) (.cell (c.bx 0 9 rfl rfl) .nil)))))))))))))))))))) fun f k=>?_)
   obtain ⟨H,f,G⟩:=bind_some o
   refine c_call k (f8_ok fuel M.1 M.2.1 g.1 g.2.1 H f I _ _ c R S (SliceR.mono (zt (zt P K) O) a2) U V W X Y Z v8 v9 a0 (Ty.mono _ (zt (zt P K) O) a1) l m J p q s t u x y z A (Ty.mono _ zr D)) ?_
   rintro f k B ⟨D,J,rfl,I⟩ c
   refine tv ?_
   refine c_t [] [14,15] c .nil fun c f=>?_
   refine c_mid (fun a w=>∃C:Zone,∃B:Bool,Zone.le D C∧Fr a 66 [(6, .bool B),(7,vI 0)]∧St C (box F [.slice l g.1.length m,p,q,s,t,u,x,y,z,A] 29::emp::box b1 [.slice R M.1.length S,U,V,W,X,Y,Z,v8,v9,a0] 29::L) w∧(F27_j1 B)=some r) ?_ ?_
   ·skip
    refine c_reg (c_n 3 [] [15,63] f .nil fun c k=>?_)
    rcases bft (g.2.2.2 == (0:Int)) with c | c
    ·have o:=cond_t c G
     have f:=k.lit 63 c
     refine c_t [] [6,7] f .nil fun g f=>?_
     exact ⟨D,H,zr,f.to,I,o⟩
    ·have o:=cond_f c G
     have c:=k.lit 63 c
     refine c_t [] [6,7] c .nil fun f c=>?_
     exact ⟨D,false,zr,c.to,I,o⟩
   ·rintro f g ⟨C,B,k,c,l,o⟩
    refine c_ret (c_rt [] (.tuple #[.bool B,vI 0]) c .nil ?_)
    obtain rfl:=some_eq o
    exact ⟨_,rfl,C,(zt (zt (zt (zt (zt Q P) K) O) J) k),rfl,(St.drop 3 l)⟩
def F28_j3 (y1:List Trail) (y2:Int):Option (List Trail×Int) :=
  (cond (y2 != (0:Int)) (some ([],y2)) (some (y1,0)))
def F28_j1 (fuel:Nat) (x0:List Lot) (x2:Int) (y1:List Trail) (y3:Option Pl) (y4:Int) (y5:Int):Option (List Trail×Int) :=
  (cond (y5 == (0:Int)) ((F47 fuel x0 ([x2])).bind fun r1=>(F28_j3 y1 r1)) (F28_j3 y1 y5))
def F28_j2 (k1:(List Trail)→Int→Option (List Trail×Int)) (y6:Int) (y7:List Trail):Option (List Trail×Int) :=
  (k1 y7 (w64 (y6 + (1:Int))))
def F28_l2 (k2:(List Trail)→Pl→Int→Option (List Trail×Int)) (x2:Int) (y8:Int) (r2:List Part×List (Int×Bool)×Int×Pl):Nat→(List Trail)→Int→Option (List Trail×Int)
  | 0,_,_=>none
  | n1 + 1,y9,y6 =>
    let k1:(List Trail)→Int→Option (List Trail×Int):=F28_l2 k2 x2 y8 r2 n1
    (cond (decide (y6<(r2.1.length:Int))) ((getI r2.1 y6).bind fun p1=>(cond (p1.lot == x2) ((appC y9 ([⟨y8,p1.mass⟩])).bind fun d1=>(F28_j2 k1 y6 d1)) (F28_j2 k1 y6 y9))) (k2 y9 r2.2.2.2 (w64 (y8 + (1:Int)))))
def F28_l1 (fuel:Nat) (x0:List Lot) (x1:List Deed) (x2:Int):Nat→(List Trail)→Pl→Int→Option (List Trail×Int)
  | 0,_,_,_=>none
  | n2 + 1,y10,y11,y8 =>
    let k2:(List Trail)→Pl→Int→Option (List Trail×Int):=F28_l1 fuel x0 x1 x2 n2
    (cond (decide (y8<(x1.length:Int))) ((getI x1 y8).bind fun p2=>((F51 fuel y11 p2.kind p2.lot p2.frm p2.to p2.mass).bind fun r2=>(cond (r2.2.2.1 != (0:Int)) (F28_j1 fuel x0 x2 y10 none y8 r2.2.2.1) (F28_l2 k2 x2 y8 r2 fuel y10 0)))) (F28_j1 fuel x0 x2 y10 (some y11) (x1.length:Int) 0))
def F28 (fuel:Nat) (x0:List Lot) (x1:List Deed) (x2:Int):Option (List Trail×Int) :=
  ((F49 fuel x0 x1).bind fun r3=>(cond (r3 != (0:Int)) (F28_j1 fuel x0 x2 ([]) none 0 r3) ((F50 fuel x0 ([[],[],[],[],[],[],[],[],[]])).bind fun r4=>(F28_l1 fuel x0 x1 x2 fuel ([]) r4 0))))
set_option maxRecDepth 100000 in
theorem f28_ok (fuel:Nat) (x0:List Lot) (x1:List Deed) (x2:Int) (r:List Trail×Int) (hr:F28 fuel x0 x1 x2=some r) (h:Zone) (L:List Atom) (w:World) (hS:St h L w) (o_x0:Option Addr) (c_x0:Nat) (hx_x0:SliceR LotT h o_x0 c_x0 x0) (o_x1:Option Addr) (c_x1:Nat) (hx_x1:SliceR DeedT h o_x1 c_x1 x1) :
    Calls Tryz.prog 28 #[.slice o_x0 x0.length c_x0, .slice o_x1 x1.length c_x1,vI x2] w fun e w'=>∃v,e= .returned v∧(∃h',∃o0:Option Addr,∃c0:Nat,Zone.le h h'∧v= .tuple #[.slice o0 r.1.length c0,vI r.2]∧St h' L w'∧SliceR TrailT h' o0 c0 r.1):=by
 refine calls_intro (N:=30) Tryz.func28 (by kernel_rfl) fun a hf=>?_
 refine c_sr (c_box [vI x2] 3 hS hf fun b1 p s g k=>tv (c_t [] [0,1,5] k .nil fun t l=>(c_sr (c_box [N0] 81 g l fun W u x z m=>tv (c_dt (c_sr (c_n 3 [] [0,5,8,13,14,15] m .nil fun y o=>(c_call (f:=18) (args:= #[.slice o_x0 x0.length c_x0, .slice o_x1 x1.length c_x1, .func (.func 63) #[] #[pB b1 0,pB W 0]]) (Φ:=fun v w=>∃z1:Zone,∃y1:List Trail,∃y3:Option Pl,∃y4:Int,∃y5:Int,∃e1:Option Addr,∃q1:Nat,∃p3:Option Addr,Zone.le h z1∧v= .tuple #[.pointer p3,vI y4,vI y5]∧St z1 (ownS TrailT 120 e1 q1 y1::plO 69 49 101 p3 y3::box W [.slice e1 y1.length q1] 81::box b1 [vI x2] 3::L) w∧(F28_j1 fuel x0 x2 y1 y3 y4 y5)=some r) o ?_ ?_))))))))
 ·refine calls_intro (N:=50) Tryz.func18 (by kernel_rfl) fun k g=>?_
  refine c_sq [] [0,1,2] g .nil fun k g=>?_
  refine c_seq (c_sr (c_n 2 [] [0,1,2,15,16] g .nil fun g k=>?_))
  obtain ⟨l,g,D⟩:=bind_some hr
  refine c_call k (f49_ok fuel x0 x1 l g h _ _ z o_x0 c_x0 hx_x0 o_x1 c_x1 hx_x1) ?_
  rintro k m o ⟨s,k3,rfl,t⟩ g
  refine tv ?_
  refine c_t [] [0,1,2,9] g .nil fun k g=>?_
  refine c_sq [] [0,1,2,9,19] g .nil fun g m=>?_
  refine c_if (l != (0:Int)) m (fun k=>?_) (fun k=>?_)
  ·have q:=cond_t k D
   refine c_sq [] [6,7,8] m .nil fun o g=>?_
   refine c_ret (r_then (c_rt [] (.tuple #[.pointer none,vI 0,vI l]) g .nil ?_))
   have g:=t.plNone 69 49 101
   have g:=St.ownNil g TrailT 120
   exact ⟨_,rfl,s,[],none,0,l,none,0,none,k3,rfl,(St.pick 2 [0,1] g (by kernel_rfl)),q⟩
  ·have q:=cond_f k D
   refine c_skip (n_then (c_sr (c_n 2 [] [1,2,22] m .nil fun g k=>?_)))
   obtain ⟨p,g,q⟩:=bind_some q
   refine c_call k (f50_ok fuel x0 ([[],[],[],[],[],[],[],[],[]]) p g s _ _ t o_x0 c_x0 (SliceR.mono k3 hx_x0) (N0) (N0) (N0) (N0) (N0) (N0) (N0) (N0) (N0) ⟨rfl,(Rows.cons (c:=[_]) (sliceRep (SliceR.nil' _ _)) (Rows.cons (c:=[_]) (sliceRep (SliceR.nil' _ _)) (Rows.cons (c:=[_]) (sliceRep (SliceR.nil' _ _)) (Rows.cons (c:=[_]) (sliceRep (SliceR.nil' _ _)) (Rows.cons (c:=[_]) (sliceRep (SliceR.nil' _ _)) (Rows.cons (c:=[_]) (sliceRep (SliceR.nil' _ _)) (Rows.cons (c:=[_]) (sliceRep (SliceR.nil' _ _)) (Rows.cons (c:=[_]) (sliceRep (SliceR.nil' _ _)) (Rows.cons (c:=[_]) (sliceRep (SliceR.nil' _ _)) rfl)))))))))⟩) ?_
   rintro k m o ⟨l,X,k4,rfl,s⟩ g
   refine tv ?_
   refine c_t [] [1,2,10] g .nil fun k g=>?_
   refine c_seq (c_sq [] [1,2,10,24,25,26] g .nil fun g k=>(c_block 0 ?_))
   have g:=s.ownNil TrailT 120
   refine c_loop (fun n a w=>∃z4:Zone,∃a0:List Trail,∃a1:Pl,∃H:Int,∃e2:Option Addr,∃q2:Nat,Zone.le l z4∧Fr a 50 [(1, .slice o_x1 x1.length c_x1),(2, .func (.func 63) #[] #[pB b1 0,pB W 0]),(10,pB X 0),(24, .slice o_x1 x1.length c_x1),(25,vI (x1.length:Int)),(26,vI H)]∧St z4 (ownS TrailT 120 e2 q2 a0::plA 69 49 101 X a1::box W [.slice e2 a0.length q2] 81::box b1 [vI x2] 3::L) w∧(F28_l1 fuel x0 x1 x2 n a0 a1 H)=some r) fuel ⟨l,[],p,0,none,0,zr,k.to,g,q⟩ ?_
   rintro g k l ⟨z4,a0,a1,H,e2,q2,k5,m,Y,a5⟩
   cases g with
   | zero=>cases a5
   | succ n2 =>
   refine c_sq [] [1,2,10,24,25,26,27] m .nil fun g a4=>?_
   refine c_seq (c_if (decide (H<(x1.length:Int))) a4 (fun a3=>?_) (fun a3=>?_))
   ·have q:=cond_t a3 a5
    refine c_skip (n_then (c_seq (c_block 1 (c_sr ?_))))
    obtain ⟨k,g,q⟩:=bind_some q
    obtain ⟨l,m,o,p,rfl,g⟩:=SliceR.getI (SliceR.mono (zt (zt k3 k4) k5) hx_x1) g
    refine c_n 3 [.pointer (some l),vI k.kind,vI k.lot,vI k.frm,vI k.to,vI k.mass] [1,2,10,24,25,26,28,30] a4 (.prop m (.prop o (.cell (Y.cell (g 0 _ rfl)) (.cell (Y.cell (g 1 _ rfl)) (.cell (Y.cell (g 2 _ rfl)) (.cell (Y.cell (g 3 _ rfl)) (.cell (Y.cell (g 4 _ rfl)) .nil))))))) fun l g=>?_
    refine c_box [vI 0,vI 0,vI 0,vI 0,vI 0] 74 Y g fun b4 m o l g=>tv ?_
    refine c_n 1 [] [1,2,10,11,12,24,25,26,30] g .nil fun m g=>?_
    refine c_st 0 [vI k.kind,vI k.lot,vI k.frm,vI k.to,vI k.mass] l g rfl fun m o g l=>tv ?_
    refine c_dt (c_sr (c_n 2 [vI k.kind,vI k.lot,vI k.frm,vI k.to,vI k.mass] [1,2,10,11,24,25,26,32,33] l (.cell (g.bx 0 0 rfl rfl) (.cell (g.bx 0 1 rfl rfl) (.cell (g.bx 0 2 rfl rfl) (.cell (g.bx 0 3 rfl rfl) (.cell (g.bx 0 4 rfl rfl) .nil))))) fun l m=>?_))
    have g:=St.swapTo (i:=3) (j:=0) (St.addEmp g) rfl rfl (by decide)
    have l:=g
    obtain ⟨u,g,D⟩:=bind_some q
    refine c_call m (f51_ok fuel a1 k.kind k.lot k.frm k.to k.mass u g z4 _ _ X l ) ?_
    rintro l m o ⟨I,s,t,x,k6,rfl,g,a2,p⟩ y
    have g:=St.swapTo (i:=0) (j:=3) g rfl rfl (by decide)
    have l:=g
    refine tv ?_
    refine c_n 3 [] [1,2,10,11,24,25,26,35,36] y .nil fun m g=>?_
    refine c_box [N0, .map none] 103 l g fun P m o g l=>tv ?_
    refine c_st 0 [.slice s u.1.length t, .map x] g l rfl fun l m o g=>tv ?_
    refine c_t [] [1,2,10,11,13,14,24,25,26] g .nil fun l g=>?_
    refine c_seq (c_sq [] [1,2,10,11,13,14,24,25,26,38] g .nil fun g m=>(c_if (u.2.2.1 != (0:Int)) m (fun l=>?_) (fun l=>?_)))
    ·have q:=cond_t l D
     refine c_sq [] [6,7,8] m .nil fun p g=>?_
     refine c_ret (r_then (r_block (r_then (r_then (r_block (r_then (c_rt [] (.tuple #[.pointer none,vI H,vI u.2.2.1]) g .nil ?_)))))))
     have g:=o.plNone 69 49 101
     exact ⟨_,rfl,I,a0,none,H,u.2.2.1,e2,q2,none,(zt (zt (zt k3 k4) k5) k6),rfl,(St.pick 6 [4,0] g (by kernel_rfl)),q⟩
    ·have q:=cond_f l D
     refine c_skip (n_then (c_reg (c_n 4 [.slice s u.1.length t, .map x] [1,2,10,24,25,26,41,42,43,44] m (.cell (o.bx 0 0 rfl rfl) (.cell (o.bx 0 1 rfl rfl) .nil)) fun y l=>(p_inl (i:=4) (d:=some 45) (f:=63) (args:= #[vI H, .agg #[.slice s u.1.length t, .map x],pB X 0,pB b1 0,pB W 0]) (N':=30) l (by kernel_rfl) Tryz.func63 (by kernel_rfl) fun z m=>(c_sr (c_box [.slice s u.1.length t, .map x] 103 o m fun F A B g o=>tv (c_dt (c_sq [.slice s u.1.length t] [0,3,4,12,13,14] o (.cell (g.bx 0 0 rfl rfl) .nil) fun C p=>(c_block 0 (c_loop (fun n a w=>∃J:Zone,∃K:List Trail,∃G:Int,∃M:Option Addr,∃O:Nat,Zone.le I J∧Fr a 30 [(0,vI H),(3,pB b1 0),(4,pB W 0),(12, .slice s u.1.length t),(13,vI (u.1.length:Int)),(14,vI G)]∧St J (box F [.slice s u.1.length t, .map x] 103::box P [.slice s u.1.length t, .map x] 103::emp::box b4 [vI k.kind,vI k.lot,vI k.frm,vI k.to,vI k.mass] 74::ownS TrailT 120 M O K::plA 69 49 101 X u.2.2.2::box W [.slice M K.length O] 81::box b1 [vI x2] 3::L) w∧(F28_l2 (F28_l1 fuel x0 x1 x2 n2) x2 H u n K G)=some r) fuel ⟨I,a0,0,e2,q2,zr,p.to,g,q⟩ ?_))))))))))
     rintro g l m ⟨J,K,G,M,O,Z,o,Q,V⟩
     cases g with
     | zero=>cases V
     | succ S =>
     refine c_sq [] [0,3,4,12,13,14,15] o .nil fun g U=>?_
     refine c_seq (c_if (decide (G<(u.1.length:Int))) U (fun R=>?_) (fun R=>?_))
     ·have q:=cond_t R V
      refine c_skip (n_then (c_mid (fun a w=>∃B:Zone,∃A:List Trail,∃C:Option Addr,∃I:Nat,Zone.le J B∧Fr a 30 [(0,vI H),(3,pB b1 0),(4,pB W 0),(12, .slice s u.1.length t),(13,vI (u.1.length:Int)),(14,vI G)]∧St B (box F [.slice s u.1.length t, .map x] 103::box P [.slice s u.1.length t, .map x] 103::emp::box b4 [vI k.kind,vI k.lot,vI k.frm,vI k.to,vI k.mass] 74::ownS TrailT 120 C I A::plA 69 49 101 X u.2.2.2::box W [.slice C A.length I] 81::box b1 [vI x2] 3::L) w∧(F28_j2 (F28_l2 (F28_l1 fuel x0 x1 x2 n2) x2 H u S) G A)=some r) ?_ ?_))
      ·skip
       refine c_block 1 (c_sr ?_)
       obtain ⟨g,k,D⟩:=bind_some q
       obtain ⟨l,m,o,p,rfl,k⟩:=SliceR.getI (SliceR.mono Z a2) k
       refine c_n 2 [.pointer (some l),vI g.lot,vI g.mass] [0,3,4,12,13,14,17] U (.prop m (.prop o (.cell (Q.cell (k 0 _ rfl)) (.cell (Q.cell (k 1 _ rfl)) .nil)))) fun l k=>?_
       refine c_box [vI 0,vI 0] 53 Q k fun m o p k l=>tv ?_
       refine c_st 0 [vI g.lot,vI g.mass] k l rfl fun l m o k=>tv ?_
       refine c_dt (c_sq [vI g.lot,vI x2] [0,3,4,9,12,13,14,21] k (.cell (o.bx 0 0 rfl rfl) (.cell (o.bx 8 0 rfl rfl) .nil)) fun k z=>(c_if (g.lot == x2) z (fun s=>?_) (fun s=>?_)))
       ·have q:=cond_t s D
        refine c_reg (c_n 5 [.slice M K.length O,vI g.mass] [0,3,4,12,13,14,22,26] z (.cell (o.bx 7 0 rfl rfl) (.cell (o.bx 0 1 rfl rfl) .nil)) fun p k=>(p_box (i:=5) (d:=(some 27)) (cs:=[vI H,vI g.mass]) (T:=120) (v:=fun l=> .slice (some ⟨l,0,none⟩) 1 1) o k (fun b=>by kernel_rfl) fun l t x m y=>tv ?_))
        have k:=m.ownBox (T:=TrailT) (E:=120) (n:=1) (xs:=[⟨H,g.mass⟩]) (i:=0) rfl (Rows.cons (c:=[vI H,vI g.mass]) rfl rfl) rfl (by decide)
        obtain ⟨p,m,q⟩:=bind_some q
        refine p_append (T:=TrailT) (i:=6) (j:=6) (d:=some 28) (o2:=(some ⟨l,0,none⟩)) (c2:=1) (ys:=([⟨H,g.mass⟩])) el81 k y rfl (by kernel_rfl) (k.ownSrc (j:=0) rfl) m fun g k t x l m=>tv ?_
        refine c_st 8 [.slice g p.length k] l m rfl fun t x l m=>tv ?_
        refine c_done (n_block (n_then ?_))
        exact ⟨J,p,g,k,zr,m.to,(St.drop 2 l),q⟩
       ·have q:=cond_f s D
        refine c_skip (n_block (n_then ?_))
        exact ⟨J,K,M,O,zr,z.to,(St.drop 1 o),q⟩
      ·rintro k l ⟨B,A,C,I,m,g,o,q⟩
       refine c_q [] [0,3,4,12,13,14] g .nil fun k g=>?_
       refine n_then ?_
       exact ⟨S,Nat.lt_succ_self S,B,A,(w64 (G + (1:Int))),C,I,(zt Z m),g.to,o,q⟩
     ·have q:=cond_f R V
      refine c_exit 0 (x_then (x_then (x_block (c_fall [] (.tuple #[]) U .nil (⟨_,rfl,fun g k=>?_⟩)))))
      have l:=St.drop 1 Q
      refine tv ?_
      refine c_done (n_block (n_then (c_q [] [1,2,10,24,25,26] k .nil fun k g=>(n_then ?_))))
      exact ⟨n2,Nat.lt_succ_self n2,J,K,u.2.2.2,(w64 (H + (1:Int))),M,O,(zt (zt k5 k6) Z),g.to,(St.drop 3 l),q⟩
   ·have q:=cond_f a3 a5
    refine c_exit 0 (x_then (x_then (x_block (n_then (c_sq [] [6,7,8] a4 .nil fun k g=>(c_ret (c_rt [] (.tuple #[pB X 0,vI (x1.length:Int),vI 0]) g .nil ?_)))))))
    have g:=Y.plSome (i:=1) rfl
    exact ⟨_,rfl,z4,a0,(some a1),(x1.length:Int),0,e2,q2,(some ⟨X,0,none⟩),(zt (zt k3 k4) k5),rfl,(St.pick 2 [0,1] g (by kernel_rfl)),q⟩
 ·rintro k l m ⟨z1,y1,y3,y4,y5,e1,q1,p3,C,rfl,B,D⟩ g
  refine tv ?_
  refine c_t [] [0,5,8,11] g .nil fun g k=>?_
  refine c_mid (fun a w=>∃A:Zone,∃y:Int,Zone.le z1 A∧Fr a 30 [(8,pB W 0),(11,vI y)]∧St A (ownS TrailT 120 e1 q1 y1::plO 69 49 101 p3 y3::box W [.slice e1 y1.length q1] 81::box b1 [vI x2] 3::L) w∧(F28_j3 y1 y)=some r) ?_ ?_
  ·skip
   refine c_sq [] [0,5,8,11,21] k .nil fun g z=>?_
   refine c_if (y5 == (0:Int)) z (fun x=>?_) (fun x=>?_)
   ·have q:=cond_t x D
    refine c_reg (c_n 2 [vI x2] [8,22,23] z (.cell (B.bx 3 0 rfl rfl) .nil) fun m g=>(p_box (i:=2) (d:=(some 24)) (cs:=[vI x2]) (T:=3) (v:=fun k=> .slice (some ⟨k,0,none⟩) 1 1) B g (fun b=>by kernel_rfl) fun k o p l t=>tv ?_))
    have g:=l.ownBox (T:=Ty.int) (E:=3) (n:=1) (xs:=[x2]) (i:=0) rfl (Rows.cons (c:=[vI x2]) rfl rfl) rfl (by decide)
    obtain ⟨l,s,m,o⟩:=g.share (j:=0) rfl
    obtain ⟨p,g,q⟩:=bind_some q
    refine c_call t (f47_ok fuel x0 ([x2]) p g l _ _ m o_x0 c_x0 (SliceR.mono (zt C s) hx_x0) (some ⟨k,0,none⟩) 1 o) ?_
    rintro k l m ⟨o,t,rfl,u⟩ g
    refine tv ?_
    refine c_t [] [8,11] g .nil fun k g=>?_
    exact ⟨o,p,(zt s t),g.to,(St.drop 1 u),q⟩
   ·have q:=cond_f x D
    refine c_skip (n_then ?_)
    exact ⟨z1,y5,zr,z.to,B,q⟩
  ·rintro k l ⟨A,y,p,g,m,D⟩
   refine c_seq (c_sq [] [8,11,27] g .nil fun g l=>(c_if (y != (0:Int)) l (fun k=>?_) (fun k=>?_)))
   ·have q:=cond_t k D
    refine c_sq [] [6,7] l .nil fun o g=>?_
    refine c_ret (r_then (c_rt [] (.tuple #[N0,vI y]) g .nil ?_))
    obtain rfl:=some_eq q
    exact ⟨_,rfl,A,none,0,(zt C p),rfl,(St.drop 4 m),SliceR.nil' _ _⟩
   ·have q:=cond_f k D
    refine c_skip (n_then (c_sq [.slice e1 y1.length q1] [6,7] l (.cell (m.bx 2 0 rfl rfl) .nil) fun k g=>(c_ret ?_)))
    obtain ⟨k,l,m,o⟩:=m.share (j:=0) rfl
    refine c_rt [] (.tuple #[.slice e1 y1.length q1,vI 0]) g .nil ?_
    obtain rfl:=some_eq q
    exact ⟨_,rfl,k,e1,q1,(zt (zt C p) l),rfl,(St.drop 4 m),o⟩
def F65_l1 (x0:List Part) (x1:Int):Nat→Int→Option (Int)
  | 0,_=>none
  | n1 + 1,y1 =>
    let k1:Int→Option (Int):=F65_l1 x0 x1 n1
    (cond (decide (y1<(x0.length:Int))) ((getI x0 y1).bind fun p1=>(cond (p1.lot == x1) ((getI x0 y1).bind fun p2=>(some (p2.mass))) (k1 (w64 (y1 + (1:Int)))))) (some (0)))
def F65 (fuel:Nat) (x0:List Part) (x1:Int):Option (Int) :=
  (F65_l1 x0 x1 fuel 0)
set_option maxRecDepth 100000 in
theorem f65_ok (fuel:Nat) (x0:List Part) (x1:Int) (r:Int) (hr:F65 fuel x0 x1=some r) (h:Zone) (L:List Atom) (w:World) (hS:St h L w) (o_x0:Option Addr) (c_x0:Nat) (hx_x0:SliceR PartT h o_x0 c_x0 x0) :
    Calls Tryz.prog 65 #[.agg #[.slice o_x0 x0.length c_x0],vI x1] w fun e w'=>∃v,e= .returned v∧(∃h',Zone.le h h'∧v=vI r∧St h' L w'):=by
 refine calls_intro (N:=27) Tryz.func65 (by kernel_rfl) fun a hf=>?_
 refine c_sr (c_box [.slice o_x0 x0.length c_x0] 49 hS hf fun b j k c d=>tv (c_t [] [1,2] d .nil fun l f=>(c_seq (c_sq [] [1,2,5] f .nil fun m g=>(c_block 0 (c_loop (fun n a w=>∃o:Zone,∃p:Int,Zone.le h o∧Fr a 27 [(1,vI x1),(2,pB b 0),(5,vI p)]∧St o (box b [.slice o_x0 x0.length c_x0] 49::L) w∧(F65_l1 x0 x1 n p)=some r) fuel ⟨h,0,zr,g.to,c,hr⟩ ?_))))))
 rintro b c d ⟨o,p,q,f,k,x⟩
 cases b with
 | zero=>cases x
 | succ y =>
 refine c_seq (c_sq [.slice o_x0 x0.length c_x0] [1,2,5,10] f (.cell (k.bx 0 0 rfl rfl) .nil) fun b u=>(c_if (decide (p<(x0.length:Int))) u (fun t=>?_) (fun t=>?_)))
 ·have i:=cond_t t x
  refine c_skip (n_then (c_seq (c_block 1 ?_)))
  obtain ⟨b,c,s⟩:=bind_some i
  obtain ⟨c,d,f,j,rfl,g⟩:=SliceR.getI (SliceR.mono q hx_x0) c
  refine c_sq [.slice o_x0 x0.length c_x0, .pointer (some c),vI b.lot] [1,2,5,20] u (.cell (k.bx 0 0 rfl rfl) (.prop d (.prop f (.cell (k.cell (g 0 _ rfl)) .nil)))) fun c m=>?_
  refine c_if (b.lot == x1) m (fun j=>?_) (fun j=>?_)
  ·have i:=cond_t j s
   obtain ⟨b,c,i⟩:=bind_some i
   obtain ⟨c,d,f,l,rfl,g⟩:=SliceR.getI (SliceR.mono q hx_x0) c
   refine c_sq [.slice o_x0 x0.length c_x0, .pointer (some c),vI b.mass] [4] m (.cell (k.bx 0 0 rfl rfl) (.prop d (.prop f (.cell (k.cell (g 1 _ rfl)) .nil)))) fun d c=>?_
   refine c_ret (r_block (r_then (r_then (r_block (r_then (c_rt [] (vI b.mass) c .nil ?_))))))
   obtain rfl:=some_eq i
   exact ⟨_,rfl,o,q,rfl,(St.drop 1 k)⟩
  ·have i:=cond_f j s
   refine c_skip (n_block (n_then (c_q [] [1,2,5] m .nil fun c b=>(n_then ?_))))
   exact ⟨y,Nat.lt_succ_self y,o,(w64 (p + (1:Int))),q,b.to,k,i⟩
 ·have i:=cond_f t x
  refine c_exit 0 (x_then (x_then (x_block (n_then (c_sq [] [4] u .nil fun c b=>(c_ret (c_rt [] (vI 0) b .nil ?_)))))))
  obtain rfl:=some_eq i
  exact ⟨_,rfl,o,q,rfl,(St.drop 1 k)⟩
end Go.Proofs.YtlmgjjmighajdaaGreat
