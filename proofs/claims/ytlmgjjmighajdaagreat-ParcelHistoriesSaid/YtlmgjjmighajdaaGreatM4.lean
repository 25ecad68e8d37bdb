/-
  A part of the walk and of the plain law of one given statement. No condition.
-/
import Derived.Test.YtlmgjjmighajdaaGreatM2
set_option linter.unusedVariables false
namespace Go.Proofs.YtlmgjjmighajdaaGreat
open Go.Sl Go.Sx
def F112 (fuel:Nat) (x0:Pl) (x1:Int):Option (List Part×List (Int×Bool)×Pl) :=
  ((getI x0.holds x1).bind fun p1=>(cond (decide ((w64 ((p1.length:Int) - (1:Int)))<(0:Int))) (some ([],[],x0)) ((getI x0.holds x1).bind fun p2=>((getI x0.may x1).bind fun p3=>((getI p2 (w64 ((p1.length:Int) - (1:Int)))).bind fun p4=>((getI p3 (w64 ((p1.length:Int) - (1:Int)))).bind fun p5=>(some (p4,p5,x0))))))))
set_option maxRecDepth 100000 in
theorem f112_ok (fuel:Nat) (x0:Pl) (x1:Int) (r:List Part×List (Int×Bool)×Pl) (hr:F112 fuel x0 x1=some r) (h:Zone) (L:List Atom) (w:World) (b_x0:Nat) (hS:St h (plA 69 49 101 b_x0 x0::L) w)  :
    Calls Tryz.prog 112 #[pB b_x0 0,vI x1] w fun e w'=>∃v,e= .returned v∧(∃h',∃o0:Option Addr,∃c0:Nat,∃o1:Option Nat,Zone.le h h'∧v= .agg #[.slice o0 r.1.length c0, .map o1]∧St h' (plA 69 49 101 b_x0 r.2.2::L) w'∧SliceR PartT h' o0 c0 r.1∧MapR Value.bool h' o1 r.2.1):=by
 refine calls_intro (N:=38) Tryz.func112 (by kernel_rfl) fun a hf=>?_
 refine c_sr (c_box [N0, .map none] 103 hS hf fun c R d b G=>tv (c_dt ?_))
 obtain ⟨o,p,c,d,f,g,l,n,q,s,t,u,y,z,A,B,C,D,E,F,H,b⟩:=b.plOpen (i:=1) rfl
 obtain ⟨n,d,I⟩:=bind_some hr
 obtain ⟨f,g,b,l,c⟩:=b.ownOpen (j:=0) rfl d
 refine c_seq (c_q [.slice f n.length g] [0,1,4,5] G (.prop l (.cell ((arrAddr b_x0 1 (Int.toNat x1)) ▸ (c.box (i:=4) rfl (getElem?_app_right [.slice o x0.lots.length p] _ _ b [u,y,z,A,B,C,D,E,F]))) .nil)) fun f g=>?_)
 have b:=c.ownClose' (j:=1) (k:=0) rfl rfl (by decide) b (getI_spec d).2
 have o:=b.plClose (i:=4) (j:=1) (k:=2) rfl H rfl rfl (by decide) (by decide) (by decide)
 refine n_then (c_seq (c_sq [] [0,1,4,5,16] g .nil fun b E=>(c_if (decide ((w64 ((n.length:Int) - (1:Int)))<(0:Int))) E (fun f=>?_) (fun f=>?_))))
 ·have m:=cond_t f I
  refine c_sr (c_n 1 [] [4,17] E .nil fun g c=>(c_st 3 [N0, .map none] o c rfl fun l n b d=>tv (c_dt (c_ret (r_then (c_rt [N0, .map none] (.agg #[N0, .map none]) d (.cell (b.bx 3 0 rfl rfl) (.cell (b.bx 3 1 rfl rfl) .nil)) ?_))))))
  obtain rfl:=some_eq m
  exact ⟨_,rfl,h,none,0,none,zr,rfl,(St.pick 5 [4] b (by kernel_rfl)),SliceR.nil' _ _,(MapR.nil' _ _)⟩
 ·have m:=cond_f f I
  refine c_skip (n_then (c_seq ?_))
  obtain ⟨z,A,S,T,U,V,W,X,Y,Z,a0,a1,a2,a3,a4,a5,a6,a7,a8,a9,aa,b⟩:=o.plOpen (i:=4) rfl
  obtain ⟨Q,F,m⟩:=bind_some m
  obtain ⟨M,O,C,P,b⟩:=b.ownOpen (j:=0) rfl F
  obtain ⟨K,D,m⟩:=bind_some m
  obtain ⟨G,H,B,J,b⟩:=b.ownOpen (j:=2) rfl D
  have b:=b.drew
  refine c_regD (rD 21 [20]) [20] (fun x=>x=R.drew) rfl ?_
  obtain ⟨p,c,m⟩:=bind_some m
  obtain ⟨s,t,u,d,c,y⟩:=b.ownGet (j:=1) rfl c
  obtain ⟨f,g,rfl,R⟩:=c
  obtain ⟨d,c,m⟩:=bind_some m
  obtain ⟨d,l,n,q,c,o⟩:=b.ownGet (j:=0) rfl c
  obtain ⟨c,rfl,q⟩:=c
  refine c_E 20 [.slice M Q.length O, .pointer (some s), .slice f p.length g, .slice G K.length H, .pointer (some d), .map c] [4,37] E (.prop P (.cell ((arrAddr b_x0 1 (Int.toNat x1)) ▸ (b.box (i:=8) rfl (getElem?_app_right [.slice z x0.lots.length A] _ _ C [a1,a2,a3,a4,a5,a6,a7,a8,a9]))) (.prop t (.prop u (.cell (y 0 _ rfl) (.prop J (.cell ((arrAddr b_x0 10 (Int.toNat x1)) ▸ (b.box (i:=8) rfl (getElem?_app_right [.slice z x0.lots.length A,S,T,U,V,W,X,Y,Z,a0] _ _ B []))) (.prop l (.prop n (.cell (o 0 _ rfl) .nil)))))))))) .nil fun l d=>?_
  refine c_st 7 [.slice f p.length g, .map c] b d rfl fun d l b n=>⟨fun e=>absurd e (by decide),?_⟩
  refine c_done ?_
  have b:=b.ownClose' (j:=2) (k:=1) rfl rfl (by decide) C (getI_spec F).2
  have b:=b.ownClose' (j:=3) (k:=0) rfl rfl (by decide) B (getI_spec D).2
  have b:=b.plClose (i:=8) (j:=2) (k:=3) rfl aa rfl rfl (by decide) (by decide) (by decide)
  refine n_then (c_ret (c_rt [.slice f p.length g, .map c] (.agg #[.slice f p.length g, .map c]) n (.cell (b.bx 7 0 rfl rfl) (.cell (b.bx 7 1 rfl rfl) .nil)) ?_))
  obtain rfl:=some_eq m
  exact ⟨_,rfl,h,f,g,c,zr,rfl,(St.pick 9 [8] b (by kernel_rfl)),R,q⟩
def F113 (fuel:Nat) (x0:Pl) (x1:Int):Option (Pl) :=
  ((getI x0.holds x1).bind fun p1=>(cond (decide ((w64 ((p1.length:Int) - (1:Int)))≥(0:Int))) ((getI x0.holds x1).bind fun p2=>((getI x0.may x1).bind fun p3=>((subI p2 0 (w64 ((p1.length:Int) - (1:Int)))).bind fun d1=>((subI p3 0 (w64 ((p1.length:Int) - (1:Int)))).bind fun d2=>(some ((⟨x0.lots,(x0.holds.set (Int.toNat x1) d1),(x0.may.set (Int.toNat x1) d2)⟩:Pl))))))) (some (x0))))
set_option maxRecDepth 100000 in
theorem f113_ok (fuel:Nat) (x0:Pl) (x1:Int) (r:Pl) (hr:F113 fuel x0 x1=some r) (h:Zone) (L:List Atom) (w:World) (b_x0:Nat) (hS:St h (plA 69 49 101 b_x0 x0::L) w)  :
    Calls Tryz.prog 113 #[pB b_x0 0,vI x1] w fun e w'=>∃v,e= .returned v∧(∃h',Zone.le h h'∧v= .tuple #[]∧St h' (plA 69 49 101 b_x0 r::L) w'):=by
 refine calls_intro (N:=44) Tryz.func113 (by kernel_rfl) fun a hf=>?_
 obtain ⟨p,q,d,f,g,l,m,o,s,t,u,y,z,A,B,C,D,E,F,G,H,c⟩:=hS.plOpen (i:=0) rfl
 obtain ⟨o,f,a5⟩:=bind_some hr
 obtain ⟨g,l,c,m,d⟩:=c.ownOpen (j:=0) rfl f
 refine c_seq (c_q [.slice g o.length l] [0,1,4] hf (.prop m (.cell ((arrAddr b_x0 1 (Int.toNat x1)) ▸ (d.box (i:=3) rfl (getElem?_app_right [.slice p x0.lots.length q] _ _ c [y,z,A,B,C,D,E,F,G]))) .nil)) fun g l=>?_)
 have c:=d.ownClose' (j:=1) (k:=0) rfl rfl (by decide) c (getI_spec f).2
 have a4:=c.plClose (i:=3) (j:=1) (k:=2) rfl H rfl rfl (by decide) (by decide) (by decide)
 refine n_then (c_sq [] [0,1,4,15] l .nil fun c a3=>(c_if (decide ((w64 ((o.length:Int) - (1:Int)))≥(0:Int))) a3 (fun a2=>?_) (fun a2=>?_)))
 ·have n:=cond_t a2 a5
  obtain ⟨O,P,y,z,A,B,C,H,I,J,K,Q,R,S,T,U,V,W,X,Y,a6,c⟩:=a4.plOpen (i:=3) rfl
  obtain ⟨p2,a0,n⟩:=bind_some n
  obtain ⟨p,q,Z,l,c⟩:=c.ownOpen (j:=0) rfl a0
  obtain ⟨M,a1,n⟩:=bind_some n
  obtain ⟨D,E,G,F,c⟩:=c.ownOpen (j:=2) rfl a1
  have s:=c.drew
  refine c_regD [(0,true),(1,true),(2,true),(3,true),(4,true),(5,true),(6,true),(7,true),(8,true),(9,true),(10,true),(11,true),(12,true),(13,true),(14,true),(15,true),(16,true),(17,true),(18,true),(19,true),(20,true),(21,true),(22,true),(23,true),(24,true),(26,true),(27,true),(25,false),(28,true),(29,false)] [25,29] (fun x=>x=w.drew) rfl ?_
  obtain ⟨g,c,n⟩:=bind_some n
  obtain ⟨t,u,c⟩:=s.ownSub (j:=1) rfl c
  obtain ⟨m,d,n⟩:=bind_some n
  obtain ⟨d,f,o⟩:=c.ownSub (j:=0) rfl d
  refine c_E 27 [.slice p p2.length q, .slice p g.length q, .slice D M.length E, .slice D m.length E] [19,28,36,40,42] a3 (.prop l (.cell ((arrAddr b_x0 1 (Int.toNat x1)) ▸ (s.box (i:=7) rfl (getElem?_app_right [.slice O x0.lots.length P] _ _ Z [Q,R,S,T,U,V,W,X,Y]))) (.prop t (.prop u (.prop F (.cell ((arrAddr b_x0 10 (Int.toNat x1)) ▸ (c.box (i:=7) rfl (getElem?_app_right [.slice O x0.lots.length P,y,z,A,B,C,H,I,J,K] _ _ G []))) (.prop d (.prop f (.prop l .nil))))))))) .nil fun d c=>?_
  refine p_storeA (i:=25) (j:=7) (b:=b_x0) (ix:=x1) (pre:=[.slice O x0.lots.length P]) (vs:=[y,z,A,B,C,H,I,J,K]) (post:=[Q,R,S,T,U,V,W,X,Y]) (v:= .slice p g.length q) o c rfl (by have G:=l.1; have c:=l.2; simp at c ⊢; omega) (by kernel_rfl) rfl fun f o d M=>⟨fun e=>absurd e (by decide),?_⟩
  obtain ⟨o,s,t,u,y,z,A,B,C,H⟩:=nine (vs:=[y,z,A,B,C,H,I,J,K].set (Int.toNat x1) (.slice p g.length q)) (by simp)
  rw [H] at d
  have f:[o,s,t,u,y,z,A,B,C][Int.toNat x1]? =some (.slice p g.length q):=by rw [← H]; exact List.getElem?_set_self (by have G:=l.1; have c:=l.2; simp at c ⊢; omega)
  have f:=d
  refine p_qP 1 [] [(36, .slice D m.length E),(43, .pointer (some ((⟨b_x0,10,none⟩:Addr).add (Int.toNat x1 * 1))))] [.prop (0≤x1∧x1<(9:Nat))] M (by kernel_rfl) (fun _=>(.prop F .nil)) fun g d=>?_
  refine p_storeA (i:=29) (j:=7) (b:=b_x0) (ix:=x1) (pre:=[.slice O x0.lots.length P,o,s,t,u,y,z,A,B,C]) (vs:=[Q,R,S,T,U,V,W,X,Y]) (post:=[]) (v:= .slice D m.length E) f d rfl (by have G:=F.1; have c:=F.2; simp at c ⊢; omega) (by kernel_rfl) rfl fun f g d z=>⟨fun e=>absurd e (by decide),?_⟩
  obtain ⟨f,g,l,o,p,q,s,t,u,y⟩:=nine (vs:=[Q,R,S,T,U,V,W,X,Y].set (Int.toNat x1) (.slice D m.length E)) (by simp)
  rw [y] at d
  have c:[f,g,l,o,p,q,s,t,u][Int.toNat x1]? =some (.slice D m.length E):=by rw [← y]; exact List.getElem?_set_self (by have G:=F.1; have c:=F.2; simp at c ⊢; omega)
  have c:=d
  refine c_done ?_
  have c:=c.ownClose (j:=2) (k:=1) rfl rfl (by decide) (List.getElem?_eq_some_iff.1 (getI_spec a0).2).1
  rw [H] at c
  have c:=c.ownClose (j:=3) (k:=0) rfl rfl (by decide) (List.getElem?_eq_some_iff.1 (getI_spec a1).2).1
  rw [y] at c
  have c:=c.plClose (i:=7) (j:=2) (k:=3) rfl a6 rfl rfl (by decide) (by decide) (by decide)
  refine c_fall [] (.tuple #[]) z .nil ?_
  obtain rfl:=some_eq n
  exact ⟨_,rfl,h,zr,rfl,(St.pick 8 [7] c (by kernel_rfl))⟩
 ·have n:=cond_f a2 a5
  refine c_skip (c_fall [] (.tuple #[]) a3 .nil ?_)
  obtain rfl:=some_eq n
  exact ⟨_,rfl,h,zr,rfl,(St.pick 4 [3] a4 (by kernel_rfl))⟩
def F107_j1 (fuel:Nat) (x1:Int) (y1:Pl) (y2:List Part) (y3:List (Int×Bool)):Option (Pl) :=
  ((F113 fuel y1 x1).bind fun r1=>((F109 fuel r1 x1 y2 y3).bind fun r2=>(some (r2))))
def F107 (fuel:Nat) (x0:Pl) (x1:Int) (x2p:List Part) (x2y:List (Int×Bool)):Option (Pl) :=
  ((F112 fuel x0 x1).bind fun r3=>((F111 fuel r3.1 r3.2.1 x2p x2y).bind fun r4=>(F107_j1 fuel x1 r3.2.2 r4.1 r4.2)))
set_option maxRecDepth 100000 in
theorem f107_ok (fuel:Nat) (x0:Pl) (x1:Int) (x2p:List Part) (x2y:List (Int×Bool)) (r:Pl) (hr:F107 fuel x0 x1 x2p x2y=some r) (h:Zone) (L:List Atom) (w:World) (b_x0:Nat) (hS:St h (plA 69 49 101 b_x0 x0::L) w) (o_x2p:Option Addr) (c_x2p:Nat) (hx_x2p:SliceR PartT h o_x2p c_x2p x2p) (o_x2y:Option Nat) (hx_x2y:MapR Value.bool h o_x2y x2y) :
    Calls Tryz.prog 107 #[pB b_x0 0,vI x1, .agg #[.slice o_x2p x2p.length c_x2p, .map o_x2y]] w fun e w'=>∃v,e= .returned v∧(∃h',Zone.le h h'∧v= .tuple #[]∧St h' (plA 69 49 101 b_x0 r::L) w'):=by
 refine calls_intro (N:=19) Tryz.func107 (by kernel_rfl) fun a hf=>?_
 refine c_sr (c_box [.slice o_x2p x2p.length c_x2p, .map o_x2y] 103 hS hf fun c d f b g=>tv (c_dt (c_mid (fun a w=>∃I:Zone,∃Q:Pl,∃J:List Part,∃S:List (Int×Bool),∃T:Nat,∃M:Option Addr,∃O:Nat,∃P:Option Nat,Zone.le h I∧Fr a 19 [(0,pB b_x0 0),(1,vI x1),(6,pB T 0)]∧St I (box T [.slice M J.length O, .map P] 103::box c [.slice o_x2p x2p.length c_x2p, .map o_x2y] 103::plA 69 49 101 b_x0 Q::L) w∧SliceR PartT I M O J∧MapR Value.bool I P S∧(F107_j1 fuel x1 Q J S)=some r) ?_ ?_)))
 ·skip
  have K:=b.drew
  have b:=Sub.of zr (K.mask (i:=1) rfl)
  refine w_regB (by kernel_rfl) [4,6] (Sub h (box c [.slice o_x2p x2p.length c_x2p, .map o_x2y] 103::anyA::L)) (by kernel_rfl) ?_
  refine k_seg' 4 [(0,true),(1,true),(3,true)] (by kernel_rfl) (by kernel_rfl) (At.start b) (by kernel_rfl) ?_
  refine c_S 3 [.slice o_x2p x2p.length c_x2p, .map o_x2y] [0,1,7,8,10] b g (fun _ s=>(.cell (s.bx 0 0 rfl rfl) (.cell (s.bx 0 1 rfl rfl) .nil))) .nil fun b R=>?_
  refine c_done ?_
  intro b
  refine k_any' 3 [2,5] (by kernel_rfl) b (by kernel_rfl) (by kernel_rfl) ?_
  refine (all_cons ?_ (all_cons ?_ all_nil))
  ·skip
   have b:=St.swapTo (i:=2) (j:=0) (St.addEmp K) rfl rfl (by decide)
   have c:=b
   obtain ⟨y,b,H⟩:=bind_some hr
   refine c_call R (f112_ok fuel x0 x1 y b h _ _ b_x0 c ) ?_
   rintro c d f ⟨B,C,D,E,o,rfl,b,F,G⟩ A
   have b:=St.swapTo (i:=0) (j:=2) b rfl rfl (by decide)
   have t:=b
   refine ⟨fun _=>Sub.of o ((St.drop 1 t).mask (i:=1) rfl),?_⟩
   refine c_done ?_
   intro b
   have c:=Sub.of o ((St.drop 1 t).mask (i:=1) rfl)
   refine k_seg' 3 [] (by kernel_rfl) (by kernel_rfl) b (by kernel_rfl) ?_
   refine c_done ?_
   intro b
   refine k_any' 2 [4,5] (by kernel_rfl) b (by kernel_rfl) (by kernel_rfl) ?_
   refine (all_cons ?_ (all_cons ?_ all_nil))
   ·skip
    obtain ⟨g,b,p⟩:=bind_some H
    refine c_call A (f111_ok fuel y.1 y.2.1 x2p x2y g b B _ _ t C D F E G o_x2p c_x2p (SliceR.mono o hx_x2p) o_x2y (MapR.mono o hx_x2y)) ?_
    rintro b c d ⟨u,m,n,q,k,rfl,f,x,z⟩ l
    refine ⟨fun e=>absurd e (by decide),?_⟩
    refine c_done ?_
    intro b
    refine k_seg' 0 [(5,false),(6,false)] (by kernel_rfl) (by kernel_rfl) b (by kernel_rfl) ?_
    refine c_box [N0, .map none] 103 f l fun l d f b c=>⟨fun _=>Sub.of (zt o k) ((St.drop 2 b).mask (i:=1) rfl),?_⟩
    have d:=Sub.of (zt o k) ((St.drop 2 b).mask (i:=1) rfl)
    refine c_st 0 [.slice m g.1.length n, .map q] b c rfl fun b c d f=>⟨fun e=>absurd e (by decide),?_⟩
    refine c_done ?_
    intro b
    refine k_done' (by kernel_rfl) (by kernel_rfl) ?_
    refine n_then ?_
    exact ⟨u,y.2.2,g.1,g.2,l,m,n,q,(zt o k),f.to,(St.pick 2 [0] d (by kernel_rfl)),x,z,p⟩
   ·skip
    refine c_box [N0, .map none] 103 t A fun z b d c f=>⟨fun _=>Sub.of o ((St.drop 2 c).mask (i:=1) rfl),?_⟩
    refine c_done ?_
    intro b
    have d:=Sub.of o ((St.drop 2 c).mask (i:=1) rfl)
    refine k_seg' 0 [(4,false),(6,false)] (by kernel_rfl) (by kernel_rfl) b (by kernel_rfl) ?_
    obtain ⟨d,b,p⟩:=bind_some H
    refine c_call f (f111_ok fuel y.1 y.2.1 x2p x2y d b B _ _ c C D F E G o_x2p c_x2p (SliceR.mono o hx_x2p) o_x2y (MapR.mono o hx_x2y)) ?_
    rintro f g k ⟨q,l,m,n,t,rfl,b,u,x⟩ c
    refine ⟨fun e=>absurd e (by decide),?_⟩
    refine c_st 0 [.slice l d.1.length m, .map n] b c rfl fun b c f g=>⟨fun e=>absurd e (by decide),?_⟩
    refine c_done ?_
    intro b
    refine k_done' (by kernel_rfl) (by kernel_rfl) ?_
    refine n_then ?_
    exact ⟨q,y.2.2,d.1,d.2,z,l,m,n,(zt o t),g.to,(St.pick 2 [0] f (by kernel_rfl)),u,x,p⟩
  ·skip
   refine c_box [N0, .map none] 103 K R fun z c d b f=>⟨fun _=>Sub.of zr ((St.drop 1 b).mask (i:=1) rfl),?_⟩
   refine c_done ?_
   intro c
   have d:=Sub.of zr ((St.drop 1 b).mask (i:=1) rfl)
   refine k_seg' 0 [(2,false),(4,false),(6,false)] (by kernel_rfl) (by kernel_rfl) c (by kernel_rfl) ?_
   have b:=St.swapTo (i:=3) (j:=0) (St.addEmp b) rfl rfl (by decide)
   have c:=b
   obtain ⟨q,b,p⟩:=bind_some hr
   refine c_call f (f112_ok fuel x0 x1 q b h _ _ b_x0 c ) ?_
   rintro c d g ⟨k,l,m,n,f,rfl,b,o,t⟩ u
   have b:=St.swapTo (i:=0) (j:=3) b rfl rfl (by decide)
   have b:=b
   refine ⟨fun _=>Sub.of f ((St.drop 2 b).mask (i:=1) rfl),?_⟩
   have c:=Sub.of f ((St.drop 2 b).mask (i:=1) rfl)
   obtain ⟨d,c,p⟩:=bind_some p
   refine c_call u (f111_ok fuel q.1 q.2.1 x2p x2y d c k _ _ b l m o n t o_x2p c_x2p (SliceR.mono f hx_x2p) o_x2y (MapR.mono f hx_x2y)) ?_
   rintro g k l ⟨t,m,n,o,u,rfl,b,x,y⟩ c
   refine ⟨fun e=>absurd e (by decide),?_⟩
   refine c_st 1 [.slice m d.1.length n, .map o] b c rfl fun b c g k=>⟨fun e=>absurd e (by decide),?_⟩
   refine c_done ?_
   intro b
   refine k_done' (by kernel_rfl) (by kernel_rfl) ?_
   refine n_then ?_
   exact ⟨t,q.2.2,d.1,d.2,z,m,n,o,(zt f u),k.to,(St.pick 2 [1] g (by kernel_rfl)),x,y,p⟩
 ·rintro d f ⟨I,Q,J,S,T,M,O,P,q,b,c,n,o,p⟩
  refine c_sr (c_n 2 [] [0,1,6,12,13] b .nil fun b d=>?_)
  have b:=St.swapTo (i:=3) (j:=0) (St.addEmp c) rfl rfl (by decide)
  have c:=b
  obtain ⟨k,b,p⟩:=bind_some p
  refine c_call d (f113_ok fuel Q x1 k b I _ _ b_x0 c ) ?_
  rintro c d f ⟨m,l,rfl,b⟩ g
  have b:=St.swapTo (i:=0) (j:=3) b rfl rfl (by decide)
  have b:=b
  refine tv ?_
  refine c_dt (c_reg (c_n 3 [.slice M J.length O, .map P] [15,16,17] g (.cell (b.bx 1 0 rfl rfl) (.cell (b.bx 1 1 rfl rfl) .nil)) fun c f=>?_))
  have b:=St.swapTo (i:=4) (j:=0) (St.addEmp b) rfl rfl (by decide)
  have d:=b
  obtain ⟨b,c,p⟩:=bind_some p
  refine c_call f (f109_ok fuel k x1 J S b c m _ _ b_x0 d M O (SliceR.mono l n) P (MapR.mono l o)) ?_
  rintro c d f ⟨k,m,rfl,b⟩ g
  have b:=St.swapTo (i:=0) (j:=4) b rfl rfl (by decide)
  have b:=b
  refine tv ?_
  refine c_done (c_fall [] (.tuple #[]) g .nil ?_)
  obtain rfl:=some_eq p
  exact ⟨_,rfl,k,(zt (zt q l) m),rfl,(St.pick 5 [4] b (by kernel_rfl))⟩
def F108 (fuel:Nat) (x0k:Int) (x0o:Int) (x0f:Int) (x0t:Int) (x0m:Int):Option (List Part×List (Int×Bool)) :=
  (some ([⟨x0o,x0m⟩],(putK ([]) x0o true)))
set_option maxRecDepth 100000 in
theorem f108_ok (fuel:Nat) (x0k:Int) (x0o:Int) (x0f:Int) (x0t:Int) (x0m:Int) (r:List Part×List (Int×Bool)) (hr:F108 fuel x0k x0o x0f x0t x0m=some r) (h:Zone) (L:List Atom) (w:World) (hS:St h L w)  :
    Calls Tryz.prog 108 #[.agg #[vI x0k,vI x0o,vI x0f,vI x0t,vI x0m]] w fun e w'=>∃v,e= .returned v∧(∃h',∃o0:Option Addr,∃c0:Nat,∃o1:Option Nat,Zone.le h h'∧v= .agg #[.slice o0 r.1.length c0, .map o1]∧St h' L w'∧SliceR PartT h' o0 c0 r.1∧MapR Value.bool h' o1 r.2):=by
 refine calls_intro (N:=15) Tryz.func108 (by kernel_rfl) fun a hf=>?_
 refine c_sr (c_box [vI x0k,vI x0o,vI x0f,vI x0t,vI x0m] 74 hS hf fun u x y g l=>tv (c_box [N0, .map none] 103 g l fun z A B f m=>tv (c_dt (c_sr (c_n 5 [vI x0o,vI x0m] [1,2,7] m (.cell (f.bx 1 1 rfl rfl) (.cell (f.bx 1 4 rfl rfl) .nil)) fun C o=>(p_box (i:=5) (d:=(some 8)) (cs:=[vI x0o,vI x0m]) (T:=53) (v:=fun q=> .slice (some ⟨q,0,none⟩) 1 1) f o (fun b=>by kernel_rfl) fun q D F p s=>tv ?_))))))
 have g:=p.ownBox (T:=PartT) (E:=53) (n:=1) (xs:=[⟨x0o,x0m⟩]) (i:=0) rfl (Rows.cons (c:=[vI x0o,vI x0m]) rfl rfl) rfl (by decide)
 refine c_n 1 [] [1,2,9] s .nil fun l f=>?_
 refine p_makeMap (i:=7) (d:=(some 10)) Value.bool g f (fun b=>by kernel_rfl) fun l m o f g=>tv ?_
 refine c_n 2 [vI x0o] [2,9,10,12] g (.cell (f.bx 3 1 rfl rfl) .nil) fun m g=>?_
 refine p_put (i:=10) (j:=0) (t:=101) (r:=l) (k:=x0o) (v:=true) f g rfl (by kernel_rfl) mp101 fun m o g f=>tv ?_
 refine c_n 2 [] [2,14] f .nil fun m f=>?_
 refine c_st 2 [.slice (some ⟨q,0,none⟩) 1 1, .map (some l)] g f rfl fun g m f p=>tv ?_
 refine c_dt (c_ret ?_)
 obtain ⟨g,s,f,u⟩:=f.share (j:=1) rfl
 obtain ⟨m,g,f,o⟩:=f.mapShare (j:=0) rfl
 refine c_rt [.slice (some ⟨q,0,none⟩) 1 1, .map (some l)] (.agg #[.slice (some ⟨q,0,none⟩) 1 1, .map (some l)]) p (.cell (f.bx 2 0 rfl rfl) (.cell (f.bx 2 1 rfl rfl) .nil)) ?_
 obtain rfl:=some_eq hr
 exact ⟨_,rfl,m,(some ⟨q,0,none⟩),1,(some l),(zt s g),rfl,(St.drop 4 f),(SliceR.mono g u),o⟩
def F94 (fuel:Nat) (x0:Pl) (x1k:Int) (x1o:Int) (x1f:Int) (x1t:Int) (x1m:Int):Option (List Part×List (Int×Bool)×Pl) :=
  ((F108 fuel x1k x1o x1f x1t x1m).bind fun r1=>((F107 fuel x0 x1t r1.1 r1.2).bind fun r2=>((F108 fuel x1k x1o x1f x1t x1m).bind fun r3=>(some (r3.1,r3.2,r2)))))
set_option maxRecDepth 100000 in
theorem f94_ok (fuel:Nat) (x0:Pl) (x1k:Int) (x1o:Int) (x1f:Int) (x1t:Int) (x1m:Int) (r:List Part×List (Int×Bool)×Pl) (hr:F94 fuel x0 x1k x1o x1f x1t x1m=some r) (h:Zone) (L:List Atom) (w:World) (b_x0:Nat) (hS:St h (plA 69 49 101 b_x0 x0::L) w)  :
    Calls Tryz.prog 94 #[pB b_x0 0, .agg #[vI x1k,vI x1o,vI x1f,vI x1t,vI x1m]] w fun e w'=>∃v,e= .returned v∧(∃h',∃o0:Option Addr,∃c0:Nat,∃o1:Option Nat,Zone.le h h'∧v= .agg #[.slice o0 r.1.length c0, .map o1]∧St h' (plA 69 49 101 b_x0 r.2.2::L) w'∧SliceR PartT h' o0 c0 r.1∧MapR Value.bool h' o1 r.2.1):=by
 refine calls_intro (N:=13) Tryz.func94 (by kernel_rfl) fun a hf=>?_
 refine c_sr (c_box [vI x1k,vI x1o,vI x1f,vI x1t,vI x1m] 74 hS hf fun f g k b c=>tv (c_box [N0, .map none] 103 b c fun l m n d o=>tv (c_dt (c_seq ?_))))
 have d:=d.drew
 have b:=Sub.of zr d
 refine c_regD (rD 6 [4,5]) [5] _ b ?_
 refine c_S 4 [vI x1t,vI x1k,vI x1o,vI x1f,vI x1t,vI x1m] [3,4,5,7,8] b o (fun _ s=>(.cell (s.bx 1 3 rfl rfl) (.cell (s.bx 1 0 rfl rfl) (.cell (s.bx 1 1 rfl rfl) (.cell (s.bx 1 2 rfl rfl) (.cell (s.bx 1 3 rfl rfl) (.cell (s.bx 1 4 rfl rfl) .nil))))))) .nil fun b c=>?_
 obtain ⟨f,b,u⟩:=bind_some hr
 refine c_call c (f108_ok fuel x1k x1o x1f x1t x1m f b h _ _ d ) ?_
 rintro c d g ⟨k,l,m,n,x,rfl,b,o,p⟩ q
 refine ⟨fun _=>Sub.of x b,?_⟩
 have c:=Sub.of x b
 have b:=St.swapTo (i:=3) (j:=0) (St.addEmp b) rfl rfl (by decide)
 have d:=b
 obtain ⟨b,c,u⟩:=bind_some u
 refine c_call q (f107_ok fuel x0 x1t f.1 f.2 b c k _ _ b_x0 d l m o n p) ?_
 rintro c d f ⟨k,y,rfl,b⟩ g
 have b:=St.swapTo (i:=0) (j:=3) b rfl rfl (by decide)
 have b:=b
 refine ⟨fun e=>absurd e (by decide),?_⟩
 refine c_dt (c_sr (c_n 1 [vI x1k,vI x1o,vI x1f,vI x1t,vI x1m] [4,11] g (.cell (b.bx 2 0 rfl rfl) (.cell (b.bx 2 1 rfl rfl) (.cell (b.bx 2 2 rfl rfl) (.cell (b.bx 2 3 rfl rfl) (.cell (b.bx 2 4 rfl rfl) .nil))))) fun c f=>?_))
 obtain ⟨c,d,u⟩:=bind_some u
 refine c_call f (f108_ok fuel x1k x1o x1f x1t x1m c d k _ _ b ) ?_
 rintro l m n ⟨o,d,f,g,p,rfl,b,q,t⟩ k
 refine tv ?_
 refine c_st 1 [.slice d c.1.length f, .map g] b k rfl fun l m b k=>tv ?_
 refine c_dt (c_ret (c_rt [.slice d c.1.length f, .map g] (.agg #[.slice d c.1.length f, .map g]) k (.cell (b.bx 1 0 rfl rfl) (.cell (b.bx 1 1 rfl rfl) .nil)) ?_))
 obtain rfl:=some_eq u
 exact ⟨_,rfl,o,d,f,g,(zt (zt x y) p),rfl,(St.pick 4 [3] b (by kernel_rfl)),q,t⟩
def F95 (fuel:Nat) (x0:Pl) (x1k:Int) (x1o:Int) (x1f:Int) (x1t:Int) (x1m:Int):Option (List Part×List (Int×Bool)×Pl) :=
  ((F108 fuel x1k x1o x1f x1t x1m).bind fun r1=>((F109 fuel x0 x1t r1.1 r1.2).bind fun r2=>((F108 fuel x1k x1o x1f x1t x1m).bind fun r3=>(some (r3.1,r3.2,r2)))))
set_option maxRecDepth 100000 in
theorem f95_ok (fuel:Nat) (x0:Pl) (x1k:Int) (x1o:Int) (x1f:Int) (x1t:Int) (x1m:Int) (r:List Part×List (Int×Bool)×Pl) (hr:F95 fuel x0 x1k x1o x1f x1t x1m=some r) (h:Zone) (L:List Atom) (w:World) (b_x0:Nat) (hS:St h (plA 69 49 101 b_x0 x0::L) w)  :
    Calls Tryz.prog 95 #[pB b_x0 0, .agg #[vI x1k,vI x1o,vI x1f,vI x1t,vI x1m]] w fun e w'=>∃v,e= .returned v∧(∃h',∃o0:Option Addr,∃c0:Nat,∃o1:Option Nat,Zone.le h h'∧v= .agg #[.slice o0 r.1.length c0, .map o1]∧St h' (plA 69 49 101 b_x0 r.2.2::L) w'∧SliceR PartT h' o0 c0 r.1∧MapR Value.bool h' o1 r.2.1):=by
 refine calls_intro (N:=13) Tryz.func95 (by kernel_rfl) fun a hf=>?_
 refine c_sr (c_box [vI x1k,vI x1o,vI x1f,vI x1t,vI x1m] 74 hS hf fun f g k b c=>tv (c_box [N0, .map none] 103 b c fun l m n d o=>tv (c_dt (c_seq ?_))))
 have d:=d.drew
 have b:=Sub.of zr d
 refine c_regD (rD 6 [4,5]) [5] _ b ?_
 refine c_S 4 [vI x1t,vI x1k,vI x1o,vI x1f,vI x1t,vI x1m] [3,4,5,7,8] b o (fun _ s=>(.cell (s.bx 1 3 rfl rfl) (.cell (s.bx 1 0 rfl rfl) (.cell (s.bx 1 1 rfl rfl) (.cell (s.bx 1 2 rfl rfl) (.cell (s.bx 1 3 rfl rfl) (.cell (s.bx 1 4 rfl rfl) .nil))))))) .nil fun b c=>?_
 obtain ⟨f,b,u⟩:=bind_some hr
 refine c_call c (f108_ok fuel x1k x1o x1f x1t x1m f b h _ _ d ) ?_
 rintro c d g ⟨k,l,m,n,x,rfl,b,o,p⟩ q
 refine ⟨fun _=>Sub.of x b,?_⟩
 have c:=Sub.of x b
 have b:=St.swapTo (i:=3) (j:=0) (St.addEmp b) rfl rfl (by decide)
 have d:=b
 obtain ⟨b,c,u⟩:=bind_some u
 refine c_call q (f109_ok fuel x0 x1t f.1 f.2 b c k _ _ b_x0 d l m o n p) ?_
 rintro c d f ⟨k,y,rfl,b⟩ g
 have b:=St.swapTo (i:=0) (j:=3) b rfl rfl (by decide)
 have b:=b
 refine ⟨fun e=>absurd e (by decide),?_⟩
 refine c_dt (c_sr (c_n 1 [vI x1k,vI x1o,vI x1f,vI x1t,vI x1m] [4,11] g (.cell (b.bx 2 0 rfl rfl) (.cell (b.bx 2 1 rfl rfl) (.cell (b.bx 2 2 rfl rfl) (.cell (b.bx 2 3 rfl rfl) (.cell (b.bx 2 4 rfl rfl) .nil))))) fun c f=>?_))
 obtain ⟨c,d,u⟩:=bind_some u
 refine c_call f (f108_ok fuel x1k x1o x1f x1t x1m c d k _ _ b ) ?_
 rintro l m n ⟨o,d,f,g,p,rfl,b,q,t⟩ k
 refine tv ?_
 refine c_st 1 [.slice d c.1.length f, .map g] b k rfl fun l m b k=>tv ?_
 refine c_dt (c_ret (c_rt [.slice d c.1.length f, .map g] (.agg #[.slice d c.1.length f, .map g]) k (.cell (b.bx 1 0 rfl rfl) (.cell (b.bx 1 1 rfl rfl) .nil)) ?_))
 obtain rfl:=some_eq u
 exact ⟨_,rfl,o,d,f,g,(zt (zt x y) p),rfl,(St.pick 4 [3] b (by kernel_rfl)),q,t⟩
def F96_l1 (fuel:Nat) (x1f:Int):Nat→Pl→(List Part)→(List (Int×Bool))→Int→Option (List Part×List (Int×Bool)×Pl)
  | 0,_,_,_,_=>none
  | n1 + 1,y1,y2,y3,y4 =>
    let k1:Pl→(List Part)→(List (Int×Bool))→Int→Option (List Part×List (Int×Bool)×Pl):=F96_l1 fuel x1f n1
    ((getI y1.holds x1f).bind fun p1=>(cond (decide ((p1.length:Int) > (0:Int))) ((F112 fuel y1 x1f).bind fun r1=>((F113 fuel r1.2.2 x1f).bind fun r2=>((F38 fuel r1.1).bind fun r3=>((F39 fuel r1.1 (if r3<y4 then r3 else y4)).bind fun r4=>((F111 fuel y2 y3 r4.1 r1.2.1).bind fun r5=>(cond ((w64 (y4 - (if r3<y4 then r3 else y4))) == (0:Int)) ((F109 fuel r2 x1f r4.2 r1.2.1).bind fun r6=>(some (r5.1,r5.2,r6))) (k1 r2 r5.1 r5.2 (w64 (y4 - (if r3<y4 then r3 else y4)))))))))) (some (y2,y3,y1))))
def F96_j1 (fuel:Nat) (x0:Pl) (x1f:Int) (x1m:Int):Option (List Part×List (Int×Bool)×Pl) :=
  (F96_l1 fuel x1f fuel x0 ([]) ([]) x1m)
def F96 (fuel:Nat) (x0:Pl) (x1k:Int) (x1o:Int) (x1f:Int) (x1t:Int) (x1m:Int):Option (List Part×List (Int×Bool)×Pl) :=
  (F96_j1 fuel x0 x1f x1m)
set_option maxRecDepth 100000 in
theorem f96_ok (fuel:Nat) (x0:Pl) (x1k:Int) (x1o:Int) (x1f:Int) (x1t:Int) (x1m:Int) (r:List Part×List (Int×Bool)×Pl) (hr:F96 fuel x0 x1k x1o x1f x1t x1m=some r) (h:Zone) (L:List Atom) (w:World) (b_x0:Nat) (hS:St h (plA 69 49 101 b_x0 x0::L) w)  :
    Calls Tryz.prog 96 #[pB b_x0 0, .agg #[vI x1k,vI x1o,vI x1f,vI x1t,vI x1m]] w fun e w'=>∃v,e= .returned v∧(∃h',∃o0:Option Addr,∃c0:Nat,∃o1:Option Nat,Zone.le h h'∧v= .agg #[.slice o0 r.1.length c0, .map o1]∧St h' (plA 69 49 101 b_x0 r.2.2::L) w'∧SliceR PartT h' o0 c0 r.1∧MapR Value.bool h' o1 r.2.1):=by
 refine calls_intro (N:=51) Tryz.func96 (by kernel_rfl) fun a hf=>?_
 refine c_sr (c_box [pB b_x0 0] 61 hS hf fun R q t b c=>tv (c_box [vI x1k,vI x1o,vI x1f,vI x1t,vI x1m] 74 b c fun S u x m o=>tv (c_box [N0, .map none] 103 m o fun T y z p A=>tv (c_dt (c_mid (fun a w=>∃I:Zone,∃W:Nat,∃X:Nat,Zone.le h I∧Fr a 51 [(2,pB R 0),(3,pB S 0),(4,pB T 0),(5,pB W 0),(6,pB X 0)]∧St I (box W [N0, .map none] 103::box X [vI x1m] 3::box T [N0, .map none] 103::box S [vI x1k,vI x1o,vI x1f,vI x1t,vI x1m] 74::box R [pB b_x0 0] 61::plA 69 49 101 b_x0 x0::L) w∧(F96_j1 fuel x0 x1f x1m)=some r) ?_ ?_)))))
 ·skip
  have q:=p.drew
  have b:Sub h (box T [N0, .map none] 103::box S [vI x1k,vI x1o,vI x1f,vI x1t,vI x1m] 74::box R [pB b_x0 0] 61::plA 69 49 101 b_x0 x0::L) _:=Sub.of zr q
  refine w_regB (by kernel_rfl) [6] (Sub h (box T [N0, .map none] 103::box S [vI x1k,vI x1o,vI x1f,vI x1t,vI x1m] 74::box R [pB b_x0 0] 61::plA 69 49 101 b_x0 x0::L)) (by kernel_rfl) ?_
  refine k_seg' 4 [(0,true),(1,true),(2,true)] (by kernel_rfl) (by kernel_rfl) (At.start b) (by kernel_rfl) ?_
  refine c_S 3 [vI x1m] [2,3,4,11,13] b A (fun _ s=>(.cell (s.bx 1 4 rfl rfl) .nil)) .nil fun b t=>?_
  refine c_done ?_
  intro b
  refine k_any' 3 [3,4] (by kernel_rfl) b (by kernel_rfl) (by kernel_rfl) ?_
  refine (all_cons ?_ (all_cons ?_ all_nil))
  ·skip
   refine c_box [N0, .map none] 103 q t fun u c m b o=>⟨fun _=>Sub.of zr (St.drop 1 b),?_⟩
   refine c_done ?_
   intro c
   have m:Sub h (box T [N0, .map none] 103::box S [vI x1k,vI x1o,vI x1f,vI x1t,vI x1m] 74::box R [pB b_x0 0] 61::plA 69 49 101 b_x0 x0::L) _:=Sub.of zr (St.drop 1 b)
   refine k_seg' 0 [(4,false),(5,false),(6,false)] (by kernel_rfl) (by kernel_rfl) c (by kernel_rfl) ?_
   refine c_box [vI 0] 3 b o fun p m o b c=>⟨fun _=>Sub.of zr (St.drop 2 b),?_⟩
   have m:Sub h (box T [N0, .map none] 103::box S [vI x1k,vI x1o,vI x1f,vI x1t,vI x1m] 74::box R [pB b_x0 0] 61::plA 69 49 101 b_x0 x0::L) _:=Sub.of zr (St.drop 2 b)
   refine c_st 1 [N0, .map none] b c rfl fun m o b c=>⟨fun _=>Sub.of zr (St.drop 2 b),?_⟩
   have m:Sub h (box T [N0, .map none] 103::box S [vI x1k,vI x1o,vI x1f,vI x1t,vI x1m] 74::box R [pB b_x0 0] 61::plA 69 49 101 b_x0 x0::L) _:=Sub.of zr (St.drop 2 b)
   refine c_st 0 [vI x1m] b c rfl fun b c m o=>⟨fun e=>absurd e (by decide),?_⟩
   refine c_done ?_
   intro b
   refine k_done' (by kernel_rfl) (by kernel_rfl) ?_
   refine n_then ?_
   exact ⟨h,u,p,zr,o.to,(St.pick 2 [1,0] m (by kernel_rfl)),hr⟩
  ·skip
   refine c_box [vI 0] 3 q t fun q c m b o=>⟨fun _=>Sub.of zr (St.drop 1 b),?_⟩
   refine c_done ?_
   intro c
   have m:Sub h (box T [N0, .map none] 103::box S [vI x1k,vI x1o,vI x1f,vI x1t,vI x1m] 74::box R [pB b_x0 0] 61::plA 69 49 101 b_x0 x0::L) _:=Sub.of zr (St.drop 1 b)
   refine k_seg' 0 [(3,false),(5,false),(6,false)] (by kernel_rfl) (by kernel_rfl) c (by kernel_rfl) ?_
   refine c_box [N0, .map none] 103 b o fun p m o b c=>⟨fun _=>Sub.of zr (St.drop 2 b),?_⟩
   have m:Sub h (box T [N0, .map none] 103::box S [vI x1k,vI x1o,vI x1f,vI x1t,vI x1m] 74::box R [pB b_x0 0] 61::plA 69 49 101 b_x0 x0::L) _:=Sub.of zr (St.drop 2 b)
   refine c_st 0 [N0, .map none] b c rfl fun m o b c=>⟨fun _=>Sub.of zr (St.drop 2 b),?_⟩
   have m:Sub h (box T [N0, .map none] 103::box S [vI x1k,vI x1o,vI x1f,vI x1t,vI x1m] 74::box R [pB b_x0 0] 61::plA 69 49 101 b_x0 x0::L) _:=Sub.of zr (St.drop 2 b)
   refine c_st 1 [vI x1m] b c rfl fun b c m o=>⟨fun e=>absurd e (by decide),?_⟩
   refine c_done ?_
   intro b
   refine k_done' (by kernel_rfl) (by kernel_rfl) ?_
   refine n_then ?_
   exact ⟨h,p,q,zr,o.to,(St.pick 2 [0,1] m (by kernel_rfl)),hr⟩
 ·rintro m o ⟨I,W,X,k2,c,b,G⟩
  refine c_seq (c_sr (c_n 3 [pB b_x0 0,vI x1f] [2,3,4,5,6,14,16] c (.cell (b.bx 4 0 rfl rfl) (.cell (b.bx 3 2 rfl rfl) .nil)) fun u c=>(p_inl (i:=3) (d:=some 17) (f:=110) (args:= #[pB b_x0 0,vI x1f]) (N':=6) c (by kernel_rfl) Tryz.func110 (by kernel_rfl) fun x m=>(c_sr (c_box [pB b_x0 0] 61 b m fun J y z b o=>tv (c_box [vI x1f] 3 b o fun K A B H p=>tv (c_t [] [2,3] p .nil fun C q=>(c_sq [] [4] q .nil fun D t=>(c_ret (c_rt [] (.func (.func 116) #[] #[pB J 0,pB K 0]) t .nil (⟨_,rfl,fun E F=>?_⟩)))))))))))
  refine tv ?_
  refine c_dt (c_block 0 ?_)
  have b:=Fr.to (r:=[(2,pB R 0),(3,pB S 0),(4,pB T 0),(5,pB W 0),(6,pB X 0),(17, .func (.func 116) #[] #[pB J 0,pB K 0])]) F
  refine w_range (g:=17) (gf:=116) (lb:= #[pB J 0,pB K 0]) (by kernel_rfl) b H (by kernel_rfl) (fun l=>by kernel_rfl) fun a4 RA1 RB1 a0 a1 a3 l1 D1 b c=>?_
  refine calls_intro (N:=24) Tryz.func116 (by kernel_rfl) fun m b=>?_
  refine c_block 0 (c_loop (fun n a w=>∃z2:Zone,∃A:Pl,∃Y:List Part,∃y3:List (Int×Bool),∃y:Int,∃Z:Option Addr,∃q1:Nat,∃e2:Option Nat,Zone.le I z2∧Fr a 24 [(0, .func (.yield l1) #[] #[]),(1,pB J 0),(2,pB K 0)]∧St z2 (loopA l1 51 [(2,pB R 0),(3,pB S 0),(4,pB T 0),(5,pB W 0),(6,pB X 0),(17, .func (.func 116) #[] #[pB J 0,pB K 0])] a4 RA1 RB1 D1 .ready none::defA D1::box K [vI x1f] 3::box J [pB b_x0 0] 61::box W [.slice Z Y.length q1, .map e2] 103::box X [vI y] 3::box T [N0, .map none] 103::box S [vI x1k,vI x1o,vI x1f,vI x1t,vI x1m] 74::box R [pB b_x0 0] 61::plA 69 49 101 b_x0 A::L) w∧SliceR PartT z2 Z q1 Y∧MapR Value.bool z2 e2 y3∧(F96_l1 fuel x1f n A Y y3 y)=some r) fuel ⟨I,x0,[],[],x1m,none,0,none,zr,b.to,c,SliceR.nil' _ _,(MapR.nil' _ _),G⟩ ?_)
  rintro b c m ⟨z2,A,Y,y3,y,Z,q1,e2,k3,V,o,ae,af,G⟩
  cases b with
  | zero=>cases G
  | succ n1 =>
  refine c_seq ?_
  obtain ⟨B,C,c,m,o,p,q,t,u,x,z,D,E,F,H,I,M,O,P,Q,U,b⟩:=o.plOpen (i:=9) rfl
  obtain ⟨t,m,ad⟩:=bind_some G
  obtain ⟨o,p,c,q,b⟩:=b.ownOpen (j:=0) rfl m
  have b:=b.drew
  refine c_seq (c_qD [(0,true),(1,true),(2,true),(3,true),(4,true),(5,true),(6,true),(7,true),(8,true)] [] [pB b_x0 0,vI x1f, .slice o t.length p] [0,1,2,13] V (.cell (b.bx 6 0 rfl rfl) (.cell (b.bx 5 0 rfl rfl) (.prop q (.cell ((arrAddr b_x0 1 (Int.toNat x1f)) ▸ (b.box (i:=12) rfl (getElem?_app_right [.slice B A.lots.length C] _ _ c [D,E,F,H,I,M,O,P,Q]))) .nil)))) .nil fun o ac=>?_)
  have b:=b.ownClose' (j:=1) (k:=0) rfl rfl (by decide) c (getI_spec m).2
  have a9:=b.plClose (i:=12) (j:=1) (k:=2) rfl U rfl rfl (by decide) (by decide) (by decide)
  refine n_then (c_if (decide ((t.length:Int) > (0:Int))) ac (fun ab=>?_) (fun ab=>?_))
  ·have G:=cond_t ab ad
   refine c_skip (n_then (c_block 1 (c_sr (c_n 2 [pB b_x0 0,vI x1f] [0,1,2,14,15] ac (.cell (a9.bx 6 0 rfl rfl) (.cell (a9.bx 5 0 rfl rfl) .nil)) fun b m=>?_))))
   have b:=St.swapTo (i:=13) (j:=0) (St.addEmp a9) rfl rfl (by decide)
   have c:St z2 (plA 69 49 101 b_x0 A::emp::emp::emp::loopA l1 51 [(2,pB R 0),(3,pB S 0),(4,pB T 0),(5,pB W 0),(6,pB X 0),(17, .func (.func 116) #[] #[pB J 0,pB K 0])] a4 RA1 RB1 D1 .ready none::defA D1::box K [vI x1f] 3::box J [pB b_x0 0] 61::box W [.slice Z Y.length q1, .map e2] 103::box X [vI y] 3::box T [N0, .map none] 103::box S [vI x1k,vI x1o,vI x1f,vI x1t,vI x1m] 74::box R [pB b_x0 0] 61::emp::L) _:=b
   obtain ⟨p,b,G⟩:=bind_some G
   refine c_call m (f112_ok fuel A x1f p b z2 _ _ b_x0 c ) ?_
   rintro c m o ⟨x,q,t,u,k4,rfl,b,F,aa⟩ z
   have b:=St.swapTo (i:=0) (j:=13) b rfl rfl (by decide)
   have b:St x (emp::emp::emp::emp::loopA l1 51 [(2,pB R 0),(3,pB S 0),(4,pB T 0),(5,pB W 0),(6,pB X 0),(17, .func (.func 116) #[] #[pB J 0,pB K 0])] a4 RA1 RB1 D1 .ready none::defA D1::box K [vI x1f] 3::box J [pB b_x0 0] 61::box W [.slice Z Y.length q1, .map e2] 103::box X [vI y] 3::box T [N0, .map none] 103::box S [vI x1k,vI x1o,vI x1f,vI x1t,vI x1m] 74::box R [pB b_x0 0] 61::plA 69 49 101 b_x0 p.2.2::L) _:=b
   refine tv ?_
   refine c_box [N0, .map none] 103 b z fun a2 m o b c=>tv ?_
   refine c_st 0 [.slice q p.1.length t, .map u] b c rfl fun m o b c=>tv ?_
   refine c_dt (c_sr (c_n 2 [pB b_x0 0,vI x1f] [0,1,2,4,17,18] c (.cell (b.bx 8 0 rfl rfl) (.cell (b.bx 7 0 rfl rfl) .nil)) fun c m=>?_))
   have b:=St.swapTo (i:=15) (j:=0) (St.addEmp b) rfl rfl (by decide)
   have c:St x (plA 69 49 101 b_x0 p.2.2::box a2 [.slice q p.1.length t, .map u] 103::emp::emp::emp::emp::loopA l1 51 [(2,pB R 0),(3,pB S 0),(4,pB T 0),(5,pB W 0),(6,pB X 0),(17, .func (.func 116) #[] #[pB J 0,pB K 0])] a4 RA1 RB1 D1 .ready none::defA D1::box K [vI x1f] 3::box J [pB b_x0 0] 61::box W [.slice Z Y.length q1, .map e2] 103::box X [vI y] 3::box T [N0, .map none] 103::box S [vI x1k,vI x1o,vI x1f,vI x1t,vI x1m] 74::box R [pB b_x0 0] 61::emp::L) _:=b
   obtain ⟨r2,b,G⟩:=bind_some G
   refine c_call m (f113_ok fuel p.2.2 x1f r2 b x _ _ b_x0 c ) ?_
   rintro c m o ⟨D,k5,rfl,b⟩ x
   have b:=St.swapTo (i:=0) (j:=15) b rfl rfl (by decide)
   have c:St D (emp::box a2 [.slice q p.1.length t, .map u] 103::emp::emp::emp::emp::loopA l1 51 [(2,pB R 0),(3,pB S 0),(4,pB T 0),(5,pB W 0),(6,pB X 0),(17, .func (.func 116) #[] #[pB J 0,pB K 0])] a4 RA1 RB1 D1 .ready none::defA D1::box K [vI x1f] 3::box J [pB b_x0 0] 61::box W [.slice Z Y.length q1, .map e2] 103::box X [vI y] 3::box T [N0, .map none] 103::box S [vI x1k,vI x1o,vI x1f,vI x1t,vI x1m] 74::box R [pB b_x0 0] 61::plA 69 49 101 b_x0 r2::L) _:=b
   refine tv ?_
   refine c_dt (c_seq (w_regY 2 (by kernel_rfl) (c_z [.slice q p.1.length t, .map u] [0,1,2,20,21] x (.cell (c.bx 1 0 rfl rfl) (.cell (c.bx 1 1 rfl rfl) .nil)) fun o b=>(p_yield (d:=some 22) (l:=l1) (args:= #[.agg #[.slice q p.1.length t, .map u]]) b (by kernel_rfl) c (j:=6) rfl (by rw [a0]; kernel_rfl) fun x m=>?_))))
   rw [a0] at m
   refine cw_eq a1 ?_
   refine c_reg (c_box [N0, .map none] 103 c m fun a1 x z b c=>tv (c_st 0 [.slice q p.1.length t, .map u] b c rfl fun A B m E=>tv (c_dt (p_begin m (j:=7) rfl fun C o=>(cw_eq a3 (c_block 1 (c_seq ?_)))))))
   have m:=o.drew
   have b:Sub D (box a1 [.slice q p.1.length t, .map u] 103::emp::box a2 [.slice q p.1.length t, .map u] 103::emp::emp::emp::emp::loopA l1 51 [(2,pB R 0),(3,pB S 0),(4,pB T 0),(5,pB W 0),(6,pB X 0),(17, .func (.func 116) #[] #[pB J 0,pB K 0])] a4 RA1 RB1 D1 .busy none::defA D1::box K [vI x1f] 3::box J [pB b_x0 0] 61::box W [.slice Z Y.length q1, .map e2] 103::box X [vI y] 3::box T [N0, .map none] 103::box S [vI x1k,vI x1o,vI x1f,vI x1t,vI x1m] 74::box R [pB b_x0 0] 61::plA 69 49 101 b_x0 r2::L) _:=Sub.of zr m
   refine c_regD (rD 6 [3]) [] (Sub D (box a1 [.slice q p.1.length t, .map u] 103::emp::box a2 [.slice q p.1.length t, .map u] 103::emp::emp::emp::emp::loopA l1 51 [(2,pB R 0),(3,pB S 0),(4,pB T 0),(5,pB W 0),(6,pB X 0),(17, .func (.func 116) #[] #[pB J 0,pB K 0])] a4 RA1 RB1 D1 .busy none::defA D1::box K [vI x1f] 3::box J [pB b_x0 0] 61::box W [.slice Z Y.length q1, .map e2] 103::box X [vI y] 3::box T [N0, .map none] 103::box S [vI x1k,vI x1o,vI x1f,vI x1t,vI x1m] 74::box R [pB b_x0 0] 61::plA 69 49 101 b_x0 r2::L)) b ?_
   refine c_S 3 [vI y, .slice q p.1.length t] [2,3,5,6,7,19,21] b E (fun _ s=>(.cell (s.bx 12 0 rfl rfl) (.cell (s.bx 0 0 rfl rfl) .nil))) .nil fun b c=>?_
   obtain ⟨I,b,G⟩:=bind_some G
   refine c_call c (f38_ok fuel p.1 I b D _ _ m q t (SliceR.mono k5 F)) ?_
   rintro c m o ⟨z,U,rfl,b⟩ x
   refine ⟨fun _=>Sub.of U b,?_⟩
   have c:Sub D (box a1 [.slice q p.1.length t, .map u] 103::emp::box a2 [.slice q p.1.length t, .map u] 103::emp::emp::emp::emp::loopA l1 51 [(2,pB R 0),(3,pB S 0),(4,pB T 0),(5,pB W 0),(6,pB X 0),(17, .func (.func 116) #[] #[pB J 0,pB K 0])] a4 RA1 RB1 D1 .busy none::defA D1::box K [vI x1f] 3::box J [pB b_x0 0] 61::box W [.slice Z Y.length q1, .map e2] 103::box X [vI y] 3::box T [N0, .map none] 103::box S [vI x1k,vI x1o,vI x1f,vI x1t,vI x1m] 74::box R [pB b_x0 0] 61::plA 69 49 101 b_x0 r2::L) _:=Sub.of U b
   refine c_S 2 [] [2,3,5,6,7,8] c x (fun _ s=> .nil) .nil fun m c=>?_
   refine c_dt (c_sr (c_n 3 [.slice q p.1.length t] [2,3,5,6,7,8,26,27] c (.cell (b.bx 0 0 rfl rfl) .nil) fun c m=>?_))
   obtain ⟨o,c,G⟩:=bind_some G
   refine c_call m (f39_ok fuel p.1 (if I<y then I else y) o c z _ _ b q t (SliceR.mono (zt k5 U) F)) ?_
   rintro c m x ⟨A,M,O,P,Q,k7,rfl,z,B,V⟩ b
   refine tv ?_
   refine c_n 3 [] [2,3,5,6,7,8,29,30] b .nil fun c b=>?_
   refine c_box [N0] 49 z b fun a5 m x b c=>tv ?_
   refine c_box [N0] 49 b c fun a3 m x b c=>tv ?_
   refine c_st 1 [.slice M o.1.length O] b c rfl fun m x b c=>tv ?_
   refine c_st 0 [.slice P o.2.length Q] b c rfl fun m x b c=>tv ?_
   refine c_dt (c_sr (c_n 5 [.slice Z Y.length q1, .map e2, .slice M o.1.length O, .map u] [2,3,5,6,7,8,10,31,35] c (.cell (b.bx 13 0 rfl rfl) (.cell (b.bx 13 1 rfl rfl) (.cell (b.bx 1 0 rfl rfl) (.cell (b.bx 2 1 rfl rfl) .nil)))) fun c m=>?_))
   obtain ⟨x,c,a6⟩:=bind_some G
   refine c_call m (f111_ok fuel Y y3 o.1 p.2.1 x c A _ _ b Z q1 (SliceR.mono (zt (zt (zt k4 k5) U) k7) ae) e2 (MapR.mono (zt (zt (zt k4 k5) U) k7) af) M O B u (MapR.mono (zt (zt k5 U) k7) aa)) ?_
   rintro m C D ⟨z7,z,A,B,k8,rfl,b,a7,a8⟩ c
   refine tv ?_
   refine c_st 13 [.slice z x.1.length A, .map B] b c rfl fun m C b c=>tv ?_
   refine c_dt (c_sr (c_n 3 [vI y] [2,3,6,7,10,39] c (.cell (b.bx 14 0 rfl rfl) .nil) fun C c=>(c_st 14 [vI (w64 (y - (if I<y then I else y)))] b c rfl fun D E F b=>tv (c_dt (c_sq [vI (w64 (y - (if I<y then I else y)))] [2,3,7,10,41] b (.cell (F.bx 14 0 rfl rfl) .nil) fun H m=>(c_if ((w64 (y - (if I<y then I else y))) == (0:Int)) m (fun a0=>?_) (fun a0=>?_)))))))
   ·have G:=cond_t a0 a6
    refine c_sr (c_n 7 [pB b_x0 0,vI x1f, .slice P o.2.length Q, .map u] [42,44,48] m (.cell (F.bx 17 0 rfl rfl) (.cell (F.bx 16 2 rfl rfl) (.cell (F.bx 0 0 rfl rfl) (.cell (F.bx 2 1 rfl rfl) .nil)))) fun b C=>?_)
    have b:=St.swapTo (i:=19) (j:=0) (St.addEmp F) rfl rfl (by decide)
    have m:St z7 (plA 69 49 101 b_x0 r2::box a3 [.slice P o.2.length Q] 49::box a5 [.slice M o.1.length O] 49::box a1 [.slice q p.1.length t, .map u] 103::emp::box a2 [.slice q p.1.length t, .map u] 103::emp::emp::emp::emp::loopA l1 51 [(2,pB R 0),(3,pB S 0),(4,pB T 0),(5,pB W 0),(6,pB X 0),(17, .func (.func 116) #[] #[pB J 0,pB K 0])] a4 RA1 RB1 D1 .busy none::defA D1::box K [vI x1f] 3::box J [pB b_x0 0] 61::box W [.slice z x.1.length A, .map B] 103::box X [vI (w64 (y - (if I<y then I else y)))] 3::box T [N0, .map none] 103::box S [vI x1k,vI x1o,vI x1f,vI x1t,vI x1m] 74::box R [pB b_x0 0] 61::emp::L) _:=b
    obtain ⟨c,b,G⟩:=bind_some G
    refine c_call C (f109_ok fuel r2 x1f o.2 p.2.1 c b z7 _ _ b_x0 m P Q (SliceR.mono k8 V) u (MapR.mono (zt (zt (zt k5 U) k7) k8) aa)) ?_
    rintro m C D ⟨V,H,rfl,b⟩ E
    have b:=St.swapTo (i:=0) (j:=19) b rfl rfl (by decide)
    have b:St V (emp::box a3 [.slice P o.2.length Q] 49::box a5 [.slice M o.1.length O] 49::box a1 [.slice q p.1.length t, .map u] 103::emp::box a2 [.slice q p.1.length t, .map u] 103::emp::emp::emp::emp::loopA l1 51 [(2,pB R 0),(3,pB S 0),(4,pB T 0),(5,pB W 0),(6,pB X 0),(17, .func (.func 116) #[] #[pB J 0,pB K 0])] a4 RA1 RB1 D1 .busy none::defA D1::box K [vI x1f] 3::box J [pB b_x0 0] 61::box W [.slice z x.1.length A, .map B] 103::box X [vI (w64 (y - (if I<y then I else y)))] 3::box T [N0, .map none] 103::box S [vI x1k,vI x1o,vI x1f,vI x1t,vI x1m] 74::box R [pB b_x0 0] 61::plA 69 49 101 b_x0 c::L) _:=b
    refine tv ?_
    refine c_dt (c_exit 0 (x_pass rfl (p_roundX b (j:=10) rfl fun m o b c=>?_)))
    have m:=St.drop 4 b
    refine c_t [] [0,1,2,23] c .nil fun c b=>?_
    refine w_if_true b (by kernel_rfl) ?_
    refine c_ret (r_block (r_then (r_block (c_rt [] (.tuple #[]) b .nil (⟨_,rfl,fun b c=>?_⟩)))))
    refine p_jumpX m (j:=6) rfl (fun h=>by cases h) fun m b=>?_
    refine x_block (n_then (c_sr (c_n 1 [.slice z x.1.length A, .map B] [4,50] c (.cell (b.bx 10 0 rfl rfl) (.cell (b.bx 10 1 rfl rfl) .nil)) fun p m=>(c_st 12 [.slice z x.1.length A, .map B] b m rfl fun q t o b=>tv (c_dt (c_ret (p_retM b (p_mark o (j:=7) rfl fun u c=>(p_end (os:=[.slice z x.1.length A, .map B]) (v:= .agg #[.slice z x.1.length A, .map B]) (obs:=[.cell ⟨T,0,none⟩ (.slice z x.1.length A), .cell ⟨T,1,none⟩ (.map B)]) b (by kernel_rfl) (.cell (c.bx 12 0 rfl rfl) (.cell (c.bx 12 1 rfl rfl) .nil)) ?_)))))))))
    obtain rfl:=some_eq G
    exact ⟨_,rfl,V,z,A,B,(zt (zt (zt (zt (zt (zt (zt k2 k3) k4) k5) U) k7) k8) H),rfl,(St.pick 16 [15] c (by kernel_rfl)),(SliceR.mono H a7),(MapR.mono H a8)⟩
   ·have G:=cond_f a0 a6
    refine c_skip (n_block (p_roundN F (j:=9) rfl fun m o b c=>?_))
    have m:=St.drop 3 b
    refine c_t [] [0,1,2,23] c .nil fun c b=>?_
    refine w_if_false b (by kernel_rfl) ?_
    refine c_skip (n_block (n_then ?_))
    exact ⟨n1,Nat.lt_succ_self n1,z7,r2,x.1,x.2,(w64 (y - (if I<y then I else y))),z,A,B,(zt (zt (zt (zt (zt k3 k4) k5) U) k7) k8),b.to,(St.drop 6 m),a7,a8,G⟩
  ·have G:=cond_f ab ad
   refine c_exit 0 (x_then (x_then (x_block (c_fall [] (.tuple #[]) ac .nil (⟨_,rfl,fun b c=>?_⟩)))))
   refine p_jump0 a9 (j:=3) rfl (fun h=>by cases h) fun m b=>?_
   refine n_block (n_then (c_sr (c_n 1 [.slice Z Y.length q1, .map e2] [4,50] c (.cell (b.bx 7 0 rfl rfl) (.cell (b.bx 7 1 rfl rfl) .nil)) fun p m=>(c_st 9 [.slice Z Y.length q1, .map e2] b m rfl fun q t o b=>tv (c_dt (c_ret (p_retM b (p_mark o (j:=4) rfl fun u c=>(p_end (os:=[.slice Z Y.length q1, .map e2]) (v:= .agg #[.slice Z Y.length q1, .map e2]) (obs:=[.cell ⟨T,0,none⟩ (.slice Z Y.length q1), .cell ⟨T,1,none⟩ (.map e2)]) b (by kernel_rfl) (.cell (c.bx 9 0 rfl rfl) (.cell (c.bx 9 1 rfl rfl) .nil)) ?_)))))))))
   obtain rfl:=some_eq G
   exact ⟨_,rfl,z2,Z,q1,e2,(zt k2 k3),rfl,(St.pick 13 [12] c (by kernel_rfl)),ae,af⟩
def F97 (fuel:Nat) (x0:Pl) (x1k:Int) (x1o:Int) (x1f:Int) (x1t:Int) (x1m:Int):Option (List Part×List (Int×Bool)×Pl) :=
  ((F96 fuel x0 x1k x1o x1f x1t x1m).bind fun r1=>((F107 fuel r1.2.2 x1t r1.1 r1.2.1).bind fun r2=>(some (r1.1,r1.2.1,r2))))
set_option maxRecDepth 100000 in
theorem f97_ok (fuel:Nat) (x0:Pl) (x1k:Int) (x1o:Int) (x1f:Int) (x1t:Int) (x1m:Int) (r:List Part×List (Int×Bool)×Pl) (hr:F97 fuel x0 x1k x1o x1f x1t x1m=some r) (h:Zone) (L:List Atom) (w:World) (b_x0:Nat) (hS:St h (plA 69 49 101 b_x0 x0::L) w)  :
    Calls Tryz.prog 97 #[pB b_x0 0, .agg #[vI x1k,vI x1o,vI x1f,vI x1t,vI x1m]] w fun e w'=>∃v,e= .returned v∧(∃h',∃o0:Option Addr,∃c0:Nat,∃o1:Option Nat,Zone.le h h'∧v= .agg #[.slice o0 r.1.length c0, .map o1]∧St h' (plA 69 49 101 b_x0 r.2.2::L) w'∧SliceR PartT h' o0 c0 r.1∧MapR Value.bool h' o1 r.2.1):=by
 refine calls_intro (N:=15) Tryz.func97 (by kernel_rfl) fun a hf=>?_
 refine c_sr (c_box [vI x1k,vI x1o,vI x1f,vI x1t,vI x1m] 74 hS hf fun g k l c d=>tv (c_box [N0, .map none] 103 c d fun m n o b f=>tv (c_dt (c_sr (c_n 2 [vI x1k,vI x1o,vI x1f,vI x1t,vI x1m] [0,3,4,6,7] f (.cell (b.bx 1 0 rfl rfl) (.cell (b.bx 1 1 rfl rfl) (.cell (b.bx 1 2 rfl rfl) (.cell (b.bx 1 3 rfl rfl) (.cell (b.bx 1 4 rfl rfl) .nil))))) fun p q=>?_)))))
 have b:=St.swapTo (i:=3) (j:=0) (St.addEmp b) rfl rfl (by decide)
 have c:=b
 obtain ⟨f,b,s⟩:=bind_some hr
 refine c_call q (f96_ok fuel x0 x1k x1o x1f x1t x1m f b h _ _ b_x0 c ) ?_
 rintro c d m ⟨o,g,k,l,x,rfl,b,t,u⟩ n
 have b:=St.swapTo (i:=0) (j:=3) b rfl rfl (by decide)
 have b:=b
 refine tv ?_
 refine c_box [N0, .map none] 103 b n fun d m n b c=>tv ?_
 refine c_st 0 [.slice g f.1.length k, .map l] b c rfl fun d m b c=>tv ?_
 refine c_dt (c_sr (c_n 4 [vI x1t, .slice g f.1.length k, .map l] [4,5,9,11,12] c (.cell (b.bx 3 3 rfl rfl) (.cell (b.bx 0 0 rfl rfl) (.cell (b.bx 0 1 rfl rfl) .nil))) fun c m=>?_))
 have b:=St.swapTo (i:=5) (j:=0) (St.addEmp b) rfl rfl (by decide)
 have d:=b
 obtain ⟨b,c,s⟩:=bind_some s
 refine c_call m (f107_ok fuel f.2.2 x1t f.1 f.2.1 b c o _ _ b_x0 d g k t l u) ?_
 rintro c d n ⟨q,m,rfl,b⟩ o
 have b:=St.swapTo (i:=0) (j:=5) b rfl rfl (by decide)
 have b:=b
 refine tv ?_
 refine c_dt (c_sr (c_n 1 [.slice g f.1.length k, .map l] [4,14] o (.cell (b.bx 1 0 rfl rfl) (.cell (b.bx 1 1 rfl rfl) .nil)) fun n c=>(c_st 3 [.slice g f.1.length k, .map l] b c rfl fun o p b d=>tv (c_dt (c_ret (c_rt [.slice g f.1.length k, .map l] (.agg #[.slice g f.1.length k, .map l]) d (.cell (b.bx 3 0 rfl rfl) (.cell (b.bx 3 1 rfl rfl) .nil)) ?_))))))
 obtain rfl:=some_eq s
 exact ⟨_,rfl,q,g,k,l,(zt x m),rfl,(St.pick 6 [5] b (by kernel_rfl)),(SliceR.mono m t),(MapR.mono m u)⟩
def F98_j1 (k1:Pl→(List Part)→(List (Int×Bool))→Int→Option (List Part×List (Int×Bool)×Pl)) (y1:Int) (y2:Pl) (y3:List Part) (y4:List (Int×Bool)):Option (List Part×List (Int×Bool)×Pl) :=
  (k1 y2 y3 y4 (w64 (y1 + (1:Int))))
def F98_l2 (fuel:Nat) (x1f:Int) (p1:List (List Part)) (p2:List (List (Int×Bool))) (r1:List Int):Nat→Pl→(List Part)→(List (Int×Bool))→Int→Option (List Part×List (Int×Bool)×Pl)
  | 0,_,_,_,_=>none
  | n1 + 1,y5,y6,y7,y1 =>
    let k1:Pl→(List Part)→(List (Int×Bool))→Int→Option (List Part×List (Int×Bool)×Pl):=F98_l2 fuel x1f p1 p2 r1 n1
    (cond (decide (y1<(r1.length:Int))) ((getI r1 y1).bind fun p3=>((getI p1 y1).bind fun p4=>((F39 fuel p4 p3).bind fun r2=>((getI p2 y1).bind fun p5=>((F109 fuel y5 x1f r2.2 p5).bind fun r3=>(cond (decide (p3 > (0:Int))) ((getI p2 y1).bind fun p6=>((F111 fuel y6 y7 r2.1 p6).bind fun r4=>(F98_j1 k1 y1 r3 r4.1 r4.2))) (F98_j1 k1 y1 r3 y6 y7))))))) (some (y6,y7,y5)))
def F98_l1 (fuel:Nat) (x0:Pl) (x1f:Int) (x1m:Int) (p1:List (List Part)):Nat→(List Int)→Int→Option (List Part×List (Int×Bool)×Pl)
  | 0,_,_=>none
  | n2 + 1,y8,y9 =>
    let k2:(List Int)→Int→Option (List Part×List (Int×Bool)×Pl):=F98_l1 fuel x0 x1f x1m p1 n2
    (cond (decide (y9<(p1.length:Int))) ((getI p1 y9).bind fun p7=>((F38 fuel p7).bind fun r5=>((appC y8 ([r5])).bind fun d1=>(k2 d1 (w64 (y9 + (1:Int))))))) ((getI x0.may x1f).bind fun p2=>((F70 fuel x1m y8).bind fun r1=>(F98_l2 fuel x1f p1 p2 r1 fuel (⟨x0.lots,(x0.holds.set (Int.toNat x1f) ([])),(x0.may.set (Int.toNat x1f) ([]))⟩:Pl) ([]) ([]) 0))))
def F98 (fuel:Nat) (x0:Pl) (x1k:Int) (x1o:Int) (x1f:Int) (x1t:Int) (x1m:Int):Option (List Part×List (Int×Bool)×Pl) :=
  ((getI x0.holds x1f).bind fun p1=>(F98_l1 fuel x0 x1f x1m p1 fuel ([]) 0))
set_option maxRecDepth 100000 in
theorem f98_ok (fuel:Nat) (x0:Pl) (x1k:Int) (x1o:Int) (x1f:Int) (x1t:Int) (x1m:Int) (r:List Part×List (Int×Bool)×Pl) (hr:F98 fuel x0 x1k x1o x1f x1t x1m=some r) (h:Zone) (L:List Atom) (w:World) (b_x0:Nat) (hS:St h (plA 69 49 101 b_x0 x0::L) w)  :
    Calls Tryz.prog 98 #[pB b_x0 0, .agg #[vI x1k,vI x1o,vI x1f,vI x1t,vI x1m]] w fun e w'=>∃v,e= .returned v∧(∃h',∃o0:Option Addr,∃c0:Nat,∃o1:Option Nat,Zone.le h h'∧v= .agg #[.slice o0 r.1.length c0, .map o1]∧St h' (plA 69 49 101 b_x0 r.2.2::L) w'∧SliceR PartT h' o0 c0 r.1∧MapR Value.bool h' o1 r.2.1):=by
 refine calls_intro (N:=103) Tryz.func98 (by kernel_rfl) fun a hf=>?_
 refine c_sr (c_box [vI x1k,vI x1o,vI x1f,vI x1t,vI x1m] 74 hS hf fun b1 o p f g=>tv (c_box [N0, .map none] 103 f g fun b2 t u m l=>tv (c_dt (c_sq [] [0,3,4,5] l .nil fun y z=>(c_seq ?_)))))
 obtain ⟨e1,q1,H,v2,v3,v4,v5,v6,v7,v8,v9,J,K,P,Q,R,S,U,V,W,a2,f⟩:=m.plOpen (i:=2) rfl
 obtain ⟨M,a1,q⟩:=bind_some hr
 obtain ⟨e2,q2,G,I,f⟩:=f.ownOpen (j:=0) rfl a1
 have f:=f.drew
 refine c_sqD [(0,true),(1,true),(2,true),(3,true),(4,true),(5,true),(6,true),(7,true),(8,true),(9,true)] [] [vI x1f, .slice e2 M.length q2] [0,3,4,5,22,23,24] z (.cell (f.bx 4 2 rfl rfl) (.prop I (.cell ((arrAddr b_x0 1 (Int.toNat x1f)) ▸ (f.box (i:=5) rfl (getElem?_app_right [.slice e1 x0.lots.length q1] _ _ G [J,K,P,Q,R,S,U,V,W]))) .nil))) .nil fun g l=>?_
 refine c_block 0 ?_
 have f:=f.ownNil Ty.int 3
 refine c_loop (fun n a w=>∃y:Zone,∃y8:List Int,∃A:Int,∃e3:Option Addr,∃q3:Nat,Zone.le h y∧Fr a 103 [(0,pB b_x0 0),(3,pB b1 0),(4,pB b2 0),(5, .slice e3 y8.length q3),(22, .slice e2 M.length q2),(23,vI (M.length:Int)),(24,vI A)]∧St y (ownS Ty.int 3 e3 q3 y8::ownS (Ty.slice PartT) 49 e2 q2 M::ownH (Ty.slice PartT) 49 [H,v2,v3,v4,v5,v6,v7,v8,v9] x0.holds (Int.toNat x1f)::ownA (Ty.map Value.bool) 101 [J,K,P,Q,R,S,U,V,W] x0.may::box b2 [N0, .map none] 103::box b1 [vI x1k,vI x1o,vI x1f,vI x1t,vI x1m] 74::box b_x0 [.slice e1 x0.lots.length q1,H,v2,v3,v4,v5,v6,v7,v8,v9,J,K,P,Q,R,S,U,V,W] 69::L) w∧(F98_l1 fuel x0 x1f x1m M n y8 A)=some r) fuel ⟨h,[],0,none,0,zr,l.to,f,q⟩ ?_
 rintro f g l ⟨y,y8,A,e3,q3,k3,m,C,X⟩
 cases f with
 | zero=>cases X
 | succ F =>
 refine c_sq [] [0,3,4,5,22,23,24,25] m .nil fun f D=>?_
 refine c_seq (c_if (decide (A<(M.length:Int))) D (fun B=>?_) (fun B=>?_))
 ·have q:=cond_t B X
  refine c_skip (n_then (c_seq (c_block 1 (c_sr ?_))))
  obtain ⟨p,f,q⟩:=bind_some q
  obtain ⟨g,m,o,l,f,t⟩:=C.ownGet (j:=1) rfl f
  obtain ⟨f,l,rfl,z⟩:=f
  refine c_n 2 [.pointer (some g), .slice f p.length l] [0,3,4,5,22,23,24,27] D (.prop m (.prop o (.cell (t 0 _ rfl) .nil))) fun m g=>?_
  refine c_box [N0] 49 C g fun o t u g m=>tv ?_
  refine c_st 0 [.slice f p.length l] g m rfl fun o t m g=>tv ?_
  refine c_dt (c_reg (c_n 2 [.slice f p.length l] [0,3,4,22,23,24,28,29] g (.cell (m.bx 0 0 rfl rfl) .nil) fun g t=>?_))
  obtain ⟨g,o,q⟩:=bind_some q
  refine c_call t (f38_ok fuel p g o y _ _ m f l z) ?_
  rintro f o p ⟨u,y,rfl,l⟩ m
  refine tv ?_
  refine p_box (i:=3) (d:=(some 31)) (cs:=[vI g]) (T:=3) (v:=fun f=> .slice (some ⟨f,0,none⟩) 1 1) l m (fun b=>by kernel_rfl) fun f m o l p=>tv ?_
  have l:=l.ownBox (T:=Ty.int) (E:=3) (n:=1) (xs:=[g]) (i:=0) rfl (Rows.cons (c:=[vI g]) rfl rfl) rfl (by decide)
  obtain ⟨t,m,q⟩:=bind_some q
  refine p_append (T:=Ty.int) (i:=4) (j:=2) (d:=some 32) (o2:=(some ⟨f,0,none⟩)) (c2:=1) (ys:=([g])) el76 l p rfl (by kernel_rfl) (l.ownSrc (j:=0) rfl) m fun g l m o p f=>tv ?_
  refine c_z [] [0,3,4,5,22,23,24] f .nil fun m f=>?_
  refine n_block (n_then (c_q [] [0,3,4,5,22,23,24] f .nil fun m f=>(n_then ?_)))
  exact ⟨F,Nat.lt_succ_self F,u,t,(w64 (A + (1:Int))),g,l,(zt k3 y),f.to,(St.drop 2 p),q⟩
 ·have q:=cond_f B X
  refine c_exit 0 (x_then (x_then (x_block (n_then ?_))))
  obtain ⟨O,a0,q⟩:=bind_some q
  obtain ⟨Y,Z,g,C,f⟩:=C.ownOpen (j:=3) rfl a0
  have f:=f.drew
  refine c_sqD [(0,true),(1,true),(2,true),(3,true),(4,true),(5,true),(6,true),(7,true),(8,true),(9,true),(10,true),(11,true),(12,true),(13,true),(14,true),(15,true),(16,true)] [] [vI x1f, .slice e2 M.length q2,vI x1f, .slice Y O.length Z] [0,3,4,5,8,9] D (.cell (f.bx 6 2 rfl rfl) (.prop I (.cell ((arrAddr b_x0 1 (Int.toNat x1f)) ▸ (f.box (i:=7) rfl (getElem?_app_right [.slice e1 x0.lots.length q1] _ _ G [J,K,P,Q,R,S,U,V,W]))) (.cell (f.bx 6 2 rfl rfl) (.prop C (.cell ((arrAddr b_x0 10 (Int.toNat x1f)) ▸ (f.box (i:=7) rfl (getElem?_app_right [.slice e1 x0.lots.length q1,H,v2,v3,v4,v5,v6,v7,v8,v9] _ _ g []))) .nil)))))) .nil fun g l=>?_
  refine c_seq ?_
  have g:=f.drew
  have f:=Sub.of zr (g.mask (i:=7) rfl)
  refine c_regD [(0,true),(1,true),(2,true),(3,true),(4,true),(5,true),(6,true),(7,true),(8,true),(9,true),(11,true),(12,true),(10,false),(13,true),(14,false)] [14] _ f ?_
  refine c_S 12 [vI x1f,vI x1f] [0,3,4,5,8,9,54,58,60] f l (fun _ s=>(.cell (s.bx 6 2 rfl rfl) (.cell (s.bx 6 2 rfl rfl) (.prop I .nil)))) .nil fun f l=>?_
  have f:=g.ownNil (Ty.slice PartT) 49
  refine p_storeA (i:=10) (j:=8) (b:=b_x0) (ix:=x1f) (pre:=[.slice e1 x0.lots.length q1]) (vs:=[H,v2,v3,v4,v5,v6,v7,v8,v9]) (post:=[J,K,P,Q,R,S,U,V,W]) (v:=N0) f l rfl (by have F:=I.1; have f:=I.2; simp at f ⊢; omega) (by kernel_rfl) rfl fun l m g G=>⟨fun _=>Sub.of zr ((St.drop 1 g).mask (i:=7) rfl),?_⟩
  obtain ⟨o,p,t,u,y,z,A,B,D,H⟩:=nine (vs:=[H,v2,v3,v4,v5,v6,v7,v8,v9].set (Int.toNat x1f) (N0)) (by simp)
  rw [H] at g
  have l:[o,p,t,u,y,z,A,B,D][Int.toNat x1f]? =some (N0):=by rw [← H]; exact List.getElem?_set_self (by have F:=I.1; have f:=I.2; simp at f ⊢; omega)
  have g:=g
  have l:=Sub.of zr ((St.drop 1 g).mask (i:=7) rfl)
  refine c_S 1 [] [0,3,4,5,8,9,61] l G (fun _ s=>(.prop C .nil)) .nil fun m l=>?_
  have g:=g.ownNil (Ty.map Value.bool) 101
  refine p_storeA (i:=14) (j:=9) (b:=b_x0) (ix:=x1f) (pre:=[.slice e1 x0.lots.length q1,o,p,t,u,y,z,A,B,D]) (vs:=[J,K,P,Q,R,S,U,V,W]) (post:=[]) (v:=N0) g l rfl (by have F:=C.1; have f:=C.2; simp at f ⊢; omega) (by kernel_rfl) rfl fun l m g D=>⟨fun e=>absurd e (by decide),?_⟩
  obtain ⟨l,m,o,p,t,u,y,z,A,B⟩:=nine (vs:=[J,K,P,Q,R,S,U,V,W].set (Int.toNat x1f) (N0)) (by simp)
  rw [B] at g
  have f:[l,m,o,p,t,u,y,z,A][Int.toNat x1f]? =some (N0):=by rw [← B]; exact List.getElem?_set_self (by have F:=C.1; have f:=C.2; simp at f ⊢; omega)
  have f:=g
  refine c_done ?_
  have f:=f.ownClose (j:=5) (k:=1) rfl rfl (by decide) (List.getElem?_eq_some_iff.1 (getI_spec a1).2).1
  simp only [List.length_nil] at f
  rw [H] at f
  have f:=f.ownClose (j:=6) (k:=0) rfl rfl (by decide) (List.getElem?_eq_some_iff.1 (getI_spec a0).2).1
  simp only [List.length_nil] at f
  rw [B] at f
  have f:=f.plClose (i:=9) (j:=5) (k:=6) rfl (SliceR.mono k3 a2) rfl rfl (by decide) (by decide) (by decide)
  refine n_then (c_sr (c_box [N0, .map none] 103 f D fun u l m f g=>tv (c_dt (c_seq (c_sr (c_n 3 [vI x1m] [0,3,4,8,9,10,63,64] g (.cell (f.bx 9 4 rfl rfl) .nil) fun o p=>?_))))))
  obtain ⟨l,k5,m,o⟩:=f.share (j:=4) rfl
  obtain ⟨f,g,q⟩:=bind_some q
  refine c_call p (f70_ok fuel x1m y8 f g l _ _ m e3 q3 o) ?_
  rintro m o p ⟨g,y,z,k6,rfl,t,A⟩ l
  refine tv ?_
  refine c_t [] [0,3,4,8,9,10,65,66,67] l .nil fun m l=>?_
  refine c_block 2 (c_loop (fun n a w=>∃Q:Zone,∃D:Pl,∃H:List Part,∃y7:List (Int×Bool),∃S:Int,∃I:Option Addr,∃J:Nat,∃K:Option Nat,Zone.le g Q∧Fr a 103 [(0,pB b_x0 0),(3,pB b1 0),(4,pB b2 0),(8, .slice e2 M.length q2),(9, .slice Y O.length Z),(10,pB u 0),(65, .slice y f.length z),(66,vI (f.length:Int)),(67,vI S)]∧St Q (box u [.slice I H.length J, .map K] 103::emp::emp::ownS (Ty.map Value.bool) 101 Y Z O::emp::ownS (Ty.slice PartT) 49 e2 q2 M::emp::emp::box b2 [N0, .map none] 103::box b1 [vI x1k,vI x1o,vI x1f,vI x1t,vI x1m] 74::plA 69 49 101 b_x0 D::L) w∧SliceR PartT Q I J H∧MapR Value.bool Q K y7∧(F98_l2 fuel x1f M O f n D H y7 S)=some r) fuel ⟨g,(⟨x0.lots,(x0.holds.set (Int.toNat x1f) ([])),(x0.may.set (Int.toNat x1f) ([]))⟩:Pl),[],[],0,none,0,none,zr,l.to,t,SliceR.nil' _ _,(MapR.nil' _ _),q⟩ ?_)
  rintro g l m ⟨Q,D,H,y7,S,I,J,K,k7,o,a0,a6,a7,a5⟩
  cases g with
  | zero=>cases a5
  | succ n1 =>
  refine c_sq [] [0,3,4,8,9,10,65,66,67,68] o .nil fun g a4=>?_
  refine c_seq (c_if (decide (S<(f.length:Int))) a4 (fun a3=>?_) (fun a3=>?_))
  ·have q:=cond_t a3 a5
   refine c_skip (n_then (c_mid (fun a w=>∃U:Zone,∃y2:Pl,∃y3:List Part,∃y4:List (Int×Bool),∃a1:Option Addr,∃q9:Nat,∃a2:Option Nat,Zone.le Q U∧Fr a 103 [(0,pB b_x0 0),(3,pB b1 0),(4,pB b2 0),(8, .slice e2 M.length q2),(9, .slice Y O.length Z),(10,pB u 0),(65, .slice y f.length z),(66,vI (f.length:Int)),(67,vI S)]∧St U (box u [.slice a1 y3.length q9, .map a2] 103::emp::emp::ownS (Ty.map Value.bool) 101 Y Z O::emp::ownS (Ty.slice PartT) 49 e2 q2 M::emp::emp::box b2 [N0, .map none] 103::box b1 [vI x1k,vI x1o,vI x1f,vI x1t,vI x1m] 74::plA 69 49 101 b_x0 y2::L) w∧SliceR PartT U a1 q9 y3∧MapR Value.bool U a2 y4∧(F98_j1 (F98_l2 fuel x1f M O f n1) S y2 y3 y4)=some r) ?_ ?_))
   ·skip
    refine c_block 3 ?_
    obtain ⟨F,f,q⟩:=bind_some q
    obtain ⟨f,g,l,o,rfl,m⟩:=SliceR.getI (SliceR.mono k7 A) f
    refine c_sq [.pointer (some f),vI F] [0,3,4,8,9,10,11,12,65,66,67] a4 (.prop g (.prop l (.cell (a0.cell (m 0 _ rfl)) .nil))) fun f y=>?_
    refine c_sr ?_
    obtain ⟨t,f,q⟩:=bind_some q
    obtain ⟨l,m,o,g,f,p⟩:=a0.ownGet (j:=5) rfl f
    obtain ⟨f,g,rfl,u⟩:=f
    refine c_n 5 [.pointer (some l), .slice f t.length g] [0,3,4,8,9,10,11,12,65,66,67,76,77] y (.prop m (.prop o (.cell (p 0 _ rfl) .nil))) fun l m=>?_
    obtain ⟨A,l,q⟩:=bind_some q
    refine c_call m (f39_ok fuel t F A l Q _ _ a0 f g u) ?_
    rintro g l m ⟨G,V,W,y,z,M,rfl,o,Y,P⟩ f
    refine tv ?_
    refine c_n 3 [] [0,3,4,8,9,10,11,12,65,66,67,79,80] f .nil fun g f=>?_
    refine c_box [N0] 49 o f fun l m o f g=>tv ?_
    refine c_box [N0] 49 f g fun l m o f g=>tv ?_
    refine c_st 1 [.slice V A.1.length W] f g rfl fun l m f g=>tv ?_
    refine c_st 0 [.slice y A.2.length z] f g rfl fun g l f B=>tv ?_
    refine c_dt (c_seq ?_)
    have f:=f.drew
    refine c_regD (rD 10 [9]) [9] (fun x=>x=g.drew) rfl ?_
    obtain ⟨C,g,q⟩:=bind_some q
    obtain ⟨l,m,o,t,g,p⟩:=f.ownGet (j:=5) rfl g
    obtain ⟨t,rfl,u⟩:=g
    refine c_E 9 [vI x1f, .slice y A.2.length z, .pointer (some l), .map t] [0,3,4,8,9,10,11,12,13,65,66,67,81,83,89] B (.cell (f.bx 11 2 rfl rfl) (.cell (f.bx 0 0 rfl rfl) (.prop m (.prop o (.cell (p 0 _ rfl) .nil))))) .nil fun g l=>?_
    have f:=St.swapTo (i:=13) (j:=0) (St.addEmp f) rfl rfl (by decide)
    have g:=f
    obtain ⟨O,f,X⟩:=bind_some q
    refine c_call l (f109_ok fuel D x1f A.2 C O f G _ _ b_x0 g y z P t u) ?_
    rintro g o l ⟨R,u,rfl,f⟩ m
    have f:=St.swapTo (i:=0) (j:=13) f rfl rfl (by decide)
    have P:=f
    refine ⟨fun e=>absurd e (by decide),?_⟩
    refine c_dt (c_sq [] [0,3,4,8,9,10,11,13,65,66,67,92] m .nil fun f G=>(c_if (decide (F > (0:Int))) G (fun F=>?_) (fun F=>?_)))
    ·have q:=cond_t F X
     have f:=P.drew
     refine c_regD (rD 9 [7,8]) [7,8] (fun x=>x=o.drew) rfl ?_
     obtain ⟨z,g,q⟩:=bind_some q
     obtain ⟨m,o,p,l,g,t⟩:=f.ownGet (j:=6) rfl g
     obtain ⟨l,rfl,y⟩:=g
     refine c_E 7 [.slice I H.length J, .map K, .slice V A.1.length W, .pointer (some m), .map l] [0,3,4,8,9,10,65,66,67,93,99] G (.cell (f.bx 3 0 rfl rfl) (.cell (f.bx 3 1 rfl rfl) (.cell (f.bx 2 0 rfl rfl) (.prop o (.prop p (.cell (t 0 _ rfl) .nil)))))) .nil fun g o=>?_
     obtain ⟨g,m,q⟩:=bind_some q
     refine c_call o (f111_ok fuel H y7 A.1 z g m R _ _ f I J (SliceR.mono (zt M u) a6) K (MapR.mono (zt M u) a7) V W (SliceR.mono u Y) l y) ?_
     rintro t y z ⟨A,f,l,m,B,rfl,o,C,D⟩ p
     refine ⟨fun e=>absurd e (by decide),?_⟩
     refine c_st 3 [.slice f g.1.length l, .map m] o p rfl fun t y o p=>⟨fun e=>absurd e (by decide),?_⟩
     refine c_done (n_block (n_then ?_))
     exact ⟨A,O,g.1,g.2,f,l,m,(zt (zt M u) B),p.to,(St.drop 3 o),C,D,q⟩
    ·have q:=cond_f F X
     refine c_skip (n_block (n_then ?_))
     exact ⟨R,O,H,y7,I,J,K,(zt M u),G.to,(St.drop 3 P),(SliceR.mono (zt M u) a6),(MapR.mono (zt M u) a7),q⟩
   ·rintro g l ⟨U,y2,y3,y4,a1,q9,a2,m,f,o,p,t,q⟩
    refine c_q [] [0,3,4,8,9,10,65,66,67] f .nil fun g f=>?_
    refine n_then ?_
    exact ⟨n1,Nat.lt_succ_self n1,U,y2,y3,y4,(w64 (S + (1:Int))),a1,q9,a2,(zt k7 m),f.to,o,p,t,q⟩
  ·have q:=cond_f a3 a5
   refine c_exit 2 (x_then (x_then (x_block (n_then (c_sr (c_n 1 [.slice I H.length J, .map K] [4,102] a4 (.cell (a0.bx 0 0 rfl rfl) (.cell (a0.bx 0 1 rfl rfl) .nil)) fun m g=>(c_st 8 [.slice I H.length J, .map K] a0 g rfl fun o p f l=>tv (c_dt (c_ret (c_rt [.slice I H.length J, .map K] (.agg #[.slice I H.length J, .map K]) l (.cell (f.bx 8 0 rfl rfl) (.cell (f.bx 8 1 rfl rfl) .nil)) ?_))))))))))
   obtain rfl:=some_eq q
   exact ⟨_,rfl,Q,I,J,K,(zt (zt (zt k3 k5) k6) k7),rfl,(St.pick 11 [10] f (by kernel_rfl)),a6,a7⟩
def F99 (fuel:Nat) (x0:Pl) (x1k:Int) (x1o:Int) (x1f:Int) (x1t:Int) (x1m:Int):Option (List Part×List (Int×Bool)×Pl) :=
  ((F112 fuel x0 x1f).bind fun r1=>((F113 fuel r1.2.2 x1f).bind fun r2=>((F107 fuel r2 x1f r1.1 r1.2.1).bind fun r3=>(some ([],[],r3)))))
set_option maxRecDepth 100000 in
theorem f99_ok (fuel:Nat) (x0:Pl) (x1k:Int) (x1o:Int) (x1f:Int) (x1t:Int) (x1m:Int) (r:List Part×List (Int×Bool)×Pl) (hr:F99 fuel x0 x1k x1o x1f x1t x1m=some r) (h:Zone) (L:List Atom) (w:World) (b_x0:Nat) (hS:St h (plA 69 49 101 b_x0 x0::L) w)  :
    Calls Tryz.prog 99 #[pB b_x0 0, .agg #[vI x1k,vI x1o,vI x1f,vI x1t,vI x1m]] w fun e w'=>∃v,e= .returned v∧(∃h',∃o0:Option Addr,∃c0:Nat,∃o1:Option Nat,Zone.le h h'∧v= .agg #[.slice o0 r.1.length c0, .map o1]∧St h' (plA 69 49 101 b_x0 r.2.2::L) w'∧SliceR PartT h' o0 c0 r.1∧MapR Value.bool h' o1 r.2.1):=by
 refine calls_intro (N:=20) Tryz.func99 (by kernel_rfl) fun a hf=>?_
 refine c_sr (c_box [vI x1k,vI x1o,vI x1f,vI x1t,vI x1m] 74 hS hf fun g k l c d=>tv (c_box [N0, .map none] 103 c d fun m n o b f=>tv (c_dt (c_sr (c_n 3 [vI x1f] [0,3,4,6,8] f (.cell (b.bx 1 2 rfl rfl) .nil) fun p q=>?_)))))
 have b:=St.swapTo (i:=3) (j:=0) (St.addEmp b) rfl rfl (by decide)
 have c:=b
 obtain ⟨k,b,s⟩:=bind_some hr
 refine c_call q (f112_ok fuel x0 x1f k b h _ _ b_x0 c ) ?_
 rintro c d f ⟨m,n,o,p,x,rfl,b,t,u⟩ g
 have b:=St.swapTo (i:=0) (j:=3) b rfl rfl (by decide)
 have b:=b
 refine tv ?_
 refine c_box [N0, .map none] 103 b g fun d f g b c=>tv ?_
 refine c_st 0 [.slice n k.1.length o, .map p] b c rfl fun d f b c=>tv ?_
 refine c_dt (c_sr (c_n 3 [vI x1f] [0,3,4,5,10,12] c (.cell (b.bx 3 2 rfl rfl) .nil) fun c d=>?_))
 have b:=St.swapTo (i:=5) (j:=0) (St.addEmp b) rfl rfl (by decide)
 have c:=b
 obtain ⟨l,b,s⟩:=bind_some s
 refine c_call d (f113_ok fuel k.2.2 x1f l b m _ _ b_x0 c ) ?_
 rintro c d f ⟨q,m,rfl,b⟩ g
 have b:=St.swapTo (i:=0) (j:=5) b rfl rfl (by decide)
 have b:=b
 refine tv ?_
 refine c_dt (c_sr (c_n 4 [vI x1f, .slice n k.1.length o, .map p] [4,14,16,17] g (.cell (b.bx 4 2 rfl rfl) (.cell (b.bx 1 0 rfl rfl) (.cell (b.bx 1 1 rfl rfl) .nil))) fun c f=>?_))
 have b:=St.swapTo (i:=6) (j:=0) (St.addEmp b) rfl rfl (by decide)
 have d:=b
 obtain ⟨b,c,s⟩:=bind_some s
 refine c_call f (f107_ok fuel l x1f k.1 k.2.1 b c q _ _ b_x0 d n o (SliceR.mono m t) p (MapR.mono m u)) ?_
 rintro c d f ⟨l,n,rfl,b⟩ g
 have b:=St.swapTo (i:=0) (j:=6) b rfl rfl (by decide)
 have b:=b
 refine tv ?_
 refine c_dt (c_sr (c_n 1 [] [4,19] g .nil fun f c=>(c_st 4 [N0, .map none] b c rfl fun g k b d=>tv (c_dt (c_ret (c_rt [N0, .map none] (.agg #[N0, .map none]) d (.cell (b.bx 4 0 rfl rfl) (.cell (b.bx 4 1 rfl rfl) .nil)) ?_))))))
 obtain rfl:=some_eq s
 exact ⟨_,rfl,l,none,0,none,(zt (zt x m) n),rfl,(St.pick 7 [6] b (by kernel_rfl)),SliceR.nil' _ _,(MapR.nil' _ _)⟩
def F51 (fuel:Nat) (x0:Pl) (x1k:Int) (x1o:Int) (x1f:Int) (x1t:Int) (x1m:Int):Option (List Part×List (Int×Bool)×Int×Pl) :=
  ((F78 fuel x0.lots x0.holds x1k x1o x1f x1t x1m).bind fun r1=>(cond (r1 != (0:Int)) (some ([],[],r1,x0)) ((F79 fuel ).bind fun r2=>(cond ((lkK r2 x1k zrow).fn == some 94) ((F94 fuel x0 x1k x1o x1f x1t x1m).bind fun r3=>(some (r3.1,r3.2.1,0,r3.2.2))) (cond ((lkK r2 x1k zrow).fn == some 95) ((F95 fuel x0 x1k x1o x1f x1t x1m).bind fun r4=>(some (r4.1,r4.2.1,0,r4.2.2))) (cond ((lkK r2 x1k zrow).fn == some 96) ((F96 fuel x0 x1k x1o x1f x1t x1m).bind fun r5=>(some (r5.1,r5.2.1,0,r5.2.2))) (cond ((lkK r2 x1k zrow).fn == some 97) ((F97 fuel x0 x1k x1o x1f x1t x1m).bind fun r6=>(some (r6.1,r6.2.1,0,r6.2.2))) (cond ((lkK r2 x1k zrow).fn == some 98) ((F98 fuel x0 x1k x1o x1f x1t x1m).bind fun r7=>(some (r7.1,r7.2.1,0,r7.2.2))) (cond ((lkK r2 x1k zrow).fn == some 99) ((F99 fuel x0 x1k x1o x1f x1t x1m).bind fun r8=>(some (r8.1,r8.2.1,0,r8.2.2))) none)))))))))
set_option maxRecDepth 100000 in
theorem f51_ok (fuel:Nat) (x0:Pl) (x1k:Int) (x1o:Int) (x1f:Int) (x1t:Int) (x1m:Int) (r:List Part×List (Int×Bool)×Int×Pl) (hr:F51 fuel x0 x1k x1o x1f x1t x1m=some r) (h:Zone) (L:List Atom) (w:World) (b_x0:Nat) (hS:St h (plA 69 49 101 b_x0 x0::L) w)  :
    Calls Tryz.prog 51 #[pB b_x0 0, .agg #[vI x1k,vI x1o,vI x1f,vI x1t,vI x1m]] w fun e w'=>∃v,e= .returned v∧(∃h',∃o0:Option Addr,∃c0:Nat,∃o1:Option Nat,Zone.le h h'∧v= .tuple #[.agg #[.slice o0 r.1.length c0, .map o1],vI r.2.2.1]∧St h' (plA 69 49 101 b_x0 r.2.2.2::L) w'∧SliceR PartT h' o0 c0 r.1∧MapR Value.bool h' o1 r.2.1):=by
 refine calls_intro (N:=25) Tryz.func51 (by kernel_rfl) fun a hf=>?_
 refine c_sr (c_box [vI x1k,vI x1o,vI x1f,vI x1t,vI x1m] 74 hS hf fun U m q b f=>tv (c_box [N0, .map none] 103 b f fun V K u l g=>tv (c_t [] [0,3,4] g .nil fun y R=>(c_seq (c_seq ?_)))))
 obtain ⟨u,y,A,B,C,E,F,G,H,I,J,f,g,l,m,q,M,O,P,Q,S,b⟩:=l.plOpen (i:=2) rfl
 have b:=b.drew
 refine c_regD (rD 7 [5]) [5] (fun x=>x=K.drew) rfl ?_
 refine c_E 5 [.slice u x0.lots.length y,A,B,C,E,F,G,H,I,J,vI x1k,vI x1o,vI x1f,vI x1t,vI x1m] [0,3,4,10,11] R (.cell (b.bx 4 0 rfl rfl) (.cell (b.bx 4 1 rfl rfl) (.cell (b.bx 4 2 rfl rfl) (.cell (b.bx 4 3 rfl rfl) (.cell (b.bx 4 4 rfl rfl) (.cell (b.bx 4 5 rfl rfl) (.cell (b.bx 4 6 rfl rfl) (.cell (b.bx 4 7 rfl rfl) (.cell (b.bx 4 8 rfl rfl) (.cell (b.bx 4 9 rfl rfl) (.cell (b.bx 3 0 rfl rfl) (.cell (b.bx 3 1 rfl rfl) (.cell (b.bx 3 2 rfl rfl) (.cell (b.bx 3 3 rfl rfl) (.cell (b.bx 3 4 rfl rfl) .nil))))))))))))))) .nil fun g f=>?_
 obtain ⟨q,m,T⟩:=bind_some hr
 refine c_call f (lend b (j:=0) rfl (n:=9) rfl fun b L112 f g l=>f78_ok fuel x0.lots x0.holds x1k x1o x1f x1t x1m q m b L112 _ l u y (SliceR.mono f S) A B C E F G H I J g) ?_
 rintro f g l ⟨F,M,rfl,m⟩ b
 refine ⟨fun e=>absurd e (by decide),?_⟩
 refine p_qP 1 [] [(0,pB b_x0 0),(3,pB U 0),(4,pB V 0),(6,vI q)] [] b (by kernel_rfl) (fun _=> .nil) fun b f=>?_
 refine c_done ?_
 have E:=m.plClose (i:=4) (j:=0) (k:=1) rfl (SliceR.mono M S) rfl rfl (by decide) (by decide) (by decide)
 refine n_then (c_sq [] [0,3,4,6,14] f .nil fun b C=>(c_if (q != (0:Int)) C (fun m=>?_) (fun m=>?_)))
 ·have p:=cond_t m T
  refine c_sr (c_n 2 [] [4,15,16] C .nil fun u f=>(c_st 2 [N0, .map none] E f rfl fun y A b g=>tv (c_t [] [4,5] g .nil fun B l=>(c_ret (r_then (c_rt [N0, .map none] (.tuple #[.agg #[N0, .map none],vI q]) l (.cell (b.bx 2 0 rfl rfl) (.cell (b.bx 2 1 rfl rfl) .nil)) ?_))))))
  obtain rfl:=some_eq p
  exact ⟨_,rfl,F,none,0,none,M,rfl,(St.pick 5 [4] b (by kernel_rfl)),SliceR.nil' _ _,(MapR.nil' _ _)⟩
 ·have p:=cond_f m T
  refine c_skip (n_then (c_seq ?_))
  have g:=E.drew
  have b:=Sub.of zr g
  refine c_regD [(1,true),(2,true),(5,true),(6,true),(0,false),(3,false),(4,true),(7,false),(8,false),(9,true)] [7,8] _ b ?_
  refine c_S 4 [vI x1k,vI x1k,vI x1o,vI x1f,vI x1t,vI x1m] [4,19,22,23] b C (fun _ s=>(.cell (s.bx 3 0 rfl rfl) (.cell (s.bx 3 0 rfl rfl) (.cell (s.bx 3 1 rfl rfl) (.cell (s.bx 3 2 rfl rfl) (.cell (s.bx 3 3 rfl rfl) (.cell (s.bx 3 4 rfl rfl) .nil))))))) .nil fun b f=>?_
  obtain ⟨J,b,T⟩:=bind_some p
  refine c_call f (f79_ok fuel  J b F _ _ g ) ?_
  rintro b f g ⟨O,l,I,rfl,H,m⟩ q
  refine ⟨fun _=>Sub.of I H,?_⟩
  have b:=Sub.of I H
  refine p_lookup (i:=3) (d:=(some 20)) (t:=142) (o:=l) (k:=x1k) (c:=false) (z:=zrow) (D:=J) q (by kernel_rfl) mp142 (MapR.look m H) fun b f=>⟨fun _=>Sub.of I H,?_⟩
  have b:=Sub.of I H
  refine c_S 1 [] [4,21,22,23] b f (fun _ s=> .nil) .nil fun b K=>?_
  rcases bft ((lkK J x1k zrow).fn == some 94) with B | B
  ·have p:=cond_t B T
   have l:Fr _ 25 [(4,pB V 0),(21, .func (.func 94) #[] #[]),(22,pB b_x0 0),(23, .agg #[vI x1k,vI x1o,vI x1f,vI x1t,vI x1m])]:=Fr.conv K.to (congrArg (fun z=>([(4,pB V 0),(21,fnV z),(22,pB b_x0 0),(23, .agg #[vI x1k,vI x1o,vI x1f,vI x1t,vI x1m])]:FL)) (eq_of_beq B))
   have b:=St.swapTo (i:=5) (j:=0) (St.addEmp H) rfl rfl (by decide)
   have f:=b
   obtain ⟨g,b,p⟩:=bind_some p
   refine c_call l (f94_ok fuel x0 x1k x1o x1f x1t x1m g b O _ _ b_x0 f ) ?_
   rintro f u y ⟨C,l,m,q,E,rfl,b,F,G⟩ A
   have b:=St.swapTo (i:=0) (j:=5) b rfl rfl (by decide)
   have b:=b
   refine ⟨fun e=>absurd e (by decide),?_⟩
   refine c_st 3 [.slice l g.1.length m, .map q] b A rfl fun u y b f=>⟨fun e=>absurd e (by decide),?_⟩
   refine p_qP 1 [] [(4,pB V 0),(5,vI 0)] [] f (by kernel_rfl) (fun _=> .nil) fun u f=>?_
   refine c_dt (c_ret (c_rt [.slice l g.1.length m, .map q] (.tuple #[.agg #[.slice l g.1.length m, .map q],vI 0]) f (.cell (b.bx 3 0 rfl rfl) (.cell (b.bx 3 1 rfl rfl) .nil)) ?_))
   obtain rfl:=some_eq p
   exact ⟨_,rfl,C,l,m,q,(zt (zt M I) E),rfl,(St.pick 6 [5] b (by kernel_rfl)),F,G⟩
  ·have T:=cond_f B T
   rcases bft ((lkK J x1k zrow).fn == some 95) with B | B
   ·have p:=cond_t B T
    have l:Fr _ 25 [(4,pB V 0),(21, .func (.func 95) #[] #[]),(22,pB b_x0 0),(23, .agg #[vI x1k,vI x1o,vI x1f,vI x1t,vI x1m])]:=Fr.conv K.to (congrArg (fun z=>([(4,pB V 0),(21,fnV z),(22,pB b_x0 0),(23, .agg #[vI x1k,vI x1o,vI x1f,vI x1t,vI x1m])]:FL)) (eq_of_beq B))
    have b:=St.swapTo (i:=5) (j:=0) (St.addEmp H) rfl rfl (by decide)
    have f:=b
    obtain ⟨g,b,p⟩:=bind_some p
    refine c_call l (f95_ok fuel x0 x1k x1o x1f x1t x1m g b O _ _ b_x0 f ) ?_
    rintro f u y ⟨C,l,m,q,E,rfl,b,F,G⟩ A
    have b:=St.swapTo (i:=0) (j:=5) b rfl rfl (by decide)
    have b:=b
    refine ⟨fun e=>absurd e (by decide),?_⟩
    refine c_st 3 [.slice l g.1.length m, .map q] b A rfl fun u y b f=>⟨fun e=>absurd e (by decide),?_⟩
    refine p_qP 1 [] [(4,pB V 0),(5,vI 0)] [] f (by kernel_rfl) (fun _=> .nil) fun u f=>?_
    refine c_dt (c_ret (c_rt [.slice l g.1.length m, .map q] (.tuple #[.agg #[.slice l g.1.length m, .map q],vI 0]) f (.cell (b.bx 3 0 rfl rfl) (.cell (b.bx 3 1 rfl rfl) .nil)) ?_))
    obtain rfl:=some_eq p
    exact ⟨_,rfl,C,l,m,q,(zt (zt M I) E),rfl,(St.pick 6 [5] b (by kernel_rfl)),F,G⟩
   ·have T:=cond_f B T
    rcases bft ((lkK J x1k zrow).fn == some 96) with B | B
    ·have p:=cond_t B T
     have l:Fr _ 25 [(4,pB V 0),(21, .func (.func 96) #[] #[]),(22,pB b_x0 0),(23, .agg #[vI x1k,vI x1o,vI x1f,vI x1t,vI x1m])]:=Fr.conv K.to (congrArg (fun z=>([(4,pB V 0),(21,fnV z),(22,pB b_x0 0),(23, .agg #[vI x1k,vI x1o,vI x1f,vI x1t,vI x1m])]:FL)) (eq_of_beq B))
     have b:=St.swapTo (i:=5) (j:=0) (St.addEmp H) rfl rfl (by decide)
     have f:=b
     obtain ⟨g,b,p⟩:=bind_some p
     refine c_call l (f96_ok fuel x0 x1k x1o x1f x1t x1m g b O _ _ b_x0 f ) ?_
     rintro f u y ⟨C,l,m,q,E,rfl,b,F,G⟩ A
     have b:=St.swapTo (i:=0) (j:=5) b rfl rfl (by decide)
     have b:=b
     refine ⟨fun e=>absurd e (by decide),?_⟩
     refine c_st 3 [.slice l g.1.length m, .map q] b A rfl fun u y b f=>⟨fun e=>absurd e (by decide),?_⟩
     refine p_qP 1 [] [(4,pB V 0),(5,vI 0)] [] f (by kernel_rfl) (fun _=> .nil) fun u f=>?_
     refine c_dt (c_ret (c_rt [.slice l g.1.length m, .map q] (.tuple #[.agg #[.slice l g.1.length m, .map q],vI 0]) f (.cell (b.bx 3 0 rfl rfl) (.cell (b.bx 3 1 rfl rfl) .nil)) ?_))
     obtain rfl:=some_eq p
     exact ⟨_,rfl,C,l,m,q,(zt (zt M I) E),rfl,(St.pick 6 [5] b (by kernel_rfl)),F,G⟩
    ·have T:=cond_f B T
     rcases bft ((lkK J x1k zrow).fn == some 97) with B | B
     ·have p:=cond_t B T
      have l:Fr _ 25 [(4,pB V 0),(21, .func (.func 97) #[] #[]),(22,pB b_x0 0),(23, .agg #[vI x1k,vI x1o,vI x1f,vI x1t,vI x1m])]:=Fr.conv K.to (congrArg (fun z=>([(4,pB V 0),(21,fnV z),(22,pB b_x0 0),(23, .agg #[vI x1k,vI x1o,vI x1f,vI x1t,vI x1m])]:FL)) (eq_of_beq B))
      have b:=St.swapTo (i:=5) (j:=0) (St.addEmp H) rfl rfl (by decide)
      have f:=b
      obtain ⟨g,b,p⟩:=bind_some p
      refine c_call l (f97_ok fuel x0 x1k x1o x1f x1t x1m g b O _ _ b_x0 f ) ?_
      rintro f u y ⟨C,l,m,q,E,rfl,b,F,G⟩ A
      have b:=St.swapTo (i:=0) (j:=5) b rfl rfl (by decide)
      have b:=b
      refine ⟨fun e=>absurd e (by decide),?_⟩
      refine c_st 3 [.slice l g.1.length m, .map q] b A rfl fun u y b f=>⟨fun e=>absurd e (by decide),?_⟩
      refine p_qP 1 [] [(4,pB V 0),(5,vI 0)] [] f (by kernel_rfl) (fun _=> .nil) fun u f=>?_
      refine c_dt (c_ret (c_rt [.slice l g.1.length m, .map q] (.tuple #[.agg #[.slice l g.1.length m, .map q],vI 0]) f (.cell (b.bx 3 0 rfl rfl) (.cell (b.bx 3 1 rfl rfl) .nil)) ?_))
      obtain rfl:=some_eq p
      exact ⟨_,rfl,C,l,m,q,(zt (zt M I) E),rfl,(St.pick 6 [5] b (by kernel_rfl)),F,G⟩
     ·have T:=cond_f B T
      rcases bft ((lkK J x1k zrow).fn == some 98) with B | B
      ·have p:=cond_t B T
       have l:Fr _ 25 [(4,pB V 0),(21, .func (.func 98) #[] #[]),(22,pB b_x0 0),(23, .agg #[vI x1k,vI x1o,vI x1f,vI x1t,vI x1m])]:=Fr.conv K.to (congrArg (fun z=>([(4,pB V 0),(21,fnV z),(22,pB b_x0 0),(23, .agg #[vI x1k,vI x1o,vI x1f,vI x1t,vI x1m])]:FL)) (eq_of_beq B))
       have b:=St.swapTo (i:=5) (j:=0) (St.addEmp H) rfl rfl (by decide)
       have f:=b
       obtain ⟨g,b,p⟩:=bind_some p
       refine c_call l (f98_ok fuel x0 x1k x1o x1f x1t x1m g b O _ _ b_x0 f ) ?_
       rintro f u y ⟨C,l,m,q,E,rfl,b,F,G⟩ A
       have b:=St.swapTo (i:=0) (j:=5) b rfl rfl (by decide)
       have b:=b
       refine ⟨fun e=>absurd e (by decide),?_⟩
       refine c_st 3 [.slice l g.1.length m, .map q] b A rfl fun u y b f=>⟨fun e=>absurd e (by decide),?_⟩
       refine p_qP 1 [] [(4,pB V 0),(5,vI 0)] [] f (by kernel_rfl) (fun _=> .nil) fun u f=>?_
       refine c_dt (c_ret (c_rt [.slice l g.1.length m, .map q] (.tuple #[.agg #[.slice l g.1.length m, .map q],vI 0]) f (.cell (b.bx 3 0 rfl rfl) (.cell (b.bx 3 1 rfl rfl) .nil)) ?_))
       obtain rfl:=some_eq p
       exact ⟨_,rfl,C,l,m,q,(zt (zt M I) E),rfl,(St.pick 6 [5] b (by kernel_rfl)),F,G⟩
      ·have T:=cond_f B T
       rcases bft ((lkK J x1k zrow).fn == some 99) with B | B
       ·have p:=cond_t B T
        have l:Fr _ 25 [(4,pB V 0),(21, .func (.func 99) #[] #[]),(22,pB b_x0 0),(23, .agg #[vI x1k,vI x1o,vI x1f,vI x1t,vI x1m])]:=Fr.conv K.to (congrArg (fun z=>([(4,pB V 0),(21,fnV z),(22,pB b_x0 0),(23, .agg #[vI x1k,vI x1o,vI x1f,vI x1t,vI x1m])]:FL)) (eq_of_beq B))
        have b:=St.swapTo (i:=5) (j:=0) (St.addEmp H) rfl rfl (by decide)
        have f:=b
        obtain ⟨g,b,p⟩:=bind_some p
        refine c_call l (f99_ok fuel x0 x1k x1o x1f x1t x1m g b O _ _ b_x0 f ) ?_
        rintro f u y ⟨C,l,m,q,E,rfl,b,F,G⟩ A
        have b:=St.swapTo (i:=0) (j:=5) b rfl rfl (by decide)
        have b:=b
        refine ⟨fun e=>absurd e (by decide),?_⟩
        refine c_st 3 [.slice l g.1.length m, .map q] b A rfl fun u y b f=>⟨fun e=>absurd e (by decide),?_⟩
        refine p_qP 1 [] [(4,pB V 0),(5,vI 0)] [] f (by kernel_rfl) (fun _=> .nil) fun u f=>?_
        refine c_dt (c_ret (c_rt [.slice l g.1.length m, .map q] (.tuple #[.agg #[.slice l g.1.length m, .map q],vI 0]) f (.cell (b.bx 3 0 rfl rfl) (.cell (b.bx 3 1 rfl rfl) .nil)) ?_))
        obtain rfl:=some_eq p
        exact ⟨_,rfl,C,l,m,q,(zt (zt M I) E),rfl,(St.pick 6 [5] b (by kernel_rfl)),F,G⟩
       ·have p:=cond_f B T
        cases p
def F16_j7 (y1:Int) (y2:Int):Option (Bool×Int×Int) :=
  (cond (y2 != (0:Int)) (some (false,0,y2)) (some ((decide (y1<(0:Int))),y1,0)))
def F16_j8 (y1:Int) (y3:Int) (y4:Bool):Option (Bool×Int×Int) :=
  (cond y4 (F16_j7 y1 1) (F16_j7 y1 y3))
def F16_j6 (x2:Int) (x3:Int) (y1:Int) (y3:Int):Option (Bool×Int×Int) :=
  (cond (y3 == (0:Int)) (F16_j8 y1 y3 (x2 == x3)) (F16_j8 y1 y3 false))
def F16_j1 (fuel:Nat) (x0:List Lot) (x2:Int) (x3:Int) (y1:Int) (y5:Option Pl) (y6:Int) (y7:Int):Option (Bool×Int×Int) :=
  (cond (y7 == (0:Int)) ((F47 fuel x0 ([x2,x3])).bind fun r1=>(F16_j6 x2 x3 y1 r1)) (F16_j6 x2 x3 y1 y7))
def F16_j2 (k1:Int→Int→Option (Bool×Int×Int)) (y8:Int) (y9:Int):Option (Bool×Int×Int) :=
  (k1 y9 (w64 (y8 + (1:Int))))
def F16_j3 (k1:Int→Int→Option (Bool×Int×Int)) (y10:Int) (y11:Int) (y8:Int) (y12:Bool):Option (Bool×Int×Int) :=
  (cond y12 (F16_j2 k1 y8 y10) (F16_j2 k1 y8 y11))
def F16_j4 (k1:Int→Int→Option (Bool×Int×Int)) (y10:Int) (y11:Int) (y8:Int) (y13:Int):Option (Bool×Int×Int) :=
  (F16_j3 k1 y10 y11 y8 (decide (y13≥(0:Int))))
def F16_j5 (k1:Int→Int→Option (Bool×Int×Int)) (k2:Int→Option (Bool×Int×Int)) (y10:Int) (y11:Int) (y8:Int) (y14:Int) (y15:Bool):Option (Bool×Int×Int) :=
  (cond y15 (F16_j4 k1 y10 y11 y8 y14) (k2 (w64 (y14 + (1:Int)))))
def F16_l3 (k1:Int→Int→Option (Bool×Int×Int)) (x2:Int) (x3:Int) (y10:Int) (y11:Int) (y8:Int) (p1:List (List (Int×Bool))):Nat→Int→Option (Bool×Int×Int)
  | 0,_=>none
  | n1 + 1,y14 =>
    let k2:Int→Option (Bool×Int×Int):=F16_l3 k1 x2 x3 y10 y11 y8 p1 n1
    (cond (decide (y14<(p1.length:Int))) ((getI p1 y14).bind fun p2=>(cond (lkK p2 x2 false) (F16_j5 k1 k2 y10 y11 y8 y14 (lkK p2 x3 false)) (F16_j5 k1 k2 y10 y11 y8 y14 false))) (F16_j4 k1 y10 y11 y8 (-1)))
def F16_l2 (fuel:Nat) (k3:Pl→Int→Int→Option (Bool×Int×Int)) (x2:Int) (x3:Int) (y10:Int) (r2:List Part×List (Int×Bool)×Int×Pl):Nat→Int→Int→Option (Bool×Int×Int)
  | 0,_,_=>none
  | n2 + 1,y11,y8 =>
    let k1:Int→Int→Option (Bool×Int×Int):=F16_l2 fuel k3 x2 x3 y10 r2 n2
    (cond (decide (y8<(9:Int))) ((getI r2.2.2.2.may y8).bind fun p1=>(cond (decide (y11<(0:Int))) (F16_l3 k1 x2 x3 y10 y11 y8 p1 fuel 0) (F16_j3 k1 y10 y11 y8 false))) (k3 r2.2.2.2 y11 (w64 (y10 + (1:Int)))))
def F16_l1 (fuel:Nat) (x0:List Lot) (x1:List Deed) (x2:Int) (x3:Int):Nat→Pl→Int→Int→Option (Bool×Int×Int)
  | 0,_,_,_=>none
  | n3 + 1,y16,y17,y10 =>
    let k3:Pl→Int→Int→Option (Bool×Int×Int):=F16_l1 fuel x0 x1 x2 x3 n3
    (cond (decide (y10<(x1.length:Int))) ((getI x1 y10).bind fun p3=>((F51 fuel y16 p3.kind p3.lot p3.frm p3.to p3.mass).bind fun r2=>(cond (r2.2.2.1 != (0:Int)) (F16_j1 fuel x0 x2 x3 y17 none y10 r2.2.2.1) (F16_l2 fuel k3 x2 x3 y10 r2 fuel y17 0)))) (F16_j1 fuel x0 x2 x3 y17 (some y16) (x1.length:Int) 0))
def F16 (fuel:Nat) (x0:List Lot) (x1:List Deed) (x2:Int) (x3:Int):Option (Bool×Int×Int) :=
  ((F49 fuel x0 x1).bind fun r3=>(cond (r3 != (0:Int)) (F16_j1 fuel x0 x2 x3 (-1) none 0 r3) ((F50 fuel x0 ([[],[],[],[],[],[],[],[],[]])).bind fun r4=>(F16_l1 fuel x0 x1 x2 x3 fuel r4 (-1) 0))))
set_option maxRecDepth 100000 in
theorem f16_ok (fuel:Nat) (x0:List Lot) (x1:List Deed) (x2:Int) (x3:Int) (r:Bool×Int×Int) (hr:F16 fuel x0 x1 x2 x3=some r) (h:Zone) (L:List Atom) (w:World) (hS:St h L w) (o_x0:Option Addr) (c_x0:Nat) (hx_x0:SliceR LotT h o_x0 c_x0 x0) (o_x1:Option Addr) (c_x1:Nat) (hx_x1:SliceR DeedT h o_x1 c_x1 x1) :
    Calls Tryz.prog 16 #[.slice o_x0 x0.length c_x0, .slice o_x1 x1.length c_x1,vI x2,vI x3] w fun e w'=>∃v,e= .returned v∧(∃h',Zone.le h h'∧v= .tuple #[.bool r.1,vI r.2.1,vI r.2.2]∧St h' L w'):=by
 refine calls_intro (N:=43) Tryz.func16 (by kernel_rfl) fun a hf=>?_
 refine c_sr (c_box [vI x2] 3 hS hf fun b1 C F g l=>tv (c_box [vI x3] 3 g l fun b2 G H m p=>tv (c_t [] [0,1,6,7] p .nil fun I q=>(c_sr (c_box [vI 0] 3 m q fun b3 J K s u=>tv (c_st 0 [vI (-1)] s u rfl fun M O Q x=>tv (c_dt (c_sr (c_n 3 [] [0,6,7,11,16,17,18] x .nil fun P y=>(c_call (f:=18) (args:= #[.slice o_x0 x0.length c_x0, .slice o_x1 x1.length c_x1, .func (.func 44) #[] #[pB b3 0,pB b1 0,pB b2 0]]) (Φ:=fun v w=>∃z1:Zone,∃y1:Int,∃y5:Option Pl,∃y6:Int,∃y7:Int,∃p4:Option Addr,Zone.le h z1∧v= .tuple #[.pointer p4,vI y6,vI y7]∧St z1 (plO 69 49 101 p4 y5::box b3 [vI y1] 3::box b2 [vI x3] 3::box b1 [vI x2] 3::L) w∧(F16_j1 fuel x0 x2 x3 y1 y5 y6 y7)=some r) y ?_ ?_))))))))))
 ·refine calls_intro (N:=50) Tryz.func18 (by kernel_rfl) fun l g=>?_
  refine c_sq [] [0,1,2] g .nil fun l g=>?_
  refine c_seq (c_sr (c_n 2 [] [0,1,2,15,16] g .nil fun g l=>?_))
  obtain ⟨p,g,B⟩:=bind_some hr
  refine c_call l (f49_ok fuel x0 x1 p g h _ _ Q o_x0 c_x0 hx_x0 o_x1 c_x1 hx_x1) ?_
  rintro l m q ⟨s,k4,rfl,u⟩ g
  refine tv ?_
  refine c_t [] [0,1,2,9] g .nil fun l g=>?_
  refine c_sq [] [0,1,2,9,19] g .nil fun g m=>?_
  refine c_if (p != (0:Int)) m (fun l=>?_) (fun l=>?_)
  ·have A:=cond_t l B
   refine c_sq [] [6,7,8] m .nil fun q g=>?_
   refine c_ret (r_then (c_rt [] (.tuple #[.pointer none,vI 0,vI p]) g .nil ?_))
   have g:=u.plNone 69 49 101
   exact ⟨_,rfl,s, -1,none,0,p,none,k4,rfl,(St.pick 1 [0] g (by kernel_rfl)),A⟩
  ·have A:=cond_f l B
   refine c_skip (n_then (c_sr (c_n 2 [] [1,2,22] m .nil fun g l=>?_)))
   obtain ⟨m,g,A⟩:=bind_some A
   refine c_call l (f50_ok fuel x0 ([[],[],[],[],[],[],[],[],[]]) m g s _ _ u o_x0 c_x0 (SliceR.mono k4 hx_x0) (N0) (N0) (N0) (N0) (N0) (N0) (N0) (N0) (N0) ⟨rfl,(Rows.cons (c:=[_]) (sliceRep (SliceR.nil' _ _)) (Rows.cons (c:=[_]) (sliceRep (SliceR.nil' _ _)) (Rows.cons (c:=[_]) (sliceRep (SliceR.nil' _ _)) (Rows.cons (c:=[_]) (sliceRep (SliceR.nil' _ _)) (Rows.cons (c:=[_]) (sliceRep (SliceR.nil' _ _)) (Rows.cons (c:=[_]) (sliceRep (SliceR.nil' _ _)) (Rows.cons (c:=[_]) (sliceRep (SliceR.nil' _ _)) (Rows.cons (c:=[_]) (sliceRep (SliceR.nil' _ _)) (Rows.cons (c:=[_]) (sliceRep (SliceR.nil' _ _)) rfl)))))))))⟩) ?_
   rintro p q s ⟨l,b4,k5,rfl,u⟩ g
   refine tv ?_
   refine c_t [] [1,2,10] g .nil fun p g=>?_
   refine c_seq (c_sq [] [1,2,10,24,25,26] g .nil fun p g=>(c_block 0 (c_loop (fun n a w=>∃z4:Zone,∃am:Pl,∃ah:Int,∃a4:Int,Zone.le l z4∧Fr a 50 [(1, .slice o_x1 x1.length c_x1),(2, .func (.func 44) #[] #[pB b3 0,pB b1 0,pB b2 0]),(10,pB b4 0),(24, .slice o_x1 x1.length c_x1),(25,vI (x1.length:Int)),(26,vI a4)]∧St z4 (plA 69 49 101 b4 am::box b3 [vI ah] 3::box b2 [vI x3] 3::box b1 [vI x2] 3::L) w∧(F16_l1 fuel x0 x1 x2 x3 n am ah a4)=some r) fuel ⟨l,m, -1,0,zr,g.to,u,A⟩ ?_)))
   rintro g l m ⟨z4,am,ah,a4,k6,p,ad,ar⟩
   cases g with
   | zero=>cases ar
   | succ n3 =>
   refine c_sq [] [1,2,10,24,25,26,27] p .nil fun g aq=>?_
   refine c_seq (c_if (decide (a4<(x1.length:Int))) aq (fun ap=>?_) (fun ap=>?_))
   ·have A:=cond_t ap ar
    refine c_skip (n_then (c_seq (c_block 1 (c_sr ?_))))
    obtain ⟨l,g,A⟩:=bind_some A
    obtain ⟨m,p,q,s,rfl,g⟩:=SliceR.getI (SliceR.mono (zt (zt k4 k5) k6) hx_x1) g
    refine c_n 3 [.pointer (some m),vI l.kind,vI l.lot,vI l.frm,vI l.to,vI l.mass] [1,2,10,24,25,26,28,30] aq (.prop p (.prop q (.cell (ad.cell (g 0 _ rfl)) (.cell (ad.cell (g 1 _ rfl)) (.cell (ad.cell (g 2 _ rfl)) (.cell (ad.cell (g 3 _ rfl)) (.cell (ad.cell (g 4 _ rfl)) .nil))))))) fun m g=>?_
    refine c_box [vI 0,vI 0,vI 0,vI 0,vI 0] 74 ad g fun b5 p q m g=>tv ?_
    refine c_n 1 [] [1,2,10,11,12,24,25,26,30] g .nil fun p g=>?_
    refine c_st 0 [vI l.kind,vI l.lot,vI l.frm,vI l.to,vI l.mass] m g rfl fun p q g m=>tv ?_
    refine c_dt (c_sr (c_n 2 [vI l.kind,vI l.lot,vI l.frm,vI l.to,vI l.mass] [1,2,10,11,24,25,26,32,33] m (.cell (g.bx 0 0 rfl rfl) (.cell (g.bx 0 1 rfl rfl) (.cell (g.bx 0 2 rfl rfl) (.cell (g.bx 0 3 rfl rfl) (.cell (g.bx 0 4 rfl rfl) .nil))))) fun m p=>?_))
    have g:=St.swapTo (i:=2) (j:=0) (St.addEmp g) rfl rfl (by decide)
    have m:=g
    obtain ⟨u,g,B⟩:=bind_some A
    refine c_call p (f51_ok fuel am l.kind l.lot l.frm l.to l.mass u g z4 _ _ b4 m ) ?_
    rintro m p q ⟨M,e1,q1,e2,k7,rfl,g,s,x⟩ y
    have g:=St.swapTo (i:=0) (j:=2) g rfl rfl (by decide)
    have m:=g
    refine tv ?_
    refine c_n 3 [] [1,2,10,11,24,25,26,35,36] y .nil fun p g=>?_
    refine c_box [N0, .map none] 103 m g fun b6 p q g m=>tv ?_
    refine c_st 0 [.slice e1 u.1.length q1, .map e2] g m rfl fun m q p g=>tv ?_
    refine c_t [] [1,2,10,11,13,14,24,25,26] g .nil fun m g=>?_
    refine c_seq (c_sq [] [1,2,10,11,13,14,24,25,26,38] g .nil fun g q=>(c_if (u.2.2.1 != (0:Int)) q (fun m=>?_) (fun m=>?_)))
    ·have A:=cond_t m B
     refine c_sq [] [6,7,8] q .nil fun s g=>?_
     refine c_ret (r_then (r_block (r_then (r_then (r_block (r_then (c_rt [] (.tuple #[.pointer none,vI a4,vI u.2.2.1]) g .nil ?_)))))))
     have g:=p.plNone 69 49 101
     exact ⟨_,rfl,M,ah,none,a4,u.2.2.1,none,(zt (zt (zt k4 k5) k6) k7),rfl,(St.pick 5 [0] g (by kernel_rfl)),A⟩
    ·have A:=cond_f m B
     refine c_skip (n_then (c_reg (c_n 4 [.slice e1 u.1.length q1, .map e2] [1,2,10,24,25,26,41,42,43,44] q (.cell (p.bx 0 0 rfl rfl) (.cell (p.bx 0 1 rfl rfl) .nil)) fun s g=>(p_inl (i:=4) (d:=some 45) (f:=44) (args:= #[vI a4, .agg #[.slice e1 u.1.length q1, .map e2],pB b4 0,pB b3 0,pB b1 0,pB b2 0]) (N':=27) g (by kernel_rfl) Tryz.func44 (by kernel_rfl) fun x m=>(c_sr (c_box [.slice e1 u.1.length q1, .map e2] 103 p m fun b7 y C p q=>tv (c_dt ?_)))))))
     obtain ⟨e3,q2,R,S,U,V,W,X,Y,Z,a0,x,y,C,F,G,H,I,J,K,au,g⟩:=p.plOpen (i:=4) rfl
     refine c_sq [x,y,C,F,G,H,I,J,K] [0,3,4,5,14,15] q (.cell (g.bx 6 10 rfl rfl) (.cell (g.bx 6 11 rfl rfl) (.cell (g.bx 6 12 rfl rfl) (.cell (g.bx 6 13 rfl rfl) (.cell (g.bx 6 14 rfl rfl) (.cell (g.bx 6 15 rfl rfl) (.cell (g.bx 6 16 rfl rfl) (.cell (g.bx 6 17 rfl rfl) (.cell (g.bx 6 18 rfl rfl) .nil))))))))) fun p m=>?_
     refine c_block 0 (c_loop (fun n a w=>∃z6:Zone,∃a6:Int,∃y8:Int,Zone.le M z6∧Fr a 27 [(0,vI a4),(3,pB b3 0),(4,pB b1 0),(5,pB b2 0),(14, .agg #[x,y,C,F,G,H,I,J,K]),(15,vI y8)]∧St z6 (ownA (Ty.slice PartT) 49 [R,S,U,V,W,X,Y,Z,a0] u.2.2.2.holds::ownA (Ty.map Value.bool) 101 [x,y,C,F,G,H,I,J,K] u.2.2.2.may::box b7 [.slice e1 u.1.length q1, .map e2] 103::box b6 [.slice e1 u.1.length q1, .map e2] 103::emp::box b5 [vI l.kind,vI l.lot,vI l.frm,vI l.to,vI l.mass] 74::box b4 [.slice e3 u.2.2.2.lots.length q2,R,S,U,V,W,X,Y,Z,a0,x,y,C,F,G,H,I,J,K] 69::box b3 [vI a6] 3::box b2 [vI x3] 3::box b1 [vI x2] 3::L) w∧(F16_l2 fuel (F16_l1 fuel x0 x1 x2 x3 n3) x2 x3 a4 u n a6 y8)=some r) fuel ⟨M,ah,0,zr,m.to,g,A⟩ ?_)
     rintro g m p ⟨z6,a6,y8,k8,q,ao,an⟩
     cases g with
     | zero=>cases an
     | succ n2 =>
     refine c_sq [] [0,3,4,5,14,15,16] q .nil fun g al=>?_
     refine c_seq (c_if (decide (y8<(9:Int))) al (fun aj=>?_) (fun aj=>?_))
     ·have A:=cond_t aj an
      refine c_skip (n_then (c_mid (fun a w=>∃z7:Zone,∃y9:Int,Zone.le z6 z7∧Fr a 27 [(0,vI a4),(3,pB b3 0),(4,pB b1 0),(5,pB b2 0),(14, .agg #[x,y,C,F,G,H,I,J,K]),(15,vI y8)]∧St z7 (ownA (Ty.slice PartT) 49 [R,S,U,V,W,X,Y,Z,a0] u.2.2.2.holds::ownA (Ty.map Value.bool) 101 [x,y,C,F,G,H,I,J,K] u.2.2.2.may::box b7 [.slice e1 u.1.length q1, .map e2] 103::box b6 [.slice e1 u.1.length q1, .map e2] 103::emp::box b5 [vI l.kind,vI l.lot,vI l.frm,vI l.to,vI l.mass] 74::box b4 [.slice e3 u.2.2.2.lots.length q2,R,S,U,V,W,X,Y,Z,a0,x,y,C,F,G,H,I,J,K] 69::box b3 [vI y9] 3::box b2 [vI x3] 3::box b1 [vI x2] 3::L) w∧(F16_j2 (F16_l2 fuel (F16_l1 fuel x0 x1 x2 x3 n3) x2 x3 a4 u n2) y8 y9)=some r) ?_ ?_))
      ·skip
       refine c_block 1 ?_
       obtain ⟨O,ag,ak⟩:=bind_some A
       obtain ⟨e4,q3,ae,m,af⟩:=ao.ownOpen (j:=1) rfl ag
       have g:=arrIdx ae
       refine c_sq [.slice e4 O.length q3] [0,3,4,5,10,14,15] al (.prop m (.prop g .nil)) fun g m=>?_
       refine c_mid (fun a w=>∃z8:Zone,∃ac:Bool,Zone.le z6 z8∧Fr a 27 [(0,vI a4),(3,pB b3 0),(4,pB b1 0),(5,pB b2 0),(14, .agg #[x,y,C,F,G,H,I,J,K]),(15,vI y8),(24, .bool ac)]∧St z8 (emp::ownA (Ty.slice PartT) 49 [R,S,U,V,W,X,Y,Z,a0] u.2.2.2.holds::ownA (Ty.map Value.bool) 101 [x,y,C,F,G,H,I,J,K] u.2.2.2.may::box b7 [.slice e1 u.1.length q1, .map e2] 103::box b6 [.slice e1 u.1.length q1, .map e2] 103::emp::box b5 [vI l.kind,vI l.lot,vI l.frm,vI l.to,vI l.mass] 74::box b4 [.slice e3 u.2.2.2.lots.length q2,R,S,U,V,W,X,Y,Z,a0,x,y,C,F,G,H,I,J,K] 69::box b3 [vI a6] 3::box b2 [vI x3] 3::box b1 [vI x2] 3::L) w∧(F16_j3 (F16_l2 fuel (F16_l1 fuel x0 x1 x2 x3 n3) x2 x3 a4 u n2) a4 a6 y8 ac)=some r) ?_ ?_
       ·skip
        refine c_reg (c_n 3 [vI a6] [0,3,4,5,10,14,15,20] m (.cell (af.bx 8 0 rfl rfl) .nil) fun g ai=>?_)
        rcases bft (decide (a6<(0:Int))) with ab | ab
        ·have A:=cond_t ab ak
         have g:=ai.lit 20 ab
         refine c_n 2 [] [0,3,4,5,14,15,20,21,22] g .nil fun m g=>?_
         refine p_inl (i:=5) (d:=some 23) (f:=45) (args:= #[.slice e4 O.length q3, .func (.func 46) #[] #[pB b1 0,pB b2 0]]) (N':=9) g (by kernel_rfl) Tryz.func45 (by kernel_rfl) fun m g=>?_
         refine c_sq [] [0,1] g .nil fun m g=>?_
         refine c_sr (c_n 2 [] [5,6] g .nil fun m g=>(c_call (f:=76) (args:= #[.slice e4 O.length q3, .func (.func 46) #[] #[pB b1 0,pB b2 0]]) (Φ:=fun v w=>∃z9:Zone,∃a8:Int,Zone.le z6 z9∧v=vI a8∧St z9 (ownS (Ty.map Value.bool) 101 e4 q3 O::ownA (Ty.slice PartT) 49 [R,S,U,V,W,X,Y,Z,a0] u.2.2.2.holds::ownH (Ty.map Value.bool) 101 [x,y,C,F,G,H,I,J,K] u.2.2.2.may (Int.toNat y8)::box b7 [.slice e1 u.1.length q1, .map e2] 103::box b6 [.slice e1 u.1.length q1, .map e2] 103::emp::box b5 [vI l.kind,vI l.lot,vI l.frm,vI l.to,vI l.mass] 74::box b4 [.slice e3 u.2.2.2.lots.length q2,R,S,U,V,W,X,Y,Z,a0,x,y,C,F,G,H,I,J,K] 69::box b3 [vI a6] 3::box b2 [vI x3] 3::box b1 [vI x2] 3::L) w∧(F16_j4 (F16_l2 fuel (F16_l1 fuel x0 x1 x2 x3 n3) x2 x3 a4 u n2) a4 a6 y8 a8)=some r) g ?_ ?_))
         ·refine calls_intro (N:=19) Tryz.func76 (by kernel_rfl) fun m g=>?_
          refine c_sq [] [0,1] g .nil fun m g=>?_
          refine c_seq (c_sq [] [0,1,7,8] g .nil fun m g=>(c_block 0 (c_loop (fun n a w=>∃a5:Zone,∃a1:Int,Zone.le z6 a5∧Fr a 19 [(0, .slice e4 O.length q3),(1, .func (.func 46) #[] #[pB b1 0,pB b2 0]),(7,vI (O.length:Int)),(8,vI a1)]∧St a5 (ownS (Ty.map Value.bool) 101 e4 q3 O::ownA (Ty.slice PartT) 49 [R,S,U,V,W,X,Y,Z,a0] u.2.2.2.holds::ownH (Ty.map Value.bool) 101 [x,y,C,F,G,H,I,J,K] u.2.2.2.may (Int.toNat y8)::box b7 [.slice e1 u.1.length q1, .map e2] 103::box b6 [.slice e1 u.1.length q1, .map e2] 103::emp::box b5 [vI l.kind,vI l.lot,vI l.frm,vI l.to,vI l.mass] 74::box b4 [.slice e3 u.2.2.2.lots.length q2,R,S,U,V,W,X,Y,Z,a0,x,y,C,F,G,H,I,J,K] 69::box b3 [vI a6] 3::box b2 [vI x3] 3::box b1 [vI x2] 3::L) w∧(F16_l3 (F16_l2 fuel (F16_l1 fuel x0 x1 x2 x3 n3) x2 x3 a4 u n2) x2 x3 a4 a6 y8 O n a1)=some r) fuel ⟨z6,0,zr,g.to,af,A⟩ ?_)))
          rintro g m p ⟨a5,a1,k9,q,a3,aa⟩
          cases g with
          | zero=>cases aa
          | succ n1 =>
          refine c_sq [] [0,1,7,8,9] q .nil fun g a9=>?_
          refine c_seq (c_if (decide (a1<(O.length:Int))) a9 (fun a7=>?_) (fun a7=>?_))
          ·have A:=cond_t a7 aa
           refine c_skip (n_then (c_seq (c_block 1 (c_sq [] [0,1,5,7,8] a9 .nil fun g P=>(c_sr ?_)))))
           obtain ⟨Q,g,B⟩:=bind_some A
           obtain ⟨m,p,q,M,g,s⟩:=a3.ownGet (j:=0) rfl g
           obtain ⟨M,rfl,a2⟩:=g
           refine c_n 5 [.pointer (some m), .map M] [0,1,5,7,8,11,15] P (.prop p (.prop q (.cell (s 0 _ rfl) .nil))) fun m g=>?_
           refine p_inl (i:=5) (d:=some 16) (f:=46) (args:= #[.map M,pB b1 0,pB b2 0]) (N':=13) g (by kernel_rfl) Tryz.func46 (by kernel_rfl) fun m g=>?_
           refine c_sq [] [0,1,2] g .nil fun g m=>?_
           refine c_mid (fun a w=>∃P:Zone,∃s:Bool,Zone.le a5 P∧Fr a 13 [(4, .bool s)]∧St P (ownS (Ty.map Value.bool) 101 e4 q3 O::ownA (Ty.slice PartT) 49 [R,S,U,V,W,X,Y,Z,a0] u.2.2.2.holds::ownH (Ty.map Value.bool) 101 [x,y,C,F,G,H,I,J,K] u.2.2.2.may (Int.toNat y8)::box b7 [.slice e1 u.1.length q1, .map e2] 103::box b6 [.slice e1 u.1.length q1, .map e2] 103::emp::box b5 [vI l.kind,vI l.lot,vI l.frm,vI l.to,vI l.mass] 74::box b4 [.slice e3 u.2.2.2.lots.length q2,R,S,U,V,W,X,Y,Z,a0,x,y,C,F,G,H,I,J,K] 69::box b3 [vI a6] 3::box b2 [vI x3] 3::box b1 [vI x2] 3::L) w∧(F16_j5 (F16_l2 fuel (F16_l1 fuel x0 x1 x2 x3 n3) x2 x3 a4 u n2) (F16_l3 (F16_l2 fuel (F16_l1 fuel x0 x1 x2 x3 n3) x2 x3 a4 u n2) x2 x3 a4 a6 y8 O n1) a4 a6 y8 a1 s)=some r) ?_ ?_
           ·skip
            refine c_reg (c_n 2 [vI x2] [0,2,5,6] m (.cell (a3.bx 10 0 rfl rfl) .nil) fun m g=>(p_lookup (i:=2) (d:=(some 7)) (t:=101) (o:=M) (k:=x2) (c:=false) (z:=false) (D:=Q) g (by kernel_rfl) mp101 (MapR.look a2 a3) fun p l=>tv (c_n 1 [] [0,2,8] l .nil fun q x=>?_)))
            rcases bft (lkK Q x2 false) with g | g
            ·have A:=cond_t g B
             have l:=x.lit 8 g
             refine c_n 2 [vI x3] [8,9,10] l (.cell (a3.bx 9 0 rfl rfl) .nil) fun m l=>?_
             refine p_lookup (i:=6) (d:=(some 11)) (t:=101) (o:=M) (k:=x3) (c:=false) (z:=false) (D:=Q) l (by kernel_rfl) mp101 (MapR.look a2 a3) fun m l=>tv ?_
             refine c_t [] [4] l .nil fun m l=>?_
             exact ⟨a5,(lkK Q x3 false),zr,l.to,a3,A⟩
            ·have A:=cond_f g B
             have g:=x.lit 8 g
             refine c_t [] [4] g .nil fun l g=>?_
             exact ⟨a5,false,zr,g.to,a3,A⟩
           ·rintro l m ⟨P,s,q,g,x,B⟩
            refine c_ret (c_rt [] (.bool s) g .nil (⟨_,rfl,fun g m=>?_⟩))
            refine tv ?_
            refine c_dt (c_if s m (fun g=>?_) (fun g=>?_))
            ·have A:=cond_t g B
             refine c_sq [] [4] m .nil fun p l=>?_
             refine c_ret (r_block (r_then (r_then (r_block (r_then (c_rt [] (vI a1) l .nil ?_))))))
             exact ⟨_,rfl,P,a1,(zt k9 q),rfl,x,A⟩
            ·have A:=cond_f g B
             refine c_skip (n_block (n_then (c_q [] [0,1,7,8] m .nil fun l g=>(n_then ?_))))
             exact ⟨n1,Nat.lt_succ_self n1,P,(w64 (a1 + (1:Int))),(zt k9 q),g.to,x,A⟩
          ·have A:=cond_f a7 aa
           refine c_exit 0 (x_then (x_then (x_block (n_then (c_sq [] [4] a9 .nil fun l g=>(c_ret (c_rt [] (vI (-1)) g .nil ?_)))))))
           exact ⟨_,rfl,a5, -1,k9,rfl,a3,A⟩
         ·rintro l m p ⟨z9,a8,s,rfl,q,A⟩ g
          refine tv ?_
          refine c_t [] [4] g .nil fun l g=>?_
          refine c_ret (c_rt [] (.bool (decide (a8≥(0:Int)))) g .nil (⟨_,rfl,fun l g=>?_⟩))
          refine tv ?_
          refine c_z [] [0,3,4,5,14,15,24] g .nil fun g l=>?_
          have g:=q.ownClose' (j:=2) (k:=0) rfl rfl (by decide) ae (getI_spec ag).2
          refine n_then ?_
          exact ⟨z9,(decide (a8≥(0:Int))),s,l.to,g,A⟩
        ·have A:=cond_f ab ak
         have g:=ai.lit 20 ab
         refine c_z [] [0,3,4,5,14,15,24] g .nil fun g l=>?_
         have g:=af.ownClose' (j:=2) (k:=0) rfl rfl (by decide) ae (getI_spec ag).2
         refine n_then ?_
         exact ⟨z6,false,zr,l.to,g,A⟩
       ·rintro g l ⟨z8,ac,C,q,F,B⟩
        refine c_if ac q (fun l=>?_) (fun l=>?_)
        ·have A:=cond_t l B
         refine c_reg (c_n 1 [] [0,3,4,5,14,15,25] q .nil fun s g=>(c_st 8 [vI a4] F g rfl fun x y m p=>tv (c_done (n_block (n_then ?_)))))
         exact ⟨z8,a4,C,p.to,(St.drop 1 m),A⟩
        ·have A:=cond_f l B
         refine c_skip (n_block (n_then ?_))
         exact ⟨z8,a6,C,q.to,(St.drop 1 F),A⟩
      ·rintro l m ⟨z7,y9,p,g,q,A⟩
       refine c_q [] [0,3,4,5,14,15] g .nil fun l g=>?_
       refine n_then ?_
       exact ⟨n2,Nat.lt_succ_self n2,z7,y9,(w64 (y8 + (1:Int))),(zt k8 p),g.to,q,A⟩
     ·have A:=cond_f aj an
      refine c_exit 0 (x_then (x_then (x_block (c_fall [] (.tuple #[]) al .nil (⟨_,rfl,fun g m=>?_⟩)))))
      refine tv ?_
      refine c_done ?_
      have l:=ao.plClose (i:=6) (j:=0) (k:=1) rfl (SliceR.mono k8 au) rfl rfl (by decide) (by decide) (by decide)
      refine n_block (n_then (c_q [] [1,2,10,24,25,26] m .nil fun m g=>(n_then ?_)))
      exact ⟨n3,Nat.lt_succ_self n3,z6,u.2.2.2,a6,(w64 (a4 + (1:Int))),(zt (zt k6 k7) k8),g.to,(St.drop 6 l),A⟩
   ·have A:=cond_f ap ar
    refine c_exit 0 (x_then (x_then (x_block (n_then (c_sq [] [6,7,8] aq .nil fun l g=>(c_ret (c_rt [] (.tuple #[pB b4 0,vI (x1.length:Int),vI 0]) g .nil ?_)))))))
    have g:=ad.plSome (i:=0) rfl
    exact ⟨_,rfl,z4,ah,(some am),(x1.length:Int),0,(some ⟨b4,0,none⟩),(zt (zt k4 k5) k6),rfl,(St.pick 1 [0] g (by kernel_rfl)),A⟩
 ·rintro l m p ⟨z1,y1,y5,y6,y7,p4,J,rfl,H,B⟩ g
  refine tv ?_
  refine c_t [] [0,6,7,11,14] g .nil fun g l=>?_
  refine c_mid (fun a w=>∃F:Zone,∃I:Int,Zone.le z1 F∧Fr a 43 [(6,pB b1 0),(7,pB b2 0),(11,pB b3 0),(14,vI I)]∧St F (plO 69 49 101 p4 y5::box b3 [vI y1] 3::box b2 [vI x3] 3::box b1 [vI x2] 3::L) w∧(F16_j6 x2 x3 y1 I)=some r) ?_ ?_
  ·skip
   refine c_sq [] [0,6,7,11,14,24] l .nil fun g G=>?_
   refine c_if (y7 == (0:Int)) G (fun C=>?_) (fun C=>?_)
   ·have A:=cond_t C B
    refine c_reg (c_n 3 [vI x2,vI x3] [6,7,11,25,26,27] G (.cell (H.bx 3 0 rfl rfl) (.cell (H.bx 2 0 rfl rfl) .nil)) fun p g=>(p_box (i:=3) (d:=(some 28)) (cs:=[vI x2,vI x3]) (T:=3) (v:=fun l=> .slice (some ⟨l,0,none⟩) 2 2) H g (fun b=>by kernel_rfl) fun l q s m x=>tv ?_))
    have g:=m.ownBox (T:=Ty.int) (E:=3) (n:=2) (xs:=[x2,x3]) (i:=0) rfl (Rows.cons (c:=[vI x2]) rfl (Rows.cons (c:=[vI x3]) rfl rfl)) rfl (by decide)
    obtain ⟨m,u,p,q⟩:=g.share (j:=0) rfl
    obtain ⟨s,g,A⟩:=bind_some A
    refine c_call x (f47_ok fuel x0 ([x2,x3]) s g m _ _ p o_x0 c_x0 (SliceR.mono (zt J u) hx_x0) (some ⟨l,0,none⟩) 2 q) ?_
    rintro l m p ⟨q,x,rfl,y⟩ g
    refine tv ?_
    refine c_t [] [6,7,11,14] g .nil fun l g=>?_
    exact ⟨q,s,(zt u x),g.to,(St.drop 1 y),A⟩
   ·have A:=cond_f C B
    refine c_skip (n_then ?_)
    exact ⟨z1,y7,zr,G.to,H,A⟩
  ·rintro g l ⟨F,I,C,m,s,B⟩
   refine c_mid (fun a w=>∃y:Zone,∃x:Int,Zone.le F y∧Fr a 43 [(11,pB b3 0),(14,vI x)]∧St y (plO 69 49 101 p4 y5::box b3 [vI y1] 3::box b2 [vI x3] 3::box b1 [vI x2] 3::L) w∧(F16_j7 y1 x)=some r) ?_ ?_
   ·skip
    refine c_mid (fun a w=>∃u:Zone,∃p:Bool,Zone.le F u∧Fr a 43 [(11,pB b3 0),(14,vI I),(36, .bool p)]∧St u (plO 69 49 101 p4 y5::box b3 [vI y1] 3::box b2 [vI x3] 3::box b1 [vI x2] 3::L) w∧(F16_j8 y1 I p)=some r) ?_ ?_
    ·skip
     refine c_reg (c_n 3 [] [6,7,11,14,32] m .nil fun g q=>?_)
     rcases bft (I == (0:Int)) with g | g
     ·have A:=cond_t g B
      have l:=q.lit 32 g
      refine c_t [vI x2,vI x3] [11,14,36] l (.cell (s.bx 3 0 rfl rfl) (.cell (s.bx 2 0 rfl rfl) .nil)) fun m l=>?_
      exact ⟨F,(x2 == x3),zr,l.to,s,A⟩
     ·have A:=cond_f g B
      have g:=q.lit 32 g
      refine c_t [] [11,14,36] g .nil fun l g=>?_
      exact ⟨F,false,zr,g.to,s,A⟩
    ·rintro g l ⟨u,p,q,m,s,A⟩
     refine c_if p m (fun g=>?_) (fun g=>?_)
     ·have B:=cond_t g A
      refine c_q [] [11,14] m .nil fun p l=>?_
      refine n_then ?_
      exact ⟨u,1,q,l.to,s,B⟩
     ·have A:=cond_f g A
      refine c_skip (n_then ?_)
      exact ⟨u,I,q,m.to,s,A⟩
   ·rintro l m ⟨y,x,s,g,q,B⟩
    refine c_seq (c_sq [] [11,14,38] g .nil fun g m=>(c_if (x != (0:Int)) m (fun l=>?_) (fun l=>?_)))
    ·have A:=cond_t l B
     refine c_sq [] [8,9,10] m .nil fun p g=>?_
     refine c_ret (r_then (c_rt [] (.tuple #[.bool false,vI 0,vI x]) g .nil ?_))
     obtain rfl:=some_eq A
     exact ⟨_,rfl,y,(zt (zt J C) s),rfl,(St.drop 4 q)⟩
    ·have A:=cond_f l B
     refine c_skip (n_then ?_)
     have g:=q.drew
     refine c_sqD [(0,true),(1,true),(2,true),(3,true),(4,true),(5,true)] [] [vI y1,vI y1] [8,9,10] m (.cell (g.bx 1 0 rfl rfl) (.cell (g.bx 1 0 rfl rfl) .nil)) .nil fun m l=>?_
     refine c_ret (c_rt [] (.tuple #[.bool (decide (y1<(0:Int))),vI y1,vI 0]) l .nil ?_)
     obtain rfl:=some_eq A
     exact ⟨_,rfl,y,(zt (zt J C) s),rfl,(St.drop 4 g)⟩
def F19 (fuel:Nat) (x0:Int) (x1p:List Part) (x1y:List (Int×Bool)) (x2:Pl):Option (Pl) :=
  (some (x2))
set_option maxRecDepth 100000 in
theorem f19_ok (fuel:Nat) (x0:Int) (x1p:List Part) (x1y:List (Int×Bool)) (x2:Pl) (r:Pl) (hr:F19 fuel x0 x1p x1y x2=some r) (h:Zone) (L:List Atom) (w:World) (b_x2:Nat) (hS:St h (plA 69 49 101 b_x2 x2::L) w) (o_x1p:Option Addr) (c_x1p:Nat) (hx_x1p:SliceR PartT h o_x1p c_x1p x1p) (o_x1y:Option Nat) (hx_x1y:MapR Value.bool h o_x1y x1y) :
    Calls Tryz.prog 19 #[vI x0, .agg #[.slice o_x1p x1p.length c_x1p, .map o_x1y],pB b_x2 0] w fun e w'=>∃v,e= .returned v∧(∃h',Zone.le h h'∧v= .tuple #[]∧St h' (plA 69 49 101 b_x2 r::L) w'):=by
 refine calls_intro (N:=6) Tryz.func19 (by kernel_rfl) fun a hf=>?_
 refine c_reg (c_box [.slice o_x1p x1p.length c_x1p, .map o_x1y] 103 hS hf fun d f g c b=>tv (c_done (c_fall [] (.tuple #[]) b .nil ?_)))
 obtain rfl:=some_eq hr
 exact ⟨_,rfl,h,zr,rfl,(St.pick 2 [1] c (by kernel_rfl))⟩
def F6_j1 (fuel:Nat) (y1:Option Pl) (y2:Int) (y3:Int):Option (List Lot×List (List (List Part))×Int×Int) :=
  (cond (y3 != (0:Int)) (some ([],[[],[],[],[],[],[],[],[],[]],y2,y3)) ((y1).bind fun p1=>((F20 fuel p1.lots p1.holds).bind fun r1=>(some (r1.1,r1.2,y2,0)))))
def F6_l1 (fuel:Nat) (x1:List Deed):Nat→Pl→Int→Option (List Lot×List (List (List Part))×Int×Int)
  | 0,_,_=>none
  | n1 + 1,y4,y5 =>
    let k1:Pl→Int→Option (List Lot×List (List (List Part))×Int×Int):=F6_l1 fuel x1 n1
    (cond (decide (y5<(x1.length:Int))) ((getI x1 y5).bind fun p2=>((F51 fuel y4 p2.kind p2.lot p2.frm p2.to p2.mass).bind fun r2=>(cond (r2.2.2.1 != (0:Int)) (F6_j1 fuel none y5 r2.2.2.1) ((F19 fuel y5 r2.1 r2.2.1 r2.2.2.2).bind fun r3=>(k1 r3 (w64 (y5 + (1:Int)))))))) (F6_j1 fuel (some y4) (x1.length:Int) 0))
def F6 (fuel:Nat) (x0:List Lot) (x1:List Deed):Option (List Lot×List (List (List Part))×Int×Int) :=
  ((F49 fuel x0 x1).bind fun r4=>(cond (r4 != (0:Int)) (F6_j1 fuel none 0 r4) ((F50 fuel x0 ([[],[],[],[],[],[],[],[],[]])).bind fun r5=>(F6_l1 fuel x1 fuel r5 0))))
set_option maxRecDepth 100000 in
theorem f6_ok (fuel:Nat) (x0:List Lot) (x1:List Deed) (r:List Lot×List (List (List Part))×Int×Int) (hr:F6 fuel x0 x1=some r) (h:Zone) (L:List Atom) (w:World) (hS:St h L w) (o_x0:Option Addr) (c_x0:Nat) (hx_x0:SliceR LotT h o_x0 c_x0 x0) (o_x1:Option Addr) (c_x1:Nat) (hx_x1:SliceR DeedT h o_x1 c_x1 x1) :
    Calls Tryz.prog 6 #[.slice o_x0 x0.length c_x0, .slice o_x1 x1.length c_x1] w fun e w'=>∃v,e= .returned v∧(∃h',∃o0:Option Addr,∃c0:Nat,∃v1_0:Value,∃v1_1:Value,∃v1_2:Value,∃v1_3:Value,∃v1_4:Value,∃v1_5:Value,∃v1_6:Value,∃v1_7:Value,∃v1_8:Value,Zone.le h h'∧v= .tuple #[.agg #[.slice o0 r.1.length c0,v1_0,v1_1,v1_2,v1_3,v1_4,v1_5,v1_6,v1_7,v1_8],vI r.2.2.1,vI r.2.2.2]∧St h' L w'∧SliceR LotT h' o0 c0 r.1∧(Ty.arr 9 (Ty.slice (Ty.slice PartT))).rep h' [v1_0,v1_1,v1_2,v1_3,v1_4,v1_5,v1_6,v1_7,v1_8] r.2.1):=by
 refine calls_intro (N:=28) Tryz.func6 (by kernel_rfl) fun a hf=>?_
 refine c_sr (c_box [N0,N0,N0,N0,N0,N0,N0,N0,N0,N0] 29 hS hf fun U l m q d=>tv (c_t [] [0,1,4] d .nil fun o g=>(c_sr (c_n 2 [] [4,11,12] g .nil fun p k=>(c_call (f:=18) (args:= #[.slice o_x0 x0.length c_x0, .slice o_x1 x1.length c_x1, .func (.func 19) #[] #[]]) (Φ:=fun v w=>∃Q:Zone,∃S:Option Pl,∃R:Int,∃J:Int,∃T:Option Addr,Zone.le h Q∧v= .tuple #[.pointer T,vI R,vI J]∧St Q (plO 69 49 101 T S::box U [N0,N0,N0,N0,N0,N0,N0,N0,N0,N0] 29::L) w∧(F6_j1 fuel S R J)=some r) k ?_ ?_)))))
 ·refine calls_intro (N:=50) Tryz.func18 (by kernel_rfl) fun g d=>?_
  refine c_sq [] [0,1,2] d .nil fun g d=>?_
  refine c_seq (c_sr (c_n 2 [] [0,1,2,15,16] d .nil fun d g=>?_))
  obtain ⟨l,d,K⟩:=bind_some hr
  refine c_call g (f49_ok fuel x0 x1 l d h _ _ q o_x0 c_x0 hx_x0 o_x1 c_x1 hx_x1) ?_
  rintro g k m ⟨o,I,rfl,p⟩ d
  refine tv ?_
  refine c_t [] [0,1,2,9] d .nil fun g d=>?_
  refine c_sq [] [0,1,2,9,19] d .nil fun d k=>?_
  refine c_if (l != (0:Int)) k (fun g=>?_) (fun g=>?_)
  ·have A:=cond_t g K
   refine c_sq [] [6,7,8] k .nil fun m d=>?_
   refine c_ret (r_then (c_rt [] (.tuple #[.pointer none,vI 0,vI l]) d .nil ?_))
   have d:=p.plNone 69 49 101
   exact ⟨_,rfl,o,none,0,l,none,I,rfl,(St.pick 1 [0] d (by kernel_rfl)),A⟩
  ·have A:=cond_f g K
   refine c_skip (n_then (c_sr (c_n 2 [] [1,2,22] k .nil fun d g=>?_)))
   obtain ⟨k,d,A⟩:=bind_some A
   refine c_call g (f50_ok fuel x0 ([[],[],[],[],[],[],[],[],[]]) k d o _ _ p o_x0 c_x0 (SliceR.mono I hx_x0) (N0) (N0) (N0) (N0) (N0) (N0) (N0) (N0) (N0) ⟨rfl,(Rows.cons (c:=[_]) (sliceRep (SliceR.nil' _ _)) (Rows.cons (c:=[_]) (sliceRep (SliceR.nil' _ _)) (Rows.cons (c:=[_]) (sliceRep (SliceR.nil' _ _)) (Rows.cons (c:=[_]) (sliceRep (SliceR.nil' _ _)) (Rows.cons (c:=[_]) (sliceRep (SliceR.nil' _ _)) (Rows.cons (c:=[_]) (sliceRep (SliceR.nil' _ _)) (Rows.cons (c:=[_]) (sliceRep (SliceR.nil' _ _)) (Rows.cons (c:=[_]) (sliceRep (SliceR.nil' _ _)) (Rows.cons (c:=[_]) (sliceRep (SliceR.nil' _ _)) rfl)))))))))⟩) ?_
   rintro l m o ⟨g,y,M,rfl,p⟩ d
   refine tv ?_
   refine c_t [] [1,2,10] d .nil fun l d=>?_
   refine c_seq (c_sq [] [1,2,10,24,25,26] d .nil fun l d=>(c_block 0 (c_loop (fun n a w=>∃z:Zone,∃B:Pl,∃s:Int,Zone.le g z∧Fr a 50 [(1, .slice o_x1 x1.length c_x1),(2, .func (.func 19) #[] #[]),(10,pB y 0),(24, .slice o_x1 x1.length c_x1),(25,vI (x1.length:Int)),(26,vI s)]∧St z (plA 69 49 101 y B::box U [N0,N0,N0,N0,N0,N0,N0,N0,N0,N0] 29::L) w∧(F6_l1 fuel x1 n B s)=some r) fuel ⟨g,k,0,zr,d.to,p,A⟩ ?_)))
   rintro d g k ⟨z,B,s,D,l,u,P⟩
   cases d with
   | zero=>cases P
   | succ O =>
   refine c_sq [] [1,2,10,24,25,26,27] l .nil fun d H=>?_
   refine c_seq (c_if (decide (s<(x1.length:Int))) H (fun E=>?_) (fun E=>?_))
   ·have A:=cond_t E P
    refine c_skip (n_then (c_seq (c_block 1 (c_sr ?_))))
    obtain ⟨d,g,A⟩:=bind_some A
    obtain ⟨k,l,m,o,rfl,g⟩:=SliceR.getI (SliceR.mono (zt (zt I M) D) hx_x1) g
    refine c_n 3 [.pointer (some k),vI d.kind,vI d.lot,vI d.frm,vI d.to,vI d.mass] [1,2,10,24,25,26,28,30] H (.prop l (.prop m (.cell (u.cell (g 0 _ rfl)) (.cell (u.cell (g 1 _ rfl)) (.cell (u.cell (g 2 _ rfl)) (.cell (u.cell (g 3 _ rfl)) (.cell (u.cell (g 4 _ rfl)) .nil))))))) fun k g=>?_
    refine c_box [vI 0,vI 0,vI 0,vI 0,vI 0] 74 u g fun l m o k g=>tv ?_
    refine c_n 1 [] [1,2,10,11,12,24,25,26,30] g .nil fun l g=>?_
    refine c_st 0 [vI d.kind,vI d.lot,vI d.frm,vI d.to,vI d.mass] k g rfl fun l m g k=>tv ?_
    refine c_dt (c_sr (c_n 2 [vI d.kind,vI d.lot,vI d.frm,vI d.to,vI d.mass] [1,2,10,11,24,25,26,32,33] k (.cell (g.bx 0 0 rfl rfl) (.cell (g.bx 0 1 rfl rfl) (.cell (g.bx 0 2 rfl rfl) (.cell (g.bx 0 3 rfl rfl) (.cell (g.bx 0 4 rfl rfl) .nil))))) fun k m=>?_))
    have g:=St.swapTo (i:=2) (j:=0) (St.addEmp g) rfl rfl (by decide)
    have l:=g
    obtain ⟨k,g,K⟩:=bind_some A
    refine c_call m (f51_ok fuel B d.kind d.lot d.frm d.to d.mass k g z _ _ y l ) ?_
    rintro g l m ⟨x,p,q,t,C,rfl,d,F,G⟩ o
    have d:=St.swapTo (i:=0) (j:=2) d rfl rfl (by decide)
    have g:=d
    refine tv ?_
    refine c_n 3 [] [1,2,10,11,24,25,26,35,36] o .nil fun l d=>?_
    refine c_box [N0, .map none] 103 g d fun l m o d g=>tv ?_
    refine c_st 0 [.slice p k.1.length q, .map t] d g rfl fun g l m d=>tv ?_
    refine c_t [] [1,2,10,11,13,14,24,25,26] d .nil fun g d=>?_
    refine c_seq (c_sq [] [1,2,10,11,13,14,24,25,26,38] d .nil fun d l=>(c_if (k.2.2.1 != (0:Int)) l (fun g=>?_) (fun g=>?_)))
    ·have A:=cond_t g K
     refine c_sq [] [6,7,8] l .nil fun o d=>?_
     refine c_ret (r_then (r_block (r_then (r_then (r_block (r_then (c_rt [] (.tuple #[.pointer none,vI s,vI k.2.2.1]) d .nil ?_)))))))
     have d:=m.plNone 69 49 101
     exact ⟨_,rfl,x,none,s,k.2.2.1,none,(zt (zt (zt I M) D) C),rfl,(St.pick 5 [0] d (by kernel_rfl)),A⟩
    ·have A:=cond_f g K
     refine c_skip (n_then (c_reg (c_n 4 [.slice p k.1.length q, .map t] [1,2,10,24,25,26,41,42,43,44] l (.cell (m.bx 0 0 rfl rfl) (.cell (m.bx 0 1 rfl rfl) .nil)) fun d l=>?_)))
     have d:=St.swapTo (i:=4) (j:=0) (St.addEmp m) rfl rfl (by decide)
     have g:=d
     obtain ⟨m,d,A⟩:=bind_some A
     refine c_call l (f19_ok fuel s k.1 k.2.1 k.2.2.2 m d x _ _ y g p q F t G) ?_
     rintro g k l ⟨p,q,rfl,d⟩ o
     have d:=St.swapTo (i:=0) (j:=4) d rfl rfl (by decide)
     have g:=d
     refine tv ?_
     refine c_done (n_block (n_then (c_q [] [1,2,10,24,25,26] o .nil fun k d=>(n_then ?_))))
     exact ⟨O,Nat.lt_succ_self O,p,m,(w64 (s + (1:Int))),(zt (zt D C) q),d.to,(St.drop 4 g),A⟩
   ·have A:=cond_f E P
    refine c_exit 0 (x_then (x_then (x_block (n_then (c_sq [] [6,7,8] H .nil fun g d=>(c_ret (c_rt [] (.tuple #[pB y 0,vI (x1.length:Int),vI 0]) d .nil ?_)))))))
    have d:=u.plSome (i:=0) rfl
    exact ⟨_,rfl,z,(some B),(x1.length:Int),0,(some ⟨y,0,none⟩),(zt (zt I M) D),rfl,(St.pick 1 [0] d (by kernel_rfl)),A⟩
 ·rintro g k l ⟨Q,S,R,J,T,O,rfl,t,K⟩ d
  refine tv ?_
  refine c_t [] [4,7,8,9] d .nil fun g d=>?_
  refine c_seq (c_sq [] [4,7,8,9,18] d .nil fun d M=>(c_if (J != (0:Int)) M (fun m=>?_) (fun m=>?_)))
  ·have A:=cond_t m K
   refine c_sr (c_n 3 [] [4,19,20,21] M .nil fun o g=>(c_st 1 [N0,N0,N0,N0,N0,N0,N0,N0,N0,N0] t g rfl fun p q d k=>tv (c_t [] [4,5,6] k .nil fun s l=>(c_ret (r_then (c_rt [N0,N0,N0,N0,N0,N0,N0,N0,N0,N0] (.tuple #[.agg #[N0,N0,N0,N0,N0,N0,N0,N0,N0,N0],vI R,vI J]) l (.cell (d.bx 1 0 rfl rfl) (.cell (d.bx 1 1 rfl rfl) (.cell (d.bx 1 2 rfl rfl) (.cell (d.bx 1 3 rfl rfl) (.cell (d.bx 1 4 rfl rfl) (.cell (d.bx 1 5 rfl rfl) (.cell (d.bx 1 6 rfl rfl) (.cell (d.bx 1 7 rfl rfl) (.cell (d.bx 1 8 rfl rfl) (.cell (d.bx 1 9 rfl rfl) .nil)))))))))) ?_))))))
   obtain rfl:=some_eq A
   exact ⟨_,rfl,Q,none,0,N0,N0,N0,N0,N0,N0,N0,N0,N0,O,rfl,(St.drop 2 d),SliceR.nil' _ _,⟨rfl,(Rows.cons (c:=[_]) (sliceRep (SliceR.nil' _ _)) (Rows.cons (c:=[_]) (sliceRep (SliceR.nil' _ _)) (Rows.cons (c:=[_]) (sliceRep (SliceR.nil' _ _)) (Rows.cons (c:=[_]) (sliceRep (SliceR.nil' _ _)) (Rows.cons (c:=[_]) (sliceRep (SliceR.nil' _ _)) (Rows.cons (c:=[_]) (sliceRep (SliceR.nil' _ _)) (Rows.cons (c:=[_]) (sliceRep (SliceR.nil' _ _)) (Rows.cons (c:=[_]) (sliceRep (SliceR.nil' _ _)) (Rows.cons (c:=[_]) (sliceRep (SliceR.nil' _ _)) rfl)))))))))⟩⟩
  ·have A:=cond_f m K
   refine c_skip (n_then (c_seq ?_))
   obtain ⟨D,d,A⟩:=bind_some A
   rw [d] at t
   obtain ⟨k,d,g⟩:=t.plGet (i:=0) rfl
   subst d
   obtain ⟨g,l,m,o,p,q,s,t,u,x,y,k,z,B,C,E,F,G,H,I,J,d⟩:=g.plOpen (i:=0) rfl
   refine c_reg (c_n 4 [.slice g D.lots.length l,m,o,p,q,s,t,u,x,y] [4,8,25] M (.cell (d.bx 2 0 rfl rfl) (.cell (d.bx 2 1 rfl rfl) (.cell (d.bx 2 2 rfl rfl) (.cell (d.bx 2 3 rfl rfl) (.cell (d.bx 2 4 rfl rfl) (.cell (d.bx 2 5 rfl rfl) (.cell (d.bx 2 6 rfl rfl) (.cell (d.bx 2 7 rfl rfl) (.cell (d.bx 2 8 rfl rfl) (.cell (d.bx 2 9 rfl rfl) .nil)))))))))) fun k E=>?_)
   obtain ⟨z,F,B,C⟩:=d.ownShareN (j:=0) rfl (n:=9) rfl
   obtain ⟨k,d,A⟩:=bind_some A
   refine c_call E (f20_ok fuel D.lots D.holds k d z _ _ B g l (SliceR.mono F J) m o p q s t u x y (Ty.mono _ zr C)) ?_
   rintro B C D ⟨E,l,m,o,p,q,s,t,u,x,y,z,G,rfl,g,H⟩ d
   refine tv ?_
   refine c_n 1 [] [4,26,27] d .nil fun d B=>?_
   have d:=g.ownOnes (j:=0) rfl
   refine p_store_eq (i:=6) (j:=4) (b:=U) (off:=0) (vs:=[.slice l k.1.length m,o,p,q,s,t,u,x,y,z]) (cs':=[.slice l k.1.length m,o,p,q,s,t,u,x,y,z]) g B rfl (by kernel_rfl) d rfl fun g B C d=>tv ?_
   refine c_t [] [4,5,6] d .nil fun d B=>?_
   refine c_ret ?_
   obtain ⟨C,g,d,D⟩:=C.ownShareN (j:=0) rfl (n:=9) rfl
   refine c_rt [.slice l k.1.length m,o,p,q,s,t,u,x,y,z] (.tuple #[.agg #[.slice l k.1.length m,o,p,q,s,t,u,x,y,z],vI R,vI 0]) B (.cell (d.bx 4 0 rfl rfl) (.cell (d.bx 4 1 rfl rfl) (.cell (d.bx 4 2 rfl rfl) (.cell (d.bx 4 3 rfl rfl) (.cell (d.bx 4 4 rfl rfl) (.cell (d.bx 4 5 rfl rfl) (.cell (d.bx 4 6 rfl rfl) (.cell (d.bx 4 7 rfl rfl) (.cell (d.bx 4 8 rfl rfl) (.cell (d.bx 4 9 rfl rfl) .nil)))))))))) ?_
   obtain rfl:=some_eq A
   exact ⟨_,rfl,C,l,m,o,p,q,s,t,u,x,y,z,(zt (zt (zt O F) G) g),rfl,(St.drop 5 d),(SliceR.mono g H),(Ty.mono _ zr D)⟩
def F5_j1 (y1:Bool):Option (Bool) :=
  (some (y1))
def F5 (fuel:Nat):Option (Bool) :=
  ((F12 fuel ).bind fun r1=>((F13 fuel ).bind fun r2=>((F6 fuel r1 r2).bind fun r3=>((F14 fuel ([⟨1,1⟩,⟨2,99⟩]) 50).bind fun r4=>((F15 fuel r3.1 r3.2.1 4).bind fun r5=>((F12 fuel ).bind fun r6=>((F13 fuel ).bind fun r7=>((F16 fuel r6 r7 1 3).bind fun r8=>(cond (r3.2.2.2 == (0:Int)) (cond (r3.2.2.1 == (5:Int)) (cond (r4.2.2 == (0:Int)) (cond ((r4.1.length:Int) == (2:Int)) (cond ((r4.2.1.length:Int) == (1:Int)) ((getI r4.2.1 0).bind fun p1=>(cond (p1.mass == (50:Int)) (cond (r5.2.2 == (0:Int)) (cond ((r5.1 == (1190:Int)) && ((r5.2.1 == (1:Int)) && true)) (cond (r8.2.2 == (0:Int)) (cond (!r8.1) (cond (r8.2.1 == (4:Int)) ((F17 fuel 0 0 0 0).bind fun r9=>(F5_j1 (r9 == (60:Int)))) (F5_j1 false)) (F5_j1 false)) (F5_j1 false)) (F5_j1 false)) (F5_j1 false)) (F5_j1 false))) (F5_j1 false)) (F5_j1 false)) (F5_j1 false)) (F5_j1 false)) (F5_j1 false))))))))))
set_option maxRecDepth 100000 in
theorem f5_ok (fuel:Nat)  (r:Bool) (hr:F5 fuel=some r) (h:Zone) (L:List Atom) (w:World) (hS:St h L w)  :
    Calls Tryz.prog 5 #[] w fun e w'=>∃v,e= .returned v∧(∃h',Zone.le h h'∧v= .bool r∧St h' L w'):=by
 refine calls_intro (N:=96) Tryz.func5 (by kernel_rfl) fun a hf=>?_
 refine c_sq [] [] hf .nil fun f g=>?_
 refine c_sr ?_
 obtain ⟨x,f,o⟩:=bind_some hr
 refine c_call g (f12_ok fuel  x f h _ _ hS ) ?_
 rintro f g k ⟨l,y,z,k1,rfl,m,A⟩ p
 refine tv ?_
 obtain ⟨g,f,o⟩:=bind_some o
 refine c_call p (f13_ok fuel  g f l _ _ m ) ?_
 rintro f k l ⟨m,p,q,k2,rfl,s,t⟩ u
 refine tv ?_
 obtain ⟨F,f,o⟩:=bind_some o
 refine c_call u (f6_ok fuel x g F f m _ _ s y z (SliceR.mono k2 A) p q t) ?_
 rintro g k l ⟨m,G,H,I,J,K,M,O,P,Q,R,S,k3,rfl,p,t,s⟩ f
 refine tv ?_
 refine c_n 4 [] [16,17,18] f .nil fun g f=>?_
 refine c_box [N0,N0,N0,N0,N0,N0,N0,N0,N0,N0] 29 p f fun b1 f l g k=>tv ?_
 have f:=oneCells_of (Ty.one _ (Ty.mono _ zr s))
 refine p_store_eq (i:=8) (j:=0) (b:=b1) (off:=0) (vs:=[.slice G F.1.length H,I,J,K,M,O,P,Q,R,S]) (cs':=[.slice G F.1.length H,I,J,K,M,O,P,Q,R,S]) g k rfl (by kernel_rfl) f rfl fun g l k f=>tv ?_
 refine c_t [] [1,2,3] f .nil fun g f=>?_
 refine c_sr (c_n 2 [] [1,2,3,20,21] f .nil fun m f=>(p_box (i:=2) (d:=(some 22)) (cs:=[vI 1,vI 1,vI 2,vI 99]) (T:=53) (v:=fun g=> .slice (some ⟨g,0,none⟩) 2 2) k f (fun b=>by kernel_rfl) fun g p q k l=>tv ?_))
 have f:=k.ownBox (T:=PartT) (E:=53) (n:=2) (xs:=[⟨1,1⟩,⟨2,99⟩]) (i:=0) rfl (Rows.cons (c:=[vI 1,vI 1]) rfl (Rows.cons (c:=[vI 2,vI 99]) rfl rfl)) rfl (by decide)
 refine c_n 1 [] [1,2,3,23] l .nil fun k p=>?_
 obtain ⟨k,k4,l,m⟩:=f.share (j:=0) rfl
 obtain ⟨y,f,o⟩:=bind_some o
 refine c_call p (f14_ok fuel ([⟨1,1⟩,⟨2,99⟩]) 50 y f k _ _ l (some ⟨g,0,none⟩) 2 m) ?_
 rintro g k l ⟨q,e4,q4,Y,Z,k5,rfl,m,p,a8⟩ f
 refine tv ?_
 refine c_n 4 [] [1,2,3,25,26,27] f .nil fun g f=>?_
 refine c_box [N0] 49 m f fun b3 k l f g=>tv ?_
 refine c_box [N0] 49 f g fun b4 k l f g=>tv ?_
 refine c_st 1 [.slice e4 y.1.length q4] f g rfl fun k l f g=>tv ?_
 refine c_st 0 [.slice Y y.2.1.length Z] f g rfl fun k l f g=>tv ?_
 refine c_t [] [1,2,3,4,5,6] g .nil fun k g=>?_
 refine c_sr (c_n 1 [.slice G F.1.length H,I,J,K,M,O,P,Q,R,S] [2,3,4,5,6,29] g (.cell (f.bx 3 0 rfl rfl) (.cell (f.bx 3 1 rfl rfl) (.cell (f.bx 3 2 rfl rfl) (.cell (f.bx 3 3 rfl rfl) (.cell (f.bx 3 4 rfl rfl) (.cell (f.bx 3 5 rfl rfl) (.cell (f.bx 3 6 rfl rfl) (.cell (f.bx 3 7 rfl rfl) (.cell (f.bx 3 8 rfl rfl) (.cell (f.bx 3 9 rfl rfl) .nil)))))))))) fun g k=>?_)
 obtain ⟨C,g,o⟩:=bind_some o
 refine c_call k (f15_ok fuel F.1 F.2.1 4 C g q _ _ f G H (SliceR.mono (zt k4 k5) t) I J K M O P Q R S (Ty.mono _ (zt k4 k5) s)) ?_
 rintro g k l ⟨p,k6,rfl,m⟩ f
 refine tv ?_
 refine c_n 3 [] [2,3,4,5,6,31,32] f .nil fun g f=>?_
 refine c_box [vI 0,vI 0] 55 m f fun V k l f g=>tv ?_
 refine c_st 0 [vI C.1,vI C.2.1] f g rfl fun g k l f=>tv ?_
 refine c_t [] [2,3,4,5,6,7,8] f .nil fun f g=>?_
 refine c_sr ?_
 obtain ⟨x,f,o⟩:=bind_some o
 refine c_call g (f12_ok fuel  x f p _ _ l ) ?_
 rintro f g k ⟨l,z,A,k7,rfl,m,B⟩ p
 refine tv ?_
 obtain ⟨g,f,o⟩:=bind_some o
 refine c_call p (f13_ok fuel  g f l _ _ m ) ?_
 rintro f k l ⟨m,p,q,k8,rfl,s,t⟩ u
 refine tv ?_
 obtain ⟨W,f,ac⟩:=bind_some o
 refine c_call u (f16_ok fuel x g 1 3 W f m _ _ s z A (SliceR.mono k8 B) p q t) ?_
 rintro g k l ⟨B,k9,rfl,z⟩ f
 refine tv ?_
 refine c_t [] [2,3,4,5,6,7,8,9,10,11] f .nil fun f g=>?_
 refine c_mid (fun a w=>∃a3:Zone,∃y1:Bool,Zone.le B a3∧Fr a 96 [(0, .bool y1)]∧St a3 (box V [vI C.1,vI C.2.1] 55::box b4 [.slice Y y.2.1.length Z] 49::box b3 [.slice e4 y.1.length q4] 49::emp::box b1 [.slice G F.1.length H,I,J,K,M,O,P,Q,R,S] 29::L) w∧(F5_j1 y1)=some r) ?_ ?_
 ·skip
  refine c_reg (c_n 3 [] [2,4,5,6,7,8,9,10,11,42] g .nil fun f ab=>?_)
  rcases bft (F.2.2.2 == (0:Int)) with Q | Q
  ·have aa:=cond_t Q ac
   have f:=ab.lit 42 Q
   refine c_n 4 [] [4,5,6,7,8,9,10,11,46] f .nil fun f a9=>?_
   rcases bft (F.2.2.1 == (5:Int)) with O | O
   ·have a7:=cond_t O aa
    have f:=a9.lit 46 O
    refine c_n 4 [] [4,5,7,8,9,10,11,50] f .nil fun f a6=>?_
    rcases bft (y.2.2 == (0:Int)) with M | M
    ·have a5:=cond_t M a7
     have f:=a6.lit 50 M
     refine c_n 6 [.slice e4 y.1.length q4] [5,7,8,9,10,11,56] f (.cell (z.bx 2 0 rfl rfl) .nil) fun f V=>?_
     rcases bft ((y.1.length:Int) == (2:Int)) with J | J
     ·have a4:=cond_t J a5
      have f:=V.lit 56 J
      refine c_n 6 [.slice Y y.2.1.length Z] [5,7,8,9,10,11,62] f (.cell (z.bx 1 0 rfl rfl) .nil) fun f S=>?_
      rcases bft ((y.2.1.length:Int) == (1:Int)) with I | I
      ·have o:=cond_t I a4
       have p:=S.lit 62 I
       obtain ⟨f,g,a2⟩:=bind_some o
       obtain ⟨g,k,l,q,rfl,m⟩:=SliceR.getI (SliceR.mono (zt (zt (zt k6 k7) k8) k9) a8) g
       refine c_n 8 [.slice Y y.2.1.length Z, .pointer (some g),vI f.mass] [7,8,9,10,11,70] p (.cell (z.bx 1 0 rfl rfl) (.prop k (.prop l (.cell (z.cell (m 1 _ rfl)) .nil)))) fun g R=>?_
       rcases bft (f.mass == (50:Int)) with G | G
       ·have a1:=cond_t G a2
        have f:=R.lit 70 G
        refine c_n 4 [] [7,9,10,11,74] f .nil fun f P=>?_
        rcases bft (C.2.2 == (0:Int)) with F | F
        ·have a0:=cond_t F a1
         have f:=P.lit 74 F
         refine c_n 5 [vI C.1,vI C.2.1] [9,10,11,79] f (.cell (z.bx 0 0 rfl rfl) (.cell (z.bx 0 1 rfl rfl) .nil)) fun f K=>?_
         rcases bft ((C.1 == (1190:Int)) && ((C.2.1 == (1:Int)) && true)) with A | A
         ·have X:=cond_t A a0
          have f:=K.lit 79 A
          refine c_n 4 [] [9,10,83] f .nil fun f H=>?_
          rcases bft (W.2.2 == (0:Int)) with x | x
          ·have U:=cond_t x X
           have f:=H.lit 83 x
           refine c_n 4 [] [10,87] f .nil fun f C=>?_
           rcases bft (!W.1) with u | u
           ·have D:=cond_t u U
            have f:=C.lit 87 u
            refine c_n 4 [] [91] f .nil fun f y=>?_
            rcases bft (W.2.1 == (4:Int)) with g | g
            ·have o:=cond_t g D
             have f:=y.lit 91 g
             refine c_n 1 [] [91,92] f .nil fun f k=>?_
             obtain ⟨l,f,o⟩:=bind_some o
             refine c_call k (f17_ok fuel 0 0 0 0 l f B _ _ z ) ?_
             rintro k m p ⟨q,s,rfl,t⟩ f
             refine tv ?_
             refine c_t [] [0] f .nil fun k f=>?_
             exact ⟨q,(l == (60:Int)),s,f.to,t,o⟩
            ·have o:=cond_f g D
             have f:=y.lit 91 g
             refine c_t [] [0] f .nil fun g f=>?_
             exact ⟨B,false,zr,f.to,z,o⟩
           ·have o:=cond_f u U
            have f:=C.lit 87 u
            refine c_t [] [0] f .nil fun g f=>?_
            exact ⟨B,false,zr,f.to,z,o⟩
          ·have o:=cond_f x X
           have f:=H.lit 83 x
           refine c_t [] [0] f .nil fun g f=>?_
           exact ⟨B,false,zr,f.to,z,o⟩
         ·have o:=cond_f A a0
          have f:=K.lit 79 A
          refine c_t [] [0] f .nil fun g f=>?_
          exact ⟨B,false,zr,f.to,z,o⟩
        ·have o:=cond_f F a1
         have f:=P.lit 74 F
         refine c_t [] [0] f .nil fun g f=>?_
         exact ⟨B,false,zr,f.to,z,o⟩
       ·have o:=cond_f G a2
        have f:=R.lit 70 G
        refine c_t [] [0] f .nil fun g f=>?_
        exact ⟨B,false,zr,f.to,z,o⟩
      ·have o:=cond_f I a4
       have f:=S.lit 62 I
       refine c_t [] [0] f .nil fun g f=>?_
       exact ⟨B,false,zr,f.to,z,o⟩
     ·have o:=cond_f J a5
      have f:=V.lit 56 J
      refine c_t [] [0] f .nil fun g f=>?_
      exact ⟨B,false,zr,f.to,z,o⟩
    ·have o:=cond_f M a7
     have f:=a6.lit 50 M
     refine c_t [] [0] f .nil fun g f=>?_
     exact ⟨B,false,zr,f.to,z,o⟩
   ·have o:=cond_f O aa
    have f:=a9.lit 46 O
    refine c_t [] [0] f .nil fun g f=>?_
    exact ⟨B,false,zr,f.to,z,o⟩
  ·have o:=cond_f Q ac
   have f:=ab.lit 42 Q
   refine c_t [] [0] f .nil fun g f=>?_
   exact ⟨B,false,zr,f.to,z,o⟩
 ·rintro g k ⟨a3,y1,l,f,m,o⟩
  refine c_ret (c_rt [] (.bool y1) f .nil ?_)
  obtain rfl:=some_eq o
  exact ⟨_,rfl,a3,(zt (zt (zt (zt (zt (zt (zt (zt (zt k1 k2) k3) k4) k5) k6) k7) k8) k9) l),rfl,(St.drop 5 m)⟩
def F82_l1 (x0:List Part):Nat→Int→Int→Option (Int)
  | 0,_,_=>none
  | n1 + 1,y1,y2 =>
    let k1:Int→Int→Option (Int):=F82_l1 x0 n1
    (cond (decide (y2<(x0.length:Int))) ((getI x0 y2).bind fun p1=>(k1 (w64 (y1 + p1.mass)) (w64 (y2 + (1:Int))))) (some (y1)))
def F82 (fuel:Nat) (x0:List Part):Option (Int) :=
  (F82_l1 x0 fuel 0 0)
set_option maxRecDepth 100000 in
theorem f82_ok (fuel:Nat) (x0:List Part) (r:Int) (hr:F82 fuel x0=some r) (h:Zone) (L:List Atom) (w:World) (hS:St h L w) (o_x0:Option Addr) (c_x0:Nat) (hx_x0:SliceR PartT h o_x0 c_x0 x0) :
    Calls Tryz.prog 82 #[.agg #[.slice o_x0 x0.length c_x0]] w fun e w'=>∃v,e= .returned v∧(∃h',Zone.le h h'∧v=vI r∧St h' L w'):=by
 refine calls_intro (N:=21) Tryz.func82 (by kernel_rfl) fun a hf=>?_
 refine c_sr (c_box [.slice o_x0 x0.length c_x0] 49 hS hf fun b m o c d=>tv (c_t [] [1] d .nil fun p f=>(c_sq [] [1,3] f .nil fun q g=>(c_seq (c_sq [] [1,3,4] g .nil fun s i=>(c_block 0 (c_loop (fun n a w=>∃t:Zone,∃l:Int,∃j:Int,Zone.le h t∧Fr a 21 [(1,pB b 0),(3,vI l),(4,vI j)]∧St t (box b [.slice o_x0 x0.length c_x0] 49::L) w∧(F82_l1 x0 n l j)=some r) fuel ⟨h,0,0,zr,i.to,c,hr⟩ ?_)))))))
 rintro b c d ⟨t,l,j,s,f,m,u⟩
 cases b with
 | zero=>cases u
 | succ q =>
 refine c_seq (c_sq [.slice o_x0 x0.length c_x0] [1,3,4,9] f (.cell (m.bx 0 0 rfl rfl) .nil) fun b o=>(c_if (decide (j<(x0.length:Int))) o (fun i=>?_) (fun i=>?_)))
 ·have k:=cond_t i u
  refine c_skip (n_then (c_seq (c_block 1 ?_)))
  obtain ⟨g,b,k⟩:=bind_some k
  obtain ⟨b,c,d,p,rfl,f⟩:=SliceR.getI (SliceR.mono s hx_x0) b
  refine c_q [.slice o_x0 x0.length c_x0, .pointer (some b),vI g.mass] [1,3,4] o (.cell (m.bx 0 0 rfl rfl) (.prop c (.prop d (.cell (m.cell (f 1 _ rfl)) .nil)))) fun c b=>?_
  refine n_block (n_then (c_q [] [1,3,4] b .nil fun c b=>(n_then ?_)))
  exact ⟨q,Nat.lt_succ_self q,t,(w64 (l + g.mass)),(w64 (j + (1:Int))),s,b.to,m,k⟩
 ·have k:=cond_f i u
  refine c_exit 0 (x_then (x_then (x_block (n_then (c_sq [] [2] o .nil fun c b=>(c_ret (c_rt [] (vI l) b .nil ?_)))))))
  obtain rfl:=some_eq k
  exact ⟨_,rfl,t,s,rfl,(St.drop 1 m)⟩
def F69_l1 (fuel:Nat) (x0:List (List Part)):Nat→Int→Int→Option (Int)
  | 0,_,_=>none
  | n1 + 1,y1,y2 =>
    let k1:Int→Int→Option (Int):=F69_l1 fuel x0 n1
    (cond (decide (y2<(x0.length:Int))) ((getI x0 y2).bind fun p1=>((F82 fuel p1).bind fun r1=>(k1 (w64 (y1 + r1)) (w64 (y2 + (1:Int)))))) (some (y1)))
def F69 (fuel:Nat) (x0:List (List Part)):Option (Int) :=
  (F69_l1 fuel x0 fuel 0 0)
set_option maxRecDepth 100000 in
theorem f69_ok (fuel:Nat) (x0:List (List Part)) (r:Int) (hr:F69 fuel x0=some r) (h:Zone) (L:List Atom) (w:World) (hS:St h L w) (o_x0:Option Addr) (c_x0:Nat) (hx_x0:SliceR (Ty.slice PartT) h o_x0 c_x0 x0) :
    Calls Tryz.prog 69 #[.slice o_x0 x0.length c_x0] w fun e w'=>∃v,e= .returned v∧(∃h',Zone.le h h'∧v=vI r∧St h' L w'):=by
 refine calls_intro (N:=19) Tryz.func69 (by kernel_rfl) fun a hf=>?_
 refine c_sq [] [0] hf .nil fun c b=>?_
 refine c_sq [] [0,3] b .nil fun c b=>?_
 refine c_seq (c_sq [] [0,3,4] b .nil fun c b=>(c_block 0 (c_loop (fun n a w=>∃p:Zone,∃o:Int,∃m:Int,Zone.le h p∧Fr a 19 [(0, .slice o_x0 x0.length c_x0),(3,vI o),(4,vI m)]∧St p (L) w∧(F69_l1 fuel x0 n o m)=some r) fuel ⟨h,0,0,zr,b.to,hS,hr⟩ ?_)))
 rintro b c d ⟨p,o,m,x,g,y,t⟩
 cases b with
 | zero=>cases t
 | succ u =>
 refine c_seq (c_sq [] [0,3,4,8] g .nil fun b s=>(c_if (decide (m<(x0.length:Int))) s (fun q=>?_) (fun q=>?_)))
 ·have f:=cond_t q t
  refine c_skip (n_then (c_seq (c_block 1 (c_reg ?_))))
  obtain ⟨k,b,f⟩:=bind_some f
  obtain ⟨d,g,i,c,b,j⟩:=SliceR.getI (SliceR.mono x hx_x0) b
  obtain ⟨b,c,rfl,l⟩:=b
  refine c_n 5 [.pointer (some d), .slice b k.length c] [0,4,11,15] s (.prop g (.prop i (.cell (y.cell (j 0 _ rfl)) .nil))) fun d g=>?_
  obtain ⟨i,d,f⟩:=bind_some f
  refine c_call g (f82_ok fuel k i d p _ _ y b c l) ?_
  rintro c d g ⟨j,k,rfl,l⟩ b
  refine tv ?_
  refine c_z [] [0,3,4] b .nil fun c b=>?_
  refine n_block (n_then (c_q [] [0,3,4] b .nil fun c b=>(n_then ?_)))
  exact ⟨u,Nat.lt_succ_self u,j,(w64 (o + i)),(w64 (m + (1:Int))),(zt x k),b.to,l,f⟩
 ·have f:=cond_f q t
  refine c_exit 0 (x_then (x_then (x_block (n_then (c_sq [] [2] s .nil fun c b=>(c_ret (c_rt [] (vI o) b .nil ?_)))))))
  obtain rfl:=some_eq f
  exact ⟨_,rfl,p,x,rfl,y⟩
def F60_j1 (y1:Bool):Option (Bool) :=
  (some (y1))
def F60 (fuel:Nat) (x0:Int) (x1:Int) (x2:Int):Option (Bool) :=
  (cond (decide (x0≥x1)) (F60_j1 (decide (x0≤x2))) (F60_j1 false))
set_option maxRecDepth 100000 in
theorem f60_ok (fuel:Nat) (x0:Int) (x1:Int) (x2:Int) (r:Bool) (hr:F60 fuel x0 x1 x2=some r) (h:Zone) (L:List Atom) (w:World) (hS:St h L w)  :
    Calls Tryz.prog 60 #[vI x0,vI x1,vI x2] w fun e w'=>∃v,e= .returned v∧(∃h',Zone.le h h'∧v= .bool r∧St h' L w'):=by
 refine calls_intro (N:=15) Tryz.func60 (by kernel_rfl) fun a hf=>?_
 refine c_sq [] [0,1,2] hf .nil fun b c=>?_
 refine c_mid (fun a w=>∃k:Zone,∃j:Bool,Zone.le h k∧Fr a 15 [(6, .bool j)]∧St k (L) w∧(F60_j1 j)=some r) ?_ ?_
 ·skip
  refine c_reg (c_n 4 [] [0,2,10] c .nil fun b g=>?_)
  rcases bft (decide (x0≥x1)) with b | b
  ·have d:=cond_t b hr
   have c:=g.lit 10 b
   refine c_t [] [6] c .nil fun f c=>?_
   exact ⟨h,(decide (x0≤x2)),zr,c.to,hS,d⟩
  ·have d:=cond_f b hr
   have b:=g.lit 10 b
   refine c_t [] [6] b .nil fun c b=>?_
   exact ⟨h,false,zr,b.to,hS,d⟩
 ·rintro c f ⟨k,j,g,b,i,d⟩
  refine c_ret (c_rt [] (.bool j) b .nil ?_)
  obtain rfl:=some_eq d
  exact ⟨_,rfl,k,g,rfl,i⟩
end Go.Proofs.YtlmgjjmighajdaaGreat
set_option linter.unusedVariables false
namespace Go.Proofs.YtlmgjjmighajdaaGreat
open Go.Sl Go.Sx
def F100_j1 (k1:Int→Int→Option (Bool)) (y1:Int) (y2:Int) (p1:Part) (y3:Bool):Option (Bool) :=
  (cond y3 (some (false)) (k1 (w64 (y1 + p1.mass)) (w64 (y2 + (1:Int)))))
def F100_l1 (fuel:Nat) (x0:List Part):Nat→Int→Int→Option (Bool)
  | 0,_,_=>none
  | n1 + 1,y1,y2 =>
    let k1:Int→Int→Option (Bool):=F100_l1 fuel x0 n1
    (cond (decide (y2<(x0.length:Int))) ((getI x0 y2).bind fun p1=>((F60 fuel p1.lot 1 9999).bind fun r1=>(cond (!r1) (F100_j1 k1 y1 y2 p1 true) ((F60 fuel p1.mass 1 100000000).bind fun r2=>(cond (!r2) (F100_j1 k1 y1 y2 p1 true) (cond (decide (y2 > (0:Int))) ((getI x0 (w64 (y2 - (1:Int)))).bind fun p2=>(F100_j1 k1 y1 y2 p1 (decide (p2.lot≥p1.lot)))) (F100_j1 k1 y1 y2 p1 false))))))) (some ((decide (y1≤(100000000:Int))))))
def F100 (fuel:Nat) (x0:List Part):Option (Bool) :=
  (cond (decide ((x0.length:Int) > (40:Int))) (some (false)) (F100_l1 fuel x0 fuel 0 0))
set_option maxRecDepth 100000 in
theorem f100_ok (fuel:Nat) (x0:List Part) (r:Bool) (hr:F100 fuel x0=some r) (h:Zone) (L:List Atom) (w:World) (hS:St h L w) (o_x0:Option Addr) (c_x0:Nat) (hx_x0:SliceR PartT h o_x0 c_x0 x0) :
    Calls Tryz.prog 100 #[.agg #[.slice o_x0 x0.length c_x0]] w fun e w'=>∃v,e= .returned v∧(∃h',Zone.le h h'∧v= .bool r∧St h' L w'):=by
 refine calls_intro (N:=54) Tryz.func100 (by kernel_rfl) fun a hf=>?_
 refine c_sr (c_box [.slice o_x0 x0.length c_x0] 49 hS hf fun q j k g b=>tv (c_t [] [1] b .nil fun l c=>(c_seq (c_sq [.slice o_x0 x0.length c_x0] [1,9] c (.cell (g.bx 0 0 rfl rfl) .nil) fun m i=>(c_if (decide ((x0.length:Int) > (40:Int))) i (fun f=>?_) (fun f=>?_))))))
 ·have d:=cond_t f hr
  refine c_sq [] [2] i .nil fun c b=>?_
  refine c_ret (r_then (c_rt [] (.bool false) b .nil ?_))
  obtain rfl:=some_eq d
  exact ⟨_,rfl,h,zr,rfl,(St.drop 1 g)⟩
 ·have d:=cond_f f hr
  refine c_skip (n_then (c_sq [] [1,3] i .nil fun f b=>(c_seq (c_sq [] [1,3,4] b .nil fun i c=>(c_block 0 (c_loop (fun n a w=>∃E:Zone,∃A:Int,∃z:Int,Zone.le h E∧Fr a 54 [(1,pB q 0),(3,vI A),(4,vI z)]∧St E (box q [.slice o_x0 x0.length c_x0] 49::L) w∧(F100_l1 fuel x0 n A z)=some r) fuel ⟨h,0,0,zr,c.to,g,d⟩ ?_))))))
  rintro b c f ⟨E,A,z,F,g,D,J⟩
  cases b with
  | zero=>cases J
  | succ G =>
  refine c_seq (c_sq [.slice o_x0 x0.length c_x0] [1,3,4,14] g (.cell (D.bx 0 0 rfl rfl) .nil) fun b I=>(c_if (decide (z<(x0.length:Int))) I (fun H=>?_) (fun H=>?_)))
  ·have d:=cond_t H J
   refine c_skip (n_then (c_seq (c_block 1 (c_sr ?_))))
   obtain ⟨p,b,d⟩:=bind_some d
   obtain ⟨c,f,g,i,rfl,b⟩:=SliceR.getI (SliceR.mono F hx_x0) b
   refine c_n 5 [.slice o_x0 x0.length c_x0, .pointer (some c),vI p.lot,vI p.mass] [1,3,4,21] I (.cell (D.bx 0 0 rfl rfl) (.prop f (.prop g (.cell (D.cell (b 0 _ rfl)) (.cell (D.cell (b 1 _ rfl)) .nil))))) fun c b=>?_
   refine c_box [vI 0,vI 0] 53 D b fun b g i c f=>tv ?_
   refine c_st 0 [vI p.lot,vI p.mass] c f rfl fun c f g i=>tv ?_
   refine c_dt (c_seq (c_mid (fun a w=>∃B:Zone,∃C:Bool,Zone.le E B∧Fr a 54 [(1,pB q 0),(3,vI A),(4,vI z),(5,pB b 0),(47, .bool C)]∧St B (box b [vI p.lot,vI p.mass] 53::box q [.slice o_x0 x0.length c_x0] 49::L) w∧(F100_j1 (F100_l1 fuel x0 G) A z p C)=some r) ?_ ?_))
   ·skip
    have f:=g.drew
    have b:=Sub.of zr f
    refine c_regD (rD 26 [2,7]) [] _ b ?_
    refine c_S 2 [vI p.lot] [1,3,4,5,23] b i (fun _ s=>(.cell (s.bx 0 0 rfl rfl) .nil)) .nil fun b c=>?_
    obtain ⟨g,b,o⟩:=bind_some d
    refine c_call c (f60_ok fuel p.lot 1 9999 g b E _ _ f ) ?_
    rintro b c f ⟨l,x,rfl,k⟩ i
    refine ⟨fun _=>Sub.of x k,?_⟩
    have j:=Sub.of x k
    refine c_S 2 [] [1,3,4,5,26] j i (fun _ s=> .nil) .nil fun b i=>?_
    rcases bft (!g) with b | b
    ·have d:=cond_t b o
     have c:=i.lit 26 b
     refine c_S 21 [] [1,3,4,5,47] j c (fun _ s=> .nil) .nil fun f c=>?_
     refine c_dt ?_
     exact ⟨l,true,x,c.to,k,d⟩
    ·have d:=cond_f b o
     have b:=i.lit 26 b
     refine c_S 2 [vI p.mass] [1,3,4,5,26,28] j b (fun _ s=>(.cell (s.bx 0 1 rfl rfl) .nil)) .nil fun b c=>?_
     obtain ⟨f,b,o⟩:=bind_some d
     refine c_call c (f60_ok fuel p.mass 1 100000000 f b l _ _ k ) ?_
     rintro b c g ⟨y,t,rfl,u⟩ i
     refine ⟨fun _=>Sub.of (zt x t) u,?_⟩
     have m:=Sub.of (zt x t) u
     refine c_S 3 [] [1,3,4,5,32] m i (fun _ s=> .nil) .nil fun b g=>?_
     rcases bft (!f) with b | b
     ·have d:=cond_t b o
      have c:=g.lit 32 b
      refine c_S 15 [] [1,3,4,5,47] m c (fun _ s=> .nil) .nil fun f c=>?_
      refine c_dt ?_
      exact ⟨y,true,(zt x t),c.to,u,d⟩
     ·have o:=cond_f b o
      have b:=g.lit 32 b
      refine c_S 3 [] [1,3,4,5,32,35] m b (fun _ s=> .nil) .nil fun b q=>?_
      rcases bft (decide (z > (0:Int))) with b | b
      ·have d:=cond_t b o
       have k:=q.lit 35 b
       obtain ⟨j,c,d⟩:=bind_some d
       obtain ⟨c,f,g,l,rfl,i⟩:=SliceR.getI (SliceR.mono F hx_x0) c
       refine c_S 12 [.slice o_x0 x0.length c_x0, .pointer (some c),vI j.lot,vI p.lot] [1,3,4,5,47] m k (fun _ s=>(.cell (s.bx 1 0 rfl rfl) (.prop f (.prop g (.cell (s.cell (i 0 _ rfl)) (.cell (s.bx 0 0 rfl rfl) .nil)))))) .nil fun f c=>?_
       refine c_dt ?_
       exact ⟨y,(decide (j.lot≥p.lot)),(zt x t),c.to,u,d⟩
      ·have d:=cond_f b o
       have b:=q.lit 35 b
       refine c_S 12 [] [1,3,4,5,47] m b (fun _ s=> .nil) .nil fun c b=>?_
       refine c_dt ?_
       exact ⟨y,false,(zt x t),b.to,u,d⟩
   ·rintro b c ⟨B,C,j,f,g,o⟩
    refine c_if C f (fun c=>?_) (fun c=>?_)
    ·have d:=cond_t c o
     refine c_sq [] [2] f .nil fun i b=>?_
     refine c_ret (r_then (r_block (r_then (r_then (r_block (r_then (c_rt [] (.bool false) b .nil ?_)))))))
     obtain rfl:=some_eq d
     exact ⟨_,rfl,B,(zt F j),rfl,(St.drop 2 g)⟩
    ·have d:=cond_f c o
     refine c_skip (n_then (c_q [vI p.mass] [1,3,4] f (.cell (g.bx 0 1 rfl rfl) .nil) fun f b=>(n_block (n_then (c_q [] [1,3,4] b .nil fun i c=>(n_then ?_))))))
     exact ⟨G,Nat.lt_succ_self G,B,(w64 (A + p.mass)),(w64 (z + (1:Int))),(zt F j),c.to,(St.drop 1 g),d⟩
  ·have d:=cond_f H J
   refine c_exit 0 (x_then (x_then (x_block (n_then (c_sq [] [2] I .nil fun c b=>(c_ret (c_rt [] (.bool (decide (A≤(100000000:Int)))) b .nil ?_)))))))
   obtain rfl:=some_eq d
   exact ⟨_,rfl,E,F,rfl,(St.drop 1 D)⟩
def F53_j1 (y1:Bool):Option (Int) :=
  (cond y1 (some (60)) (some (0)))
def F53 (fuel:Nat) (x0i:Int) (x0w:Int) (x0g:Int) (x0e:Int):Option (Int) :=
  ((F60 fuel x0i 1 9999).bind fun r1=>(cond (!r1) (F53_j1 true) ((F60 fuel x0w 1 9).bind fun r2=>(cond (!r2) (F53_j1 true) ((F60 fuel x0g 1 9).bind fun r3=>(cond (!r3) (F53_j1 true) ((F60 fuel x0e 0 10000).bind fun r4=>(F53_j1 (!r4)))))))))
set_option maxRecDepth 100000 in
theorem f53_ok (fuel:Nat) (x0i:Int) (x0w:Int) (x0g:Int) (x0e:Int) (r:Int) (hr:F53 fuel x0i x0w x0g x0e=some r) (h:Zone) (L:List Atom) (w:World) (hS:St h L w)  :
    Calls Tryz.prog 53 #[.agg #[vI x0i,vI x0w,vI x0g,vI x0e]] w fun e w'=>∃v,e= .returned v∧(∃h',Zone.le h h'∧v=vI r∧St h' L w'):=by
 refine calls_intro (N:=25) Tryz.func53 (by kernel_rfl) fun a hf=>?_
 refine c_sr (c_box [vI x0i,vI x0w,vI x0g,vI x0e] 43 hS hf fun b i j d c=>tv (c_t [] [1] c .nil fun k f=>(c_seq (c_mid (fun a w=>∃q:Zone,∃s:Bool,Zone.le h q∧Fr a 25 [(24, .bool s)]∧St q (box b [vI x0i,vI x0w,vI x0g,vI x0e] 43::L) w∧(F53_j1 s)=some r) ?_ ?_))))
 ·skip
  refine c_reg (c_n 2 [vI x0i] [1,4] f (.cell (d.bx 0 0 rfl rfl) .nil) fun b c=>?_)
  obtain ⟨f,b,m⟩:=bind_some hr
  refine c_call c (f60_ok fuel x0i 1 9999 f b h _ _ d ) ?_
  rintro c d i ⟨k,p,rfl,j⟩ b
  refine tv ?_
  refine c_n 2 [] [1,7] b .nil fun b i=>?_
  rcases bft (!f) with b | b
  ·have g:=cond_t b m
   have c:=i.lit 7 b
   refine c_t [] [24] c .nil fun d c=>?_
   exact ⟨k,true,p,c.to,j,g⟩
  ·have g:=cond_f b m
   have b:=i.lit 7 b
   refine c_n 2 [vI x0w] [1,7,9] b (.cell (j.bx 0 1 rfl rfl) .nil) fun b c=>?_
   obtain ⟨d,b,m⟩:=bind_some g
   refine c_call c (f60_ok fuel x0w 1 9 d b k _ _ j ) ?_
   rintro c f i ⟨k,o,rfl,j⟩ b
   refine tv ?_
   refine c_n 3 [] [1,13] b .nil fun b f=>?_
   rcases bft (!d) with b | b
   ·have g:=cond_t b m
    have c:=f.lit 13 b
    refine c_t [] [24] c .nil fun d c=>?_
    exact ⟨k,true,(zt p o),c.to,j,g⟩
   ·have g:=cond_f b m
    have b:=f.lit 13 b
    refine c_n 2 [vI x0g] [1,13,15] b (.cell (j.bx 0 2 rfl rfl) .nil) fun b c=>?_
    obtain ⟨d,b,m⟩:=bind_some g
    refine c_call c (f60_ok fuel x0g 1 9 d b k _ _ j ) ?_
    rintro c f i ⟨k,n,rfl,j⟩ b
    refine tv ?_
    refine c_n 3 [] [1,19] b .nil fun b f=>?_
    rcases bft (!d) with b | b
    ·have g:=cond_t b m
     have c:=f.lit 19 b
     refine c_t [] [24] c .nil fun d c=>?_
     exact ⟨k,true,(zt (zt p o) n),c.to,j,g⟩
    ·have g:=cond_f b m
     have b:=f.lit 19 b
     refine c_n 2 [vI x0e] [19,21] b (.cell (j.bx 0 3 rfl rfl) .nil) fun b c=>?_
     obtain ⟨d,b,g⟩:=bind_some g
     refine c_call c (f60_ok fuel x0e 0 10000 d b k _ _ j ) ?_
     rintro c f i ⟨j,k,rfl,l⟩ b
     refine tv ?_
     refine c_t [] [24] b .nil fun c b=>?_
     exact ⟨j,(!d),(zt (zt (zt p o) n) k),b.to,l,g⟩
 ·rintro b c ⟨q,s,i,d,j,m⟩
  refine c_if s d (fun c=>?_) (fun c=>?_)
  ·have g:=cond_t c m
   refine c_sq [] [2] d .nil fun f b=>?_
   refine c_ret (r_then (c_rt [] (vI 60) b .nil ?_))
   obtain rfl:=some_eq g
   exact ⟨_,rfl,q,i,rfl,(St.drop 1 j)⟩
  ·have g:=cond_f c m
   refine c_skip (n_then (c_sq [] [2] d .nil fun c b=>(c_ret (c_rt [] (vI 0) b .nil ?_))))
   obtain rfl:=some_eq g
   exact ⟨_,rfl,q,i,rfl,(St.drop 1 j)⟩
def F21_j1 (k1:Int→Option (Int)) (y1:Int) (y2:Bool):Option (Int) :=
  (cond y2 (some (60)) (k1 (w64 (y1 + (1:Int)))))
def F21_l1 (fuel:Nat) (x0:List Lot):Nat→Int→Option (Int)
  | 0,_=>none
  | n1 + 1,y1 =>
    let k1:Int→Option (Int):=F21_l1 fuel x0 n1
    (cond (decide (y1<(x0.length:Int))) ((getI x0 y1).bind fun p1=>((F53 fuel p1.id p1.owner p1.grade p1.wet).bind fun r1=>(cond (r1 != (0:Int)) (F21_j1 k1 y1 true) (cond (decide (y1 > (0:Int))) ((getI x0 (w64 (y1 - (1:Int)))).bind fun p2=>((getI x0 y1).bind fun p3=>(F21_j1 k1 y1 (decide (p2.id≥p3.id))))) (F21_j1 k1 y1 false))))) (some (0)))
def F21 (fuel:Nat) (x0:List Lot):Option (Int) :=
  (cond (decide ((x0.length:Int) > (40:Int))) (some (60)) (F21_l1 fuel x0 fuel 0))
set_option maxRecDepth 100000 in
theorem f21_ok (fuel:Nat) (x0:List Lot) (r:Int) (hr:F21 fuel x0=some r) (h:Zone) (L:List Atom) (w:World) (hS:St h L w) (o_x0:Option Addr) (c_x0:Nat) (hx_x0:SliceR LotT h o_x0 c_x0 x0) :
    Calls Tryz.prog 21 #[.slice o_x0 x0.length c_x0] w fun e w'=>∃v,e= .returned v∧(∃h',Zone.le h h'∧v=vI r∧St h' L w'):=by
 refine calls_intro (N:=37) Tryz.func21 (by kernel_rfl) fun a hf=>?_
 refine c_sq [] [0] hf .nil fun c b=>?_
 refine c_seq (c_sq [] [0,6] b .nil fun b f=>(c_if (decide ((x0.length:Int) > (40:Int))) f (fun c=>?_) (fun c=>?_)))
 ·have d:=cond_t c hr
  refine c_sq [] [2] f .nil fun g b=>?_
  refine c_ret (r_then (c_rt [] (vI 60) b .nil ?_))
  obtain rfl:=some_eq d
  exact ⟨_,rfl,h,zr,rfl,hS⟩
 ·have d:=cond_f c hr
  refine c_skip (n_then (c_seq (c_sq [] [0,3] f .nil fun c b=>(c_block 0 (c_loop (fun n a w=>∃G:Zone,∃B:Int,Zone.le h G∧Fr a 37 [(0, .slice o_x0 x0.length c_x0),(3,vI B)]∧St G (L) w∧(F21_l1 fuel x0 n B)=some r) fuel ⟨h,0,zr,b.to,hS,d⟩ ?_)))))
  rintro b c f ⟨G,B,F,g,M,K⟩
  cases b with
  | zero=>cases K
  | succ H =>
  refine c_seq (c_sq [] [0,3,10] g .nil fun b J=>(c_if (decide (B<(x0.length:Int))) J (fun I=>?_) (fun I=>?_)))
  ·have d:=cond_t I K
   refine c_skip (n_then (c_seq (c_block 1 (c_mid (fun a w=>∃D:Zone,∃E:Bool,Zone.le G D∧Fr a 37 [(0, .slice o_x0 x0.length c_x0),(3,vI B),(36, .bool E)]∧St D (L) w∧(F21_j1 (F21_l1 fuel x0 H) B E)=some r) ?_ ?_))))
   ·skip
    have l:=M.drew
    have j:=Sub.of zr l
    refine c_regD (rD 24 [4]) [] _ j ?_
    obtain ⟨b,c,d⟩:=bind_some d
    obtain ⟨f,g,i,k,rfl,c⟩:=SliceR.getI (SliceR.mono F hx_x0) c
    refine c_S 4 [.pointer (some f),vI b.id,vI b.owner,vI b.grade,vI b.wet] [0,3,16] j J (fun _ s=>(.prop g (.prop i (.cell (s.cell (c 0 _ rfl)) (.cell (s.cell (c 1 _ rfl)) (.cell (s.cell (c 2 _ rfl)) (.cell (s.cell (c 3 _ rfl)) .nil))))))) .nil fun c f=>?_
    obtain ⟨g,c,t⟩:=bind_some d
    refine c_call f (f53_ok fuel b.id b.owner b.grade b.wet g c G _ _ l ) ?_
    rintro b c f ⟨C,y,rfl,z⟩ i
    refine ⟨fun _=>Sub.of y z,?_⟩
    have x:=Sub.of y z
    refine c_S 2 [] [0,3,19] x i (fun _ s=> .nil) .nil fun b i=>?_
    rcases bft (g != (0:Int)) with b | b
    ·have d:=cond_t b t
     have c:=i.lit 19 b
     refine c_S 17 [] [0,3,36] x c (fun _ s=> .nil) .nil fun f c=>?_
     refine c_dt ?_
     exact ⟨C,true,y,c.to,z,d⟩
    ·have t:=cond_f b t
     have b:=i.lit 19 b
     refine c_S 3 [] [0,3,19,22] x b (fun _ s=> .nil) .nil fun b A=>?_
     rcases bft (decide (B > (0:Int))) with i | i
     ·have d:=cond_t i t
      have u:=A.lit 22 i
      obtain ⟨k,b,d⟩:=bind_some d
      obtain ⟨l,m,o,b,rfl,p⟩:=SliceR.getI (SliceR.mono F hx_x0) b
      obtain ⟨j,b,d⟩:=bind_some d
      obtain ⟨b,c,f,q,rfl,g⟩:=SliceR.getI (SliceR.mono F hx_x0) b
      refine c_S 14 [.pointer (some l),vI k.id, .pointer (some b),vI j.id] [0,3,36] x u (fun _ s=>(.prop m (.prop o (.cell (s.cell (p 0 _ rfl)) (.prop c (.prop f (.cell (s.cell (g 0 _ rfl)) .nil))))))) .nil fun c b=>?_
      refine c_dt ?_
      exact ⟨C,(decide (k.id≥j.id)),y,b.to,z,d⟩
     ·have d:=cond_f i t
      have b:=A.lit 22 i
      refine c_S 14 [] [0,3,36] x b (fun _ s=> .nil) .nil fun c b=>?_
      refine c_dt ?_
      exact ⟨C,false,y,b.to,z,d⟩
   ·rintro b c ⟨D,E,i,f,j,t⟩
    refine c_if E f (fun c=>?_) (fun c=>?_)
    ·have d:=cond_t c t
     refine c_sq [] [2] f .nil fun g b=>?_
     refine c_ret (r_block (r_then (r_then (r_block (r_then (c_rt [] (vI 60) b .nil ?_))))))
     obtain rfl:=some_eq d
     exact ⟨_,rfl,D,(zt F i),rfl,j⟩
    ·have d:=cond_f c t
     refine c_skip (n_block (n_then (c_q [] [0,3] f .nil fun c b=>(n_then ?_))))
     exact ⟨H,Nat.lt_succ_self H,D,(w64 (B + (1:Int))),(zt F i),b.to,j,d⟩
  ·have d:=cond_f I K
   refine c_exit 0 (x_then (x_then (x_block (n_then (c_sq [] [2] J .nil fun c b=>(c_ret (c_rt [] (vI 0) b .nil ?_)))))))
   obtain rfl:=some_eq d
   exact ⟨_,rfl,G,F,rfl,M⟩
def F64_l1 (x0:List Lot) (x1:Int):Nat→Int→Option (Int)
  | 0,_=>none
  | n1 + 1,y1 =>
    let k1:Int→Option (Int):=F64_l1 x0 x1 n1
    (cond (decide (y1<(x0.length:Int))) ((getI x0 y1).bind fun p1=>(cond (p1.id == x1) (some (y1)) (k1 (w64 (y1 + (1:Int)))))) (some (-1)))
def F64 (fuel:Nat) (x0:List Lot) (x1:Int):Option (Int) :=
  (F64_l1 x0 x1 fuel 0)
set_option maxRecDepth 100000 in
theorem f64_ok (fuel:Nat) (x0:List Lot) (x1:Int) (r:Int) (hr:F64 fuel x0 x1=some r) (h:Zone) (L:List Atom) (w:World) (hS:St h L w) (o_x0:Option Addr) (c_x0:Nat) (hx_x0:SliceR LotT h o_x0 c_x0 x0) :
    Calls Tryz.prog 64 #[.slice o_x0 x0.length c_x0,vI x1] w fun e w'=>∃v,e= .returned v∧(∃h',Zone.le h h'∧v=vI r∧St h' L w'):=by
 refine calls_intro (N:=20) Tryz.func64 (by kernel_rfl) fun a hf=>?_
 refine c_sq [] [0,1] hf .nil fun c b=>?_
 refine c_seq (c_sq [] [0,1,5] b .nil fun c b=>(c_block 0 (c_loop (fun n a w=>∃l:Zone,∃k:Int,Zone.le h l∧Fr a 20 [(0, .slice o_x0 x0.length c_x0),(1,vI x1),(5,vI k)]∧St l (L) w∧(F64_l1 x0 x1 n k)=some r) fuel ⟨h,0,zr,b.to,hS,hr⟩ ?_)))
 rintro b c d ⟨l,k,q,f,s,t⟩
 cases b with
 | zero=>cases t
 | succ u =>
 refine c_seq (c_sq [] [0,1,5,9] f .nil fun b p=>(c_if (decide (k<(x0.length:Int))) p (fun o=>?_) (fun o=>?_)))
 ·have i:=cond_t o t
  refine c_skip (n_then (c_seq (c_block 1 ?_)))
  obtain ⟨b,c,m⟩:=bind_some i
  obtain ⟨c,d,f,j,rfl,g⟩:=SliceR.getI (SliceR.mono q hx_x0) c
  refine c_sq [.pointer (some c),vI b.id] [0,1,5,18] p (.prop d (.prop f (.cell (s.cell (g 0 _ rfl)) .nil))) fun c d=>?_
  refine c_if (b.id == x1) d (fun c=>?_) (fun c=>?_)
  ·have i:=cond_t c m
   refine c_sq [] [4] d .nil fun f b=>?_
   refine c_ret (r_block (r_then (r_then (r_block (r_then (c_rt [] (vI k) b .nil ?_))))))
   obtain rfl:=some_eq i
   exact ⟨_,rfl,l,q,rfl,s⟩
  ·have i:=cond_f c m
   refine c_skip (n_block (n_then (c_q [] [0,1,5] d .nil fun c b=>(n_then ?_))))
   exact ⟨u,Nat.lt_succ_self u,l,(w64 (k + (1:Int))),q,b.to,s,i⟩
 ·have i:=cond_f o t
  refine c_exit 0 (x_then (x_then (x_block (n_then (c_sq [] [4] p .nil fun c b=>(c_ret (c_rt [] (vI (-1)) b .nil ?_)))))))
  obtain rfl:=some_eq i
  exact ⟨_,rfl,l,q,rfl,s⟩
def F80_l3 (fuel:Nat) (k1:Int→Option (Int)) (x0l:List Lot) (p1:List (List Part)) (y1:Int):Nat→Int→Option (Int)
  | 0,_=>none
  | n1 + 1,y2 =>
    let k2:Int→Option (Int):=F80_l3 fuel k1 x0l p1 y1 n1
    ((getI p1 y1).bind fun p2=>(cond (decide (y2<(p2.length:Int))) ((getI p1 y1).bind fun p3=>((getI p3 y2).bind fun p4=>((F64 fuel x0l p4.lot).bind fun r1=>(cond (decide (r1<(0:Int))) (some (62)) (k2 (w64 (y2 + (1:Int)))))))) (k1 (w64 (y1 + (1:Int))))))
def F80_j1 (fuel:Nat) (k1:Int→Option (Int)) (x0l:List Lot) (p1:List (List Part)) (y1:Int) (y3:Bool):Option (Int) :=
  (cond y3 (some (62)) (F80_l3 fuel k1 x0l p1 y1 fuel 0))
def F80_l2 (fuel:Nat) (k3:Int→Option (Int)) (x0l:List Lot) (y4:Int) (p1:List (List Part)):Nat→Int→Option (Int)
  | 0,_=>none
  | n2 + 1,y1 =>
    let k1:Int→Option (Int):=F80_l2 fuel k3 x0l y4 p1 n2
    (cond (decide (y1<(p1.length:Int))) ((getI p1 y1).bind fun p5=>((F100 fuel p5).bind fun r2=>(cond (!r2) (F80_j1 fuel k1 x0l p1 y1 true) ((getI p1 y1).bind fun p6=>(F80_j1 fuel k1 x0l p1 y1 ((p6.length:Int) == (0:Int))))))) ((F69 fuel p1).bind fun r3=>(cond (decide (r3 > (100000000:Int))) (some (62)) (k3 (w64 (y4 + (1:Int)))))))
def F80_l1 (fuel:Nat) (x0l:List Lot) (x0h:List (List (List Part))):Nat→Int→Option (Int)
  | 0,_=>none
  | n3 + 1,y4 =>
    let k3:Int→Option (Int):=F80_l1 fuel x0l x0h n3
    (cond (decide (y4<(9:Int))) ((getI x0h y4).bind fun p1=>(cond (decide ((p1.length:Int) > (4:Int))) (some (62)) (F80_l2 fuel k3 x0l y4 p1 fuel 0))) (some (0)))
def F80 (fuel:Nat) (x0l:List Lot) (x0h:List (List (List Part))):Option (Int) :=
  ((F21 fuel x0l).bind fun r4=>(cond (r4 != (0:Int)) (some (62)) (F80_l1 fuel x0l x0h fuel 0)))
set_option maxRecDepth 100000 in
theorem f80_ok (fuel:Nat) (x0l:List Lot) (x0h:List (List (List Part))) (r:Int) (hr:F80 fuel x0l x0h=some r) (h:Zone) (L:List Atom) (w:World) (hS:St h L w) (o_x0l:Option Addr) (c_x0l:Nat) (hx_x0l:SliceR LotT h o_x0l c_x0l x0l) (V00 V01 V02 V03 V04 V05 V06 V07 V08:Value) (hx_x0h:(Ty.arr 9 (Ty.slice (Ty.slice PartT))).rep h [V00,V01,V02,V03,V04,V05,V06,V07,V08] x0h) :
    Calls Tryz.prog 80 #[.agg #[.slice o_x0l x0l.length c_x0l,V00,V01,V02,V03,V04,V05,V06,V07,V08]] w fun e w'=>∃v,e= .returned v∧(∃h',Zone.le h h'∧v=vI r∧St h' L w'):=by
 refine calls_intro (N:=69) Tryz.func80 (by kernel_rfl) fun a hf=>?_
 refine c_sr (c_box [.slice o_x0l x0l.length c_x0l,V00,V01,V02,V03,V04,V05,V06,V07,V08] 29 hS hf fun J j k d b=>tv (c_t [] [1] b .nil fun l c=>(c_seq (c_sr (c_n 2 [.slice o_x0l x0l.length c_x0l] [1,8] c (.cell (d.bx 0 0 rfl rfl) .nil) fun m g=>?_)))))
 obtain ⟨c,b,p⟩:=bind_some hr
 refine c_call g (f21_ok fuel x0l c b h _ _ d o_x0l c_x0l hx_x0l) ?_
 rintro d g j ⟨k,T,rfl,l⟩ b
 refine tv ?_
 refine c_t [] [1,10] b .nil fun b d=>?_
 refine c_if (c != (0:Int)) d (fun c=>?_) (fun c=>?_)
 ·have f:=cond_t c p
  refine c_sq [] [2] d .nil fun g b=>?_
  refine c_ret (r_then (c_rt [] (vI 62) b .nil ?_))
  obtain rfl:=some_eq f
  exact ⟨_,rfl,k,T,rfl,(St.drop 1 l)⟩
 ·have f:=cond_f c p
  refine c_skip (n_then (c_seq (c_sq [] [1,3] d .nil fun c b=>(c_block 0 (c_loop (fun n a w=>∃U:Zone,∃I:Int,Zone.le k U∧Fr a 69 [(1,pB J 0),(3,vI I)]∧St U (box J [.slice o_x0l x0l.length c_x0l,V00,V01,V02,V03,V04,V05,V06,V07,V08] 29::L) w∧(F80_l1 fuel x0l x0h n I)=some r) fuel ⟨k,0,zr,b.to,l,f⟩ ?_)))))
  rintro b c d ⟨U,I,Q,g,a2,a5⟩
  cases b with
  | zero=>cases a5
  | succ X =>
  refine c_seq (c_sq [] [1,3,12] g .nil fun b a4=>(c_if (decide (I<(9:Int))) a4 (fun a3=>?_) (fun a3=>?_)))
  ·have f:=cond_t a3 a5
   refine c_skip (n_then (c_seq (c_block 1 ?_)))
   obtain ⟨C,b,p⟩:=bind_some f
   obtain ⟨b,_,c,R,S,hehv208545,W⟩:=arrGet (Ty.mono _ (zt T Q) hx_x0h) rfl b
   obtain rfl:=List.head_eq_of_cons_eq hehv208545
   refine c_sq [.slice R C.length S] [1,3,4] a4 (.prop b (.cell ((arrAddr J 1 I.toNat) ▸ (a2.box (i:=0) rfl (getElem?_app_right [.slice o_x0l x0l.length c_x0l] _ _ c []))) .nil)) fun c b=>?_
   refine c_seq (c_sq [] [1,3,4,21] b .nil fun b d=>(c_if (decide ((C.length:Int) > (4:Int))) d (fun c=>?_) (fun c=>?_)))
   ·have f:=cond_t c p
    refine c_sq [] [2] d .nil fun g b=>?_
    refine c_ret (r_then (r_block (r_then (r_then (r_block (r_then (c_rt [] (vI 62) b .nil ?_)))))))
    obtain rfl:=some_eq f
    exact ⟨_,rfl,U,(zt T Q),rfl,(St.drop 1 a2)⟩
   ·have f:=cond_f c p
    refine c_skip (n_then (c_seq (c_sq [] [1,3,4,5] d .nil fun c b=>(c_block 2 (c_loop (fun n a w=>∃P:Zone,∃F:Int,Zone.le U P∧Fr a 69 [(1,pB J 0),(3,vI I),(4, .slice R C.length S),(5,vI F)]∧St P (box J [.slice o_x0l x0l.length c_x0l,V00,V01,V02,V03,V04,V05,V06,V07,V08] 29::L) w∧(F80_l2 fuel (F80_l1 fuel x0l x0h X) x0l I C n F)=some r) fuel ⟨U,0,zr,b.to,a2,f⟩ ?_)))))
    rintro b c d ⟨P,F,H,g,a1,a0⟩
    cases b with
    | zero=>cases a0
    | succ V =>
    refine c_seq (c_sq [] [1,3,4,5,25] g .nil fun b Z=>(c_if (decide (F<(C.length:Int))) Z (fun Y=>?_) (fun Y=>?_)))
    ·have f:=cond_t Y a0
     refine c_skip (n_then (c_seq (c_block 3 (c_seq (c_mid (fun a w=>∃t:Zone,∃u:Bool,Zone.le P t∧Fr a 69 [(1,pB J 0),(3,vI I),(4, .slice R C.length S),(5,vI F),(42, .bool u)]∧St t (box J [.slice o_x0l x0l.length c_x0l,V00,V01,V02,V03,V04,V05,V06,V07,V08] 29::L) w∧(F80_j1 fuel (F80_l2 fuel (F80_l1 fuel x0l x0h X) x0l I C V) x0l C F u)=some r) ?_ ?_)))))
     ·skip
      refine c_reg ?_
      obtain ⟨l,b,f⟩:=bind_some f
      obtain ⟨d,g,j,c,b,k⟩:=SliceR.getI (SliceR.mono H W) b
      obtain ⟨b,c,rfl,m⟩:=b
      refine c_n 4 [.pointer (some d), .slice b l.length c] [1,3,4,5,31] Z (.prop g (.prop j (.cell (a1.cell (k 0 _ rfl)) .nil))) fun d g=>?_
      obtain ⟨j,d,p⟩:=bind_some f
      refine c_call g (f100_ok fuel l j d P _ _ a1 b c m) ?_
      rintro c d g ⟨y,q,rfl,s⟩ b
      refine tv ?_
      refine c_n 2 [] [1,3,4,5,34] b .nil fun b g=>?_
      rcases bft (!j) with b | b
      ·have f:=cond_t b p
       have c:=g.lit 34 b
       refine c_t [] [1,3,4,5,42] c .nil fun d c=>?_
       exact ⟨y,true,q,c.to,s,f⟩
      ·have f:=cond_f b p
       have o:=g.lit 34 b
       obtain ⟨d,b,f⟩:=bind_some f
       obtain ⟨g,j,k,c,b,l⟩:=SliceR.getI (SliceR.mono (zt H q) W) b
       obtain ⟨b,c,rfl,m⟩:=b
       refine c_t [.pointer (some g), .slice b d.length c] [1,3,4,5,42] o (.prop j (.prop k (.cell (s.cell (l 0 _ rfl)) .nil))) fun c b=>?_
       exact ⟨y,((d.length:Int) == (0:Int)),q,b.to,s,f⟩
     ·rintro b c ⟨t,u,D,d,j,p⟩
      refine c_if u d (fun c=>?_) (fun c=>?_)
      ·have f:=cond_t c p
       refine c_sq [] [2] d .nil fun g b=>?_
       refine c_ret (r_then (r_block (r_then (r_then (r_block (r_then (r_block (r_then (r_then (r_block (r_then (c_rt [] (vI 62) b .nil ?_))))))))))))
       obtain rfl:=some_eq f
       exact ⟨_,rfl,t,(zt (zt (zt T Q) H) D),rfl,(St.drop 1 j)⟩
      ·have f:=cond_f c p
       refine c_skip (n_then (c_sq [] [1,3,4,5,6] d .nil fun c b=>(c_block 4 (c_loop (fun n a w=>∃B:Zone,∃z:Int,Zone.le t B∧Fr a 69 [(1,pB J 0),(3,vI I),(4, .slice R C.length S),(5,vI F),(6,vI z)]∧St B (box J [.slice o_x0l x0l.length c_x0l,V00,V01,V02,V03,V04,V05,V06,V07,V08] 29::L) w∧(F80_l3 fuel (F80_l2 fuel (F80_l1 fuel x0l x0h X) x0l I C V) x0l C F n z)=some r) fuel ⟨t,0,zr,b.to,j,f⟩ ?_))))
       rintro b c q ⟨B,z,A,o,K,f⟩
       cases b with
       | zero=>cases f
       | succ O =>
       refine c_seq ?_
       obtain ⟨d,b,M⟩:=bind_some f
       obtain ⟨g,j,k,c,b,l⟩:=SliceR.getI (SliceR.mono (zt (zt H D) A) W) b
       obtain ⟨b,c,rfl,m⟩:=b
       refine c_sq [.pointer (some g), .slice b d.length c] [1,3,4,5,6,50] o (.prop j (.prop k (.cell (K.cell (l 0 _ rfl)) .nil))) fun b G=>?_
       refine c_if (decide (z<(d.length:Int))) G (fun E=>?_) (fun E=>?_)
       ·have f:=cond_t E M
        refine c_skip (n_then (c_seq (c_block 5 (c_seq ?_))))
        have k:=K.drew
        refine c_regD (rD 13 [11]) [11] (fun x=>x=q.drew) rfl ?_
        obtain ⟨y,b,f⟩:=bind_some f
        obtain ⟨q,s,t,c,b,u⟩:=SliceR.getI (SliceR.mono (zt (zt H D) A) W) b
        obtain ⟨l,m,rfl,c⟩:=b
        obtain ⟨j,b,f⟩:=bind_some f
        obtain ⟨b,c,d,o,rfl,g⟩:=SliceR.getI c b
        refine c_E 11 [.slice o_x0l x0l.length c_x0l, .pointer (some q), .slice l y.length m, .pointer (some b),vI j.lot] [1,3,4,5,6,54,63] G (.cell (k.bx 0 0 rfl rfl) (.prop s (.prop t (.cell (k.cell (u 0 _ rfl)) (.prop c (.prop d (.cell (k.cell (g 0 _ rfl)) .nil))))))) .nil fun b d=>?_
        obtain ⟨b,c,p⟩:=bind_some f
        refine c_call d (f64_ok fuel x0l j.lot b c B _ _ k o_x0l c_x0l (SliceR.mono (zt (zt (zt (zt T Q) H) D) A) hx_x0l)) ?_
        rintro d g j ⟨k,l,rfl,m⟩ c
        refine ⟨fun e=>absurd e (by decide),?_⟩
        refine p_qP 1 [] [(1,pB J 0),(3,vI I),(4, .slice R C.length S),(5,vI F),(6,vI z),(65, .bool (decide (b<(0:Int))))] [] c (by kernel_rfl) (fun _=> .nil) fun c d=>?_
        refine c_dt (c_if (decide (b<(0:Int))) d (fun c=>?_) (fun c=>?_))
        ·have f:=cond_t c p
         refine c_sq [] [2] d .nil fun g b=>?_
         refine c_ret (r_block (r_then (r_then (r_block (r_block (r_then (r_then (r_block (r_then (r_block (r_then (r_then (r_block (r_then (c_rt [] (vI 62) b .nil ?_)))))))))))))))
         obtain rfl:=some_eq f
         exact ⟨_,rfl,k,(zt (zt (zt (zt (zt T Q) H) D) A) l),rfl,(St.drop 1 m)⟩
        ·have f:=cond_f c p
         refine c_skip (n_block (n_then (c_q [] [1,3,4,5,6] d .nil fun c b=>(n_then ?_))))
         exact ⟨O,Nat.lt_succ_self O,k,(w64 (z + (1:Int))),(zt A l),b.to,m,f⟩
       ·have f:=cond_f E M
        refine c_exit 4 (x_then (x_then (x_block (n_block (n_then (c_q [] [1,3,4,5] G .nil fun c b=>(n_then ?_)))))))
        exact ⟨V,Nat.lt_succ_self V,B,(w64 (F + (1:Int))),(zt (zt H D) A),b.to,K,f⟩
    ·have f:=cond_f Y a0
     refine c_exit 2 (x_then (x_then (x_block (n_then (c_sr (c_n 1 [] [1,3,66] Z .nil fun b c=>?_))))))
     obtain ⟨d,b,p⟩:=bind_some f
     refine c_call c (f69_ok fuel C d b P _ _ a1 R S (SliceR.mono H W)) ?_
     rintro c g j ⟨k,l,rfl,m⟩ b
     refine tv ?_
     refine c_t [] [1,3,68] b .nil fun b g=>?_
     refine c_if (decide (d > (100000000:Int))) g (fun c=>?_) (fun c=>?_)
     ·have f:=cond_t c p
      refine c_sq [] [2] g .nil fun d b=>?_
      refine c_ret (r_block (r_then (r_then (r_block (r_then (c_rt [] (vI 62) b .nil ?_))))))
      obtain rfl:=some_eq f
      exact ⟨_,rfl,k,(zt (zt (zt T Q) H) l),rfl,(St.drop 1 m)⟩
     ·have f:=cond_f c p
      refine c_skip (n_block (n_then (c_q [] [1,3] g .nil fun c b=>(n_then ?_))))
      exact ⟨X,Nat.lt_succ_self X,k,(w64 (I + (1:Int))),(zt (zt Q H) l),b.to,m,f⟩
  ·have f:=cond_f a3 a5
   refine c_exit 0 (x_then (x_then (x_block (n_then (c_sq [] [2] a4 .nil fun c b=>(c_ret (c_rt [] (vI 0) b .nil ?_)))))))
   obtain rfl:=some_eq f
   exact ⟨_,rfl,U,(zt T Q),rfl,(St.drop 1 a2)⟩
def F101 (fuel:Nat) (x0:Int):Option (Bool) :=
  ((F60 fuel x0 0 8).bind fun r1=>(some (r1)))
set_option maxRecDepth 100000 in
theorem f101_ok (fuel:Nat) (x0:Int) (r:Bool) (hr:F101 fuel x0=some r) (h:Zone) (L:List Atom) (w:World) (hS:St h L w)  :
    Calls Tryz.prog 101 #[vI x0] w fun e w'=>∃v,e= .returned v∧(∃h',Zone.le h h'∧v= .bool r∧St h' L w'):=by
 refine calls_intro (N:=5) Tryz.func101 (by kernel_rfl) fun a hf=>?_
 refine c_sq [] [0] hf .nil fun c b=>?_
 refine c_sr (c_n 1 [] [3] b .nil fun b c=>?_)
 obtain ⟨d,b,l⟩:=bind_some hr
 refine c_call c (f60_ok fuel x0 0 8 d b h _ _ hS ) ?_
 rintro c f g ⟨i,j,rfl,k⟩ b
 refine tv ?_
 refine c_t [] [2] b .nil fun c b=>?_
 refine c_ret (c_rt [] (.bool d) b .nil ?_)
 obtain rfl:=some_eq l
 exact ⟨_,rfl,i,j,rfl,k⟩
def F81_j2 (y1:Bool):Option (Bool) :=
  (some (y1))
def F81_j5 (y2:Bool):Option (Bool) :=
  (some (y2))
def F81_j6 (y3:Bool):Option (Bool) :=
  (some (y3))
def F81_j7 (y4:Bool):Option (Bool) :=
  (some (y4))
def F81_j4 (fuel:Nat) (x0l:List Lot) (x1k:Int) (x1o:Int) (x1f:Int) (x1t:Int) (y5:Bool):Option (Bool) :=
  (cond y5 (cond (x1f == (0:Int)) ((F64 fuel x0l x1o).bind fun r1=>(F81_j5 (decide (r1≥(0:Int))))) (F81_j5 false)) (cond (x1k == (4:Int)) (cond (x1o == (0:Int)) (F81_j6 (x1f != x1t)) (F81_j6 false)) (cond (x1o == (0:Int)) (F81_j7 (x1t == (0:Int))) (F81_j7 false))))
def F81_j3 (fuel:Nat) (x0l:List Lot) (x1k:Int) (x1o:Int) (x1f:Int) (x1t:Int) (y6:Bool):Option (Bool) :=
  (cond y6 (some (false)) (cond (x1k == (1:Int)) (F81_j4 fuel x0l x1k x1o x1f x1t (x1k == (1:Int))) (F81_j4 fuel x0l x1k x1o x1f x1t (x1k == (2:Int)))))
def F81_j1 (fuel:Nat) (x0l:List Lot) (x1k:Int) (x1o:Int) (x1f:Int) (x1t:Int) (x1m:Int) (y7:Bool):Option (Bool) :=
  (cond y7 (some (false)) (cond (x1k == (6:Int)) (cond (x1o == (0:Int)) (cond (x1t == (0:Int)) (cond (x1m == (0:Int)) ((F101 fuel x1f).bind fun r2=>(F81_j2 r2)) (F81_j2 false)) (F81_j2 false)) (F81_j2 false)) ((F60 fuel x1m 1 100000000).bind fun r3=>(cond (!r3) (F81_j3 fuel x0l x1k x1o x1f x1t true) ((F101 fuel x1f).bind fun r4=>(cond (!r4) (F81_j3 fuel x0l x1k x1o x1f x1t true) ((F101 fuel x1t).bind fun r5=>(F81_j3 fuel x0l x1k x1o x1f x1t (!r5)))))))))
def F81 (fuel:Nat) (x0l:List Lot) (x0h:List (List (List Part))) (x1k:Int) (x1o:Int) (x1f:Int) (x1t:Int) (x1m:Int):Option (Bool) :=
  (cond (decide (x1k<(1:Int))) (F81_j1 fuel x0l x1k x1o x1f x1t x1m true) (F81_j1 fuel x0l x1k x1o x1f x1t x1m (decide (x1k > (6:Int)))))
set_option maxRecDepth 100000 in
theorem f81_ok (fuel:Nat) (x0l:List Lot) (x0h:List (List (List Part))) (x1k:Int) (x1o:Int) (x1f:Int) (x1t:Int) (x1m:Int) (r:Bool) (hr:F81 fuel x0l x0h x1k x1o x1f x1t x1m=some r) (h:Zone) (L:List Atom) (w:World) (hS:St h L w) (o_x0l:Option Addr) (c_x0l:Nat) (hx_x0l:SliceR LotT h o_x0l c_x0l x0l) (V00 V01 V02 V03 V04 V05 V06 V07 V08:Value) (hx_x0h:(Ty.arr 9 (Ty.slice (Ty.slice PartT))).rep h [V00,V01,V02,V03,V04,V05,V06,V07,V08] x0h) :
    Calls Tryz.prog 81 #[.agg #[.slice o_x0l x0l.length c_x0l,V00,V01,V02,V03,V04,V05,V06,V07,V08], .agg #[vI x1k,vI x1o,vI x1f,vI x1t,vI x1m]] w fun e w'=>∃v,e= .returned v∧(∃h',Zone.le h h'∧v= .bool r∧St h' L w'):=by
 refine calls_intro (N:=86) Tryz.func81 (by kernel_rfl) fun a hf=>?_
 refine c_sr (c_box [.slice o_x0l x0l.length c_x0l,V00,V01,V02,V03,V04,V05,V06,V07,V08] 29 hS hf fun F j k b c=>tv (c_box [vI x1k,vI x1o,vI x1f,vI x1t,vI x1m] 74 b c fun G l m i d=>tv (c_t [] [2,3] d .nil fun n f=>(c_seq (c_mid (fun a w=>∃t:Zone,∃o:Bool,Zone.le h t∧Fr a 86 [(2,pB F 0),(3,pB G 0),(12, .bool o)]∧St t (box G [vI x1k,vI x1o,vI x1f,vI x1t,vI x1m] 74::box F [.slice o_x0l x0l.length c_x0l,V00,V01,V02,V03,V04,V05,V06,V07,V08] 29::L) w∧(F81_j1 fuel x0l x1k x1o x1f x1t x1m o)=some r) ?_ ?_)))))
 ·skip
  refine c_reg (c_n 4 [vI x1k] [2,3,8] f (.cell (i.bx 0 0 rfl rfl) .nil) fun b f=>?_)
  rcases bft (decide (x1k<(1:Int))) with b | b
  ·have g:=cond_t b hr
   have c:=f.lit 8 b
   refine c_t [] [2,3,12] c .nil fun d c=>?_
   exact ⟨h,true,zr,c.to,i,g⟩
  ·have g:=cond_f b hr
   have b:=f.lit 8 b
   refine c_t [vI x1k] [2,3,12] b (.cell (i.bx 0 0 rfl rfl) .nil) fun c b=>?_
   exact ⟨h,(decide (x1k > (6:Int))),zr,b.to,i,g⟩
 ·rintro b c ⟨t,o,H,d,q,p⟩
  refine c_if o d (fun c=>?_) (fun c=>?_)
  ·have g:=cond_t c p
   refine c_sq [] [4] d .nil fun f b=>?_
   refine c_ret (r_then (c_rt [] (.bool false) b .nil ?_))
   obtain rfl:=some_eq g
   exact ⟨_,rfl,t,H,rfl,(St.drop 2 q)⟩
  ·have E:=cond_f c p
   refine c_skip (n_then (c_seq (c_sq [vI x1k] [2,3,15] d (.cell (q.bx 0 0 rfl rfl) .nil) fun b D=>(c_if (x1k == (6:Int)) D (fun B=>?_) (fun B=>?_)))))
   ·have C:=cond_t B E
    refine c_mid (fun a w=>∃z:Zone,∃u:Bool,Zone.le t z∧Fr a 86 [(4, .bool u)]∧St z (box G [vI x1k,vI x1o,vI x1f,vI x1t,vI x1m] 74::box F [.slice o_x0l x0l.length c_x0l,V00,V01,V02,V03,V04,V05,V06,V07,V08] 29::L) w∧(F81_j2 u)=some r) ?_ ?_
    ·skip
     refine c_reg (c_n 4 [vI x1o] [3,19] D (.cell (q.bx 0 1 rfl rfl) .nil) fun b A=>?_)
     rcases bft (x1o == (0:Int)) with o | o
     ·have y:=cond_t o C
      have b:=A.lit 19 o
      refine c_n 5 [vI x1t] [3,24] b (.cell (q.bx 0 3 rfl rfl) .nil) fun b x=>?_
      rcases bft (x1t == (0:Int)) with n | n
      ·have p:=cond_t n y
       have b:=x.lit 24 n
       refine c_n 5 [vI x1m] [3,29] b (.cell (q.bx 0 4 rfl rfl) .nil) fun b s=>?_
       rcases bft (x1m == (0:Int)) with c | c
       ·have g:=cond_t c p
        have b:=s.lit 29 c
        refine c_n 2 [vI x1f] [29,31] b (.cell (q.bx 0 2 rfl rfl) .nil) fun b d=>?_
        obtain ⟨f,b,g⟩:=bind_some g
        refine c_call d (f101_ok fuel x1f f b t _ _ q ) ?_
        rintro d i j ⟨k,l,rfl,m⟩ b
        refine tv ?_
        refine c_t [] [4] b .nil fun d b=>?_
        exact ⟨k,f,l,b.to,m,g⟩
       ·have g:=cond_f c p
        have b:=s.lit 29 c
        refine c_t [] [4] b .nil fun c b=>?_
        exact ⟨t,false,zr,b.to,q,g⟩
      ·have g:=cond_f n y
       have b:=x.lit 24 n
       refine c_t [] [4] b .nil fun c b=>?_
       exact ⟨t,false,zr,b.to,q,g⟩
     ·have g:=cond_f o C
      have b:=A.lit 19 o
      refine c_t [] [4] b .nil fun c b=>?_
      exact ⟨t,false,zr,b.to,q,g⟩
    ·rintro c d ⟨z,u,f,b,i,g⟩
     refine c_ret (r_then (c_rt [] (.bool u) b .nil ?_))
     obtain rfl:=some_eq g
     exact ⟨_,rfl,z,(zt H f),rfl,(St.drop 2 i)⟩
   ·have g:=cond_f B E
    refine c_skip (n_then (c_seq (c_mid (fun a w=>∃n:Zone,∃o:Bool,Zone.le t n∧Fr a 86 [(2,pB F 0),(3,pB G 0),(49, .bool o)]∧St n (box G [vI x1k,vI x1o,vI x1f,vI x1t,vI x1m] 74::box F [.slice o_x0l x0l.length c_x0l,V00,V01,V02,V03,V04,V05,V06,V07,V08] 29::L) w∧(F81_j3 fuel x0l x1k x1o x1f x1t o)=some r) ?_ ?_)))
    ·skip
     refine c_reg (c_n 2 [vI x1m] [2,3,35] D (.cell (q.bx 0 4 rfl rfl) .nil) fun b c=>?_)
     obtain ⟨d,b,p⟩:=bind_some g
     refine c_call c (f60_ok fuel x1m 1 100000000 d b t _ _ q ) ?_
     rintro c f i ⟨k,q,rfl,j⟩ b
     refine tv ?_
     refine c_n 2 [] [2,3,38] b .nil fun b f=>?_
     rcases bft (!d) with b | b
     ·have g:=cond_t b p
      have c:=f.lit 38 b
      refine c_t [] [2,3,49] c .nil fun d c=>?_
      exact ⟨k,true,q,c.to,j,g⟩
     ·have g:=cond_f b p
      have b:=f.lit 38 b
      refine c_n 2 [vI x1f] [2,3,38,40] b (.cell (j.bx 0 2 rfl rfl) .nil) fun b c=>?_
      obtain ⟨d,b,p⟩:=bind_some g
      refine c_call c (f101_ok fuel x1f d b k _ _ j ) ?_
      rintro c f i ⟨k,m,rfl,j⟩ b
      refine tv ?_
      refine c_n 3 [] [2,3,44] b .nil fun b f=>?_
      rcases bft (!d) with b | b
      ·have g:=cond_t b p
       have c:=f.lit 44 b
       refine c_t [] [2,3,49] c .nil fun d c=>?_
       exact ⟨k,true,(zt q m),c.to,j,g⟩
      ·have g:=cond_f b p
       have b:=f.lit 44 b
       refine c_n 2 [vI x1t] [2,3,44,46] b (.cell (j.bx 0 3 rfl rfl) .nil) fun b c=>?_
       obtain ⟨d,b,g⟩:=bind_some g
       refine c_call c (f101_ok fuel x1t d b k _ _ j ) ?_
       rintro c f i ⟨j,k,rfl,l⟩ b
       refine tv ?_
       refine c_t [] [2,3,49] b .nil fun c b=>?_
       exact ⟨j,(!d),(zt (zt q m) k),b.to,l,g⟩
    ·rintro b c ⟨n,o,A,d,i,p⟩
     refine c_if o d (fun c=>?_) (fun c=>?_)
     ·have g:=cond_t c p
      refine c_sq [] [4] d .nil fun f b=>?_
      refine c_ret (r_then (c_rt [] (.bool false) b .nil ?_))
      obtain rfl:=some_eq g
      exact ⟨_,rfl,n,(zt H A),rfl,(St.drop 2 i)⟩
     ·have p:=cond_f c p
      refine c_skip (n_then (c_seq (c_sq [vI x1k] [2,3,51] d (.cell (i.bx 0 0 rfl rfl) .nil) fun c b=>(c_block 0 (c_mid (fun a w=>∃t:Zone,∃d:Bool,Zone.le n t∧Fr a 86 [(2,pB F 0),(3,pB G 0),(51,vI x1k),(52, .bool d)]∧St t (box G [vI x1k,vI x1o,vI x1f,vI x1t,vI x1m] 74::box F [.slice o_x0l x0l.length c_x0l,V00,V01,V02,V03,V04,V05,V06,V07,V08] 29::L) w∧(F81_j4 fuel x0l x1k x1o x1f x1t d)=some r) ?_ ?_)))))
      ·skip
       refine c_sq [] [2,3,51,52] b .nil fun b c=>?_
       refine c_if (x1k == (1:Int)) c (fun b=>?_) (fun b=>?_)
       ·have g:=cond_t b p
        refine c_skip (n_then ?_)
        exact ⟨n,(x1k == (1:Int)),zr,c.to,i,g⟩
       ·have g:=cond_f b p
        refine c_q [] [2,3,51,52] c .nil fun c b=>?_
        refine n_then ?_
        exact ⟨n,(x1k == (2:Int)),zr,b.to,i,g⟩
      ·rintro b c ⟨t,d,z,x,n,y⟩
       refine c_if d x (fun u=>?_) (fun u=>?_)
       ·have p:=cond_t u y
        refine c_mid (fun a w=>∃q:Zone,∃o:Bool,Zone.le t q∧Fr a 86 [(4, .bool o)]∧St q (box G [vI x1k,vI x1o,vI x1f,vI x1t,vI x1m] 74::box F [.slice o_x0l x0l.length c_x0l,V00,V01,V02,V03,V04,V05,V06,V07,V08] 29::L) w∧(F81_j5 o)=some r) ?_ ?_
        ·skip
         refine c_reg (c_n 4 [vI x1f] [2,3,58] x (.cell (n.bx 0 2 rfl rfl) .nil) fun b s=>?_)
         rcases bft (x1f == (0:Int)) with c | c
         ·have g:=cond_t c p
          have b:=s.lit 58 c
          refine c_n 4 [.slice o_x0l x0l.length c_x0l,vI x1o] [58,60,62] b (.cell (n.bx 1 0 rfl rfl) (.cell (n.bx 0 1 rfl rfl) .nil)) fun b d=>?_
          obtain ⟨f,b,g⟩:=bind_some g
          refine c_call d (f64_ok fuel x0l x1o f b t _ _ n o_x0l c_x0l (SliceR.mono (zt (zt H A) z) hx_x0l)) ?_
          rintro d i j ⟨k,l,rfl,m⟩ b
          refine tv ?_
          refine c_t [] [4] b .nil fun d b=>?_
          exact ⟨k,(decide (f≥(0:Int))),l,b.to,m,g⟩
         ·have g:=cond_f c p
          have b:=s.lit 58 c
          refine c_t [] [4] b .nil fun c b=>?_
          exact ⟨t,false,zr,b.to,n,g⟩
        ·rintro c d ⟨q,o,f,b,i,g⟩
         refine c_ret (r_block (r_then (c_rt [] (.bool o) b .nil ?_)))
         obtain rfl:=some_eq g
         exact ⟨_,rfl,q,(zt (zt (zt H A) z) f),rfl,(St.drop 2 i)⟩
       ·have y:=cond_f u y
        refine c_sq [] [3,66] x .nil fun b m=>?_
        refine c_if (x1k == (4:Int)) m (fun l=>?_) (fun l=>?_)
        ·have p:=cond_t l y
         refine c_mid (fun a w=>∃k:Zone,∃j:Bool,Zone.le t k∧Fr a 86 [(4, .bool j)]∧St k (box G [vI x1k,vI x1o,vI x1f,vI x1t,vI x1m] 74::box F [.slice o_x0l x0l.length c_x0l,V00,V01,V02,V03,V04,V05,V06,V07,V08] 29::L) w∧(F81_j6 j)=some r) ?_ ?_
         ·skip
          refine c_reg (c_n 4 [vI x1o] [3,71] m (.cell (n.bx 0 1 rfl rfl) .nil) fun b f=>?_)
          rcases bft (x1o == (0:Int)) with b | b
          ·have g:=cond_t b p
           have c:=f.lit 71 b
           refine c_t [vI x1f,vI x1t] [4] c (.cell (n.bx 0 2 rfl rfl) (.cell (n.bx 0 3 rfl rfl) .nil)) fun d c=>?_
           exact ⟨t,(x1f != x1t),zr,c.to,n,g⟩
          ·have g:=cond_f b p
           have b:=f.lit 71 b
           refine c_t [] [4] b .nil fun c b=>?_
           exact ⟨t,false,zr,b.to,n,g⟩
         ·rintro c d ⟨k,j,f,b,i,g⟩
          refine c_ret (r_block (r_then (c_rt [] (.bool j) b .nil ?_)))
          obtain rfl:=some_eq g
          exact ⟨_,rfl,k,(zt (zt (zt H A) z) f),rfl,(St.drop 2 i)⟩
        ·have p:=cond_f l y
         refine c_skip (n_block (n_then (c_mid (fun a w=>∃k:Zone,∃j:Bool,Zone.le t k∧Fr a 86 [(4, .bool j)]∧St k (box G [vI x1k,vI x1o,vI x1f,vI x1t,vI x1m] 74::box F [.slice o_x0l x0l.length c_x0l,V00,V01,V02,V03,V04,V05,V06,V07,V08] 29::L) w∧(F81_j7 j)=some r) ?_ ?_)))
         ·skip
          refine c_reg (c_n 4 [vI x1o] [3,81] m (.cell (n.bx 0 1 rfl rfl) .nil) fun b f=>?_)
          rcases bft (x1o == (0:Int)) with b | b
          ·have g:=cond_t b p
           have c:=f.lit 81 b
           refine c_t [vI x1t] [4] c (.cell (n.bx 0 3 rfl rfl) .nil) fun d c=>?_
           exact ⟨t,(x1t == (0:Int)),zr,c.to,n,g⟩
          ·have g:=cond_f b p
           have b:=f.lit 81 b
           refine c_t [] [4] b .nil fun c b=>?_
           exact ⟨t,false,zr,b.to,n,g⟩
         ·rintro c d ⟨k,j,f,b,i,g⟩
          refine c_ret (c_rt [] (.bool j) b .nil ?_)
          obtain rfl:=some_eq g
          exact ⟨_,rfl,k,(zt (zt (zt H A) z) f),rfl,(St.drop 2 i)⟩
def F54_j5 (y1:Bool):Option (Int) :=
  (cond y1 (some (2)) (some (0)))
def F54_j4 (fuel:Nat) (x0h:List (List (List Part))) (x1k:Int) (x1t:Int) (x1m:Int) (y2:Bool):Option (Int) :=
  (cond (x1k == (2:Int)) ((getI x0h x1t).bind fun p1=>(cond ((p1.length:Int) == (4:Int)) (F54_j5 true) (cond y2 ((getI x0h x1t).bind fun p2=>((F69 fuel p2).bind fun r1=>(F54_j5 (decide ((w64 (r1 + x1m)) > (100000000:Int)))))) (F54_j5 false)))) (cond y2 ((getI x0h x1t).bind fun p3=>((F69 fuel p3).bind fun r2=>(F54_j5 (decide ((w64 (r2 + x1m)) > (100000000:Int)))))) (F54_j5 false)))
def F54_j3 (fuel:Nat) (x0h:List (List (List Part))) (x1k:Int) (x1t:Int) (x1m:Int) (y3:Bool):Option (Int) :=
  (cond y3 (some (3)) (cond (x1k == (1:Int)) (F54_j4 fuel x0h x1k x1t x1m true) (cond (x1k == (2:Int)) (F54_j4 fuel x0h x1k x1t x1m true) (F54_j4 fuel x0h x1k x1t x1m (x1k == (4:Int))))))
def F54_j2 (fuel:Nat) (x0h:List (List (List Part))) (x1k:Int) (x1f:Int) (x1t:Int) (x1m:Int) (y4:Bool):Option (Int) :=
  (cond y4 (some (63)) (cond (x1k == (6:Int)) ((getI x0h x1f).bind fun p4=>(F54_j3 fuel x0h x1k x1t x1m (decide ((p4.length:Int)<(2:Int))))) (F54_j3 fuel x0h x1k x1t x1m false)))
def F54_j1 (fuel:Nat) (x0h:List (List (List Part))) (x1k:Int) (x1f:Int) (x1t:Int) (x1m:Int) (y5:Bool):Option (Int) :=
  (cond y5 ((getI x0h x1f).bind fun p5=>((F69 fuel p5).bind fun r3=>(F54_j2 fuel x0h x1k x1f x1t x1m (decide (x1m > r3))))) (F54_j2 fuel x0h x1k x1f x1t x1m false))
def F54 (fuel:Nat) (x0l:List Lot) (x0h:List (List (List Part))) (x1k:Int) (x1o:Int) (x1f:Int) (x1t:Int) (x1m:Int):Option (Int) :=
  ((F80 fuel x0l x0h).bind fun r4=>(cond (r4 != (0:Int)) (some (62)) ((F81 fuel x0l x0h x1k x1o x1f x1t x1m).bind fun r5=>(cond (!r5) (some (61)) (cond (x1k == (3:Int)) (F54_j1 fuel x0h x1k x1f x1t x1m true) (cond (x1k == (4:Int)) (F54_j1 fuel x0h x1k x1f x1t x1m true) (F54_j1 fuel x0h x1k x1f x1t x1m (x1k == (5:Int)))))))))
set_option maxRecDepth 100000 in
theorem f54_ok (fuel:Nat) (x0l:List Lot) (x0h:List (List (List Part))) (x1k:Int) (x1o:Int) (x1f:Int) (x1t:Int) (x1m:Int) (r:Int) (hr:F54 fuel x0l x0h x1k x1o x1f x1t x1m=some r) (h:Zone) (L:List Atom) (w:World) (hS:St h L w) (o_x0l:Option Addr) (c_x0l:Nat) (hx_x0l:SliceR LotT h o_x0l c_x0l x0l) (V00 V01 V02 V03 V04 V05 V06 V07 V08:Value) (hx_x0h:(Ty.arr 9 (Ty.slice (Ty.slice PartT))).rep h [V00,V01,V02,V03,V04,V05,V06,V07,V08] x0h) :
    Calls Tryz.prog 54 #[.agg #[.slice o_x0l x0l.length c_x0l,V00,V01,V02,V03,V04,V05,V06,V07,V08], .agg #[vI x1k,vI x1o,vI x1f,vI x1t,vI x1m]] w fun e w'=>∃v,e= .returned v∧(∃h',Zone.le h h'∧v=vI r∧St h' L w'):=by
 refine calls_intro (N:=91) Tryz.func54 (by kernel_rfl) fun a hf=>?_
 refine c_sr (c_box [.slice o_x0l x0l.length c_x0l,V00,V01,V02,V03,V04,V05,V06,V07,V08] 29 hS hf fun z l m c d=>tv (c_box [vI x1k,vI x1o,vI x1f,vI x1t,vI x1m] 74 c d fun A n o b f=>tv (c_t [] [2,3] f .nil fun p g=>(c_seq (c_sr (c_n 1 [.slice o_x0l x0l.length c_x0l,V00,V01,V02,V03,V04,V05,V06,V07,V08] [2,3,7] g (.cell (b.bx 1 0 rfl rfl) (.cell (b.bx 1 1 rfl rfl) (.cell (b.bx 1 2 rfl rfl) (.cell (b.bx 1 3 rfl rfl) (.cell (b.bx 1 4 rfl rfl) (.cell (b.bx 1 5 rfl rfl) (.cell (b.bx 1 6 rfl rfl) (.cell (b.bx 1 7 rfl rfl) (.cell (b.bx 1 8 rfl rfl) (.cell (b.bx 1 9 rfl rfl) .nil)))))))))) fun q j=>?_))))))
 obtain ⟨d,c,t⟩:=bind_some hr
 refine c_call j (f80_ok fuel x0l x0h d c h _ _ b o_x0l c_x0l hx_x0l V00 V01 V02 V03 V04 V05 V06 V07 V08 (Ty.mono _ zr hx_x0h)) ?_
 rintro f g j ⟨l,E,rfl,b⟩ c
 refine tv ?_
 refine c_t [] [2,3,9] c .nil fun c f=>?_
 refine c_if (d != (0:Int)) f (fun d=>?_) (fun d=>?_)
 ·have k:=cond_t d t
  refine c_sq [] [4] f .nil fun g c=>?_
  refine c_ret (r_then (c_rt [] (vI 62) c .nil ?_))
  obtain rfl:=some_eq k
  exact ⟨_,rfl,l,E,rfl,(St.drop 2 b)⟩
 ·have k:=cond_f d t
  refine c_skip (n_then (c_seq (c_sr (c_n 2 [.slice o_x0l x0l.length c_x0l,V00,V01,V02,V03,V04,V05,V06,V07,V08,vI x1k,vI x1o,vI x1f,vI x1t,vI x1m] [2,3,10,11] f (.cell (b.bx 1 0 rfl rfl) (.cell (b.bx 1 1 rfl rfl) (.cell (b.bx 1 2 rfl rfl) (.cell (b.bx 1 3 rfl rfl) (.cell (b.bx 1 4 rfl rfl) (.cell (b.bx 1 5 rfl rfl) (.cell (b.bx 1 6 rfl rfl) (.cell (b.bx 1 7 rfl rfl) (.cell (b.bx 1 8 rfl rfl) (.cell (b.bx 1 9 rfl rfl) (.cell (b.bx 0 0 rfl rfl) (.cell (b.bx 0 1 rfl rfl) (.cell (b.bx 0 2 rfl rfl) (.cell (b.bx 0 3 rfl rfl) (.cell (b.bx 0 4 rfl rfl) .nil))))))))))))))) fun c d=>?_))))
  obtain ⟨f,c,t⟩:=bind_some k
  refine c_call d (f81_ok fuel x0l x0h x1k x1o x1f x1t x1m f c l _ _ b o_x0l c_x0l (SliceR.mono E hx_x0l) V00 V01 V02 V03 V04 V05 V06 V07 V08 (Ty.mono _ E hx_x0h)) ?_
  rintro c d g ⟨l,J,rfl,j⟩ b
  refine tv ?_
  refine c_t [] [2,3,13] b .nil fun b g=>?_
  refine c_if (!f) g (fun c=>?_) (fun c=>?_)
  ·have k:=cond_t c t
   refine c_sq [] [4] g .nil fun d b=>?_
   refine c_ret (r_then (c_rt [] (vI 61) b .nil ?_))
   obtain rfl:=some_eq k
   exact ⟨_,rfl,l,(zt E J),rfl,(St.drop 2 j)⟩
  ·have t:=cond_f c t
   refine c_skip (n_then (c_mid (fun a w=>∃y:Zone,∃m:Bool,Zone.le l y∧Fr a 91 [(2,pB z 0),(3,pB A 0),(5, .bool m)]∧St y (box A [vI x1k,vI x1o,vI x1f,vI x1t,vI x1m] 74::box z [.slice o_x0l x0l.length c_x0l,V00,V01,V02,V03,V04,V05,V06,V07,V08] 29::L) w∧(F54_j1 fuel x0h x1k x1f x1t x1m m)=some r) ?_ ?_))
   ·skip
    refine c_reg (c_n 4 [vI x1k] [2,3,17] g (.cell (j.bx 0 0 rfl rfl) .nil) fun b f=>?_)
    rcases bft (x1k == (3:Int)) with b | b
    ·have k:=cond_t b t
     have c:=f.lit 17 b
     refine c_t [] [2,3,5] c .nil fun d c=>?_
     exact ⟨l,true,zr,c.to,j,k⟩
    ·have t:=cond_f b t
     have b:=f.lit 17 b
     refine c_n 5 [vI x1k] [2,3,22] b (.cell (j.bx 0 0 rfl rfl) .nil) fun b f=>?_
     rcases bft (x1k == (4:Int)) with b | b
     ·have k:=cond_t b t
      have c:=f.lit 22 b
      refine c_t [] [2,3,5] c .nil fun d c=>?_
      exact ⟨l,true,zr,c.to,j,k⟩
     ·have k:=cond_f b t
      have b:=f.lit 22 b
      refine c_t [vI x1k] [2,3,5] b (.cell (j.bx 0 0 rfl rfl) .nil) fun c b=>?_
      exact ⟨l,(x1k == (5:Int)),zr,b.to,j,k⟩
   ·rintro b c ⟨y,m,I,f,d,t⟩
    refine c_seq (c_mid (fun a w=>∃u:Zone,∃p:Bool,Zone.le y u∧Fr a 91 [(2,pB z 0),(3,pB A 0),(38, .bool p)]∧St u (box A [vI x1k,vI x1o,vI x1f,vI x1t,vI x1m] 74::box z [.slice o_x0l x0l.length c_x0l,V00,V01,V02,V03,V04,V05,V06,V07,V08] 29::L) w∧(F54_j2 fuel x0h x1k x1f x1t x1m p)=some r) ?_ ?_)
    ·skip
     have q:=d.drew
     have o:=Sub.of zr q
     refine c_regD (rD 12 [9]) [] _ o ?_
     refine c_S 2 [] [2,3,28] o f (fun _ s=> .nil) .nil fun b x=>?_
     rcases bft m with l | l
     ·have k:=cond_t l t
      have j:=x.lit 28 l
      obtain ⟨g,b,k⟩:=bind_some k
      obtain ⟨b,_,f,c,d,hehv475,n⟩:=arrGet (Ty.mono _ (zt (zt E J) I) hx_x0h) rfl b
      obtain rfl:=List.head_eq_of_cons_eq hehv475
      refine c_S 7 [vI x1m,vI x1f, .slice c g.length d] [2,3,28,30,35] o j (fun _ s=>(.cell (s.bx 0 4 rfl rfl) (.cell (s.bx 0 2 rfl rfl) (.prop b (.cell ((arrAddr z 1 x1f.toNat) ▸ (s.box (i:=1) rfl (getElem?_app_right [.slice o_x0l x0l.length c_x0l] _ _ f []))) .nil))))) .nil fun b f=>?_
      obtain ⟨m,b,k⟩:=bind_some k
      refine c_call f (f69_ok fuel g m b y _ _ q c d n) ?_
      rintro d f g ⟨n,b,rfl,c⟩ j
      refine ⟨fun _=>Sub.of b c,?_⟩
      have d:=Sub.of b c
      refine c_S 2 [] [2,3,38] d j (fun _ s=> .nil) .nil fun f d=>?_
      refine c_dt ?_
      exact ⟨n,(decide (x1m > m)),b,d.to,c,k⟩
     ·have k:=cond_f l t
      have b:=x.lit 28 l
      refine c_S 10 [] [2,3,38] o b (fun _ s=> .nil) .nil fun c b=>?_
      refine c_dt ?_
      exact ⟨y,false,zr,b.to,q,k⟩
    ·rintro b c ⟨u,p,F,f,n,t⟩
     refine c_if p f (fun c=>?_) (fun c=>?_)
     ·have k:=cond_t c t
      refine c_sq [] [4] f .nil fun d b=>?_
      refine c_ret (r_then (c_rt [] (vI 63) b .nil ?_))
      obtain rfl:=some_eq k
      exact ⟨_,rfl,u,(zt (zt (zt E J) I) F),rfl,(St.drop 2 n)⟩
     ·have t:=cond_f c t
      refine c_skip (n_then (c_seq (c_mid (fun a w=>∃q:Zone,∃o:Bool,Zone.le u q∧Fr a 91 [(2,pB z 0),(3,pB A 0),(50, .bool o)]∧St q (box A [vI x1k,vI x1o,vI x1f,vI x1t,vI x1m] 74::box z [.slice o_x0l x0l.length c_x0l,V00,V01,V02,V03,V04,V05,V06,V07,V08] 29::L) w∧(F54_j3 fuel x0h x1k x1t x1m o)=some r) ?_ ?_)))
      ·skip
       refine c_reg (c_n 4 [vI x1k] [2,3,42] f (.cell (n.bx 0 0 rfl rfl) .nil) fun b p=>?_)
       rcases bft (x1k == (6:Int)) with b | b
       ·have k:=cond_t b t
        have m:=p.lit 42 b
        obtain ⟨d,c,k⟩:=bind_some k
        obtain ⟨c,_,f,g,j,hehv663,l⟩:=arrGet (Ty.mono _ (zt (zt (zt E J) I) F) hx_x0h) rfl c
        obtain rfl:=List.head_eq_of_cons_eq hehv663
        refine c_t [vI x1f, .slice g d.length j] [2,3,50] m (.cell (n.bx 0 2 rfl rfl) (.prop c (.cell ((arrAddr z 1 x1f.toNat) ▸ (n.box (i:=1) rfl (getElem?_app_right [.slice o_x0l x0l.length c_x0l] _ _ f []))) .nil))) fun f c=>?_
        exact ⟨u,(decide ((d.length:Int)<(2:Int))),zr,c.to,n,k⟩
       ·have k:=cond_f b t
        have b:=p.lit 42 b
        refine c_t [] [2,3,50] b .nil fun c b=>?_
        exact ⟨u,false,zr,b.to,n,k⟩
      ·rintro b c ⟨q,o,G,f,g,t⟩
       refine c_if o f (fun c=>?_) (fun c=>?_)
       ·have k:=cond_t c t
        refine c_sq [] [4] f .nil fun d b=>?_
        refine c_ret (r_then (c_rt [] (vI 3) b .nil ?_))
        obtain rfl:=some_eq k
        exact ⟨_,rfl,q,(zt (zt (zt (zt E J) I) F) G),rfl,(St.drop 2 g)⟩
       ·have t:=cond_f c t
        refine c_skip (n_then (c_mid (fun a w=>∃u:Zone,∃y:Bool,Zone.le q u∧Fr a 91 [(2,pB z 0),(3,pB A 0),(6, .bool y)]∧St u (box A [vI x1k,vI x1o,vI x1f,vI x1t,vI x1m] 74::box z [.slice o_x0l x0l.length c_x0l,V00,V01,V02,V03,V04,V05,V06,V07,V08] 29::L) w∧(F54_j4 fuel x0h x1k x1t x1m y)=some r) ?_ ?_))
        ·skip
         refine c_reg (c_n 4 [vI x1k] [2,3,54] f (.cell (g.bx 0 0 rfl rfl) .nil) fun b f=>?_)
         rcases bft (x1k == (1:Int)) with b | b
         ·have k:=cond_t b t
          have c:=f.lit 54 b
          refine c_t [] [2,3,6] c .nil fun d c=>?_
          exact ⟨q,true,zr,c.to,g,k⟩
         ·have t:=cond_f b t
          have b:=f.lit 54 b
          refine c_n 5 [vI x1k] [2,3,59] b (.cell (g.bx 0 0 rfl rfl) .nil) fun b f=>?_
          rcases bft (x1k == (2:Int)) with b | b
          ·have k:=cond_t b t
           have c:=f.lit 59 b
           refine c_t [] [2,3,6] c .nil fun d c=>?_
           exact ⟨q,true,zr,c.to,g,k⟩
          ·have k:=cond_f b t
           have b:=f.lit 59 b
           refine c_t [vI x1k] [2,3,6] b (.cell (g.bx 0 0 rfl rfl) .nil) fun c b=>?_
           exact ⟨q,(x1k == (4:Int)),zr,b.to,g,k⟩
        ·rintro b c ⟨u,y,C,f,d,H⟩
         refine c_seq (c_mid (fun a w=>∃B:Zone,∃D:Bool,Zone.le u B∧Fr a 91 [(90, .bool D)]∧St B (box A [vI x1k,vI x1o,vI x1f,vI x1t,vI x1m] 74::box z [.slice o_x0l x0l.length c_x0l,V00,V01,V02,V03,V04,V05,V06,V07,V08] 29::L) w∧(F54_j5 D)=some r) ?_ ?_)
         ·skip
          have x:=d.drew
          have o:=Sub.of zr x
          refine c_regD [(0,true),(1,true),(2,true),(3,true),(4,true),(5,true),(6,true),(7,true),(8,true),(9,true),(10,true),(11,true),(12,true),(13,true),(14,true),(15,true),(16,true),(17,true),(18,true),(19,true),(21,true),(22,true),(20,false),(23,true),(24,true),(25,true),(26,true)] [] _ o ?_
          refine c_S 4 [vI x1k] [2,3,6,67] o f (fun _ s=>(.cell (s.bx 0 0 rfl rfl) .nil)) .nil fun b A=>?_
          rcases bft (x1k == (2:Int)) with p | p
          ·have k:=cond_t p H
           have l:=A.lit 67 p
           obtain ⟨c,b,t⟩:=bind_some k
           obtain ⟨b,_,d,f,g,hehv1436,j⟩:=arrGet (Ty.mono _ (zt (zt (zt (zt (zt E J) I) F) G) C) hx_x0h) rfl b
           obtain rfl:=List.head_eq_of_cons_eq hehv1436
           refine c_S 9 [vI x1t, .slice f c.length g] [2,3,6,76] o l (fun _ s=>(.cell (s.bx 0 3 rfl rfl) (.prop b (.cell ((arrAddr z 1 x1t.toNat) ▸ (s.box (i:=1) rfl (getElem?_app_right [.slice o_x0l x0l.length c_x0l] _ _ d []))) .nil)))) .nil fun b f=>?_
           rcases bft ((c.length:Int) == (4:Int)) with b | b
           ·have k:=cond_t b t
            have c:=f.lit 76 b
            refine c_S 14 [] [90] o c (fun _ s=> .nil) .nil fun d c=>?_
            refine c_dt ?_
            exact ⟨u,true,zr,c.to,x,k⟩
           ·have t:=cond_f b t
            have b:=f.lit 76 b
            refine c_S 2 [] [2,3,76,78] o b (fun _ s=> .nil) .nil fun b q=>?_
            rcases bft y with l | l
            ·have k:=cond_t l t
             have j:=q.lit 78 l
             obtain ⟨g,b,k⟩:=bind_some k
             obtain ⟨b,_,f,c,d,hehv1461,n⟩:=arrGet (Ty.mono _ (zt (zt (zt (zt (zt E J) I) F) G) C) hx_x0h) rfl b
             obtain rfl:=List.head_eq_of_cons_eq hehv1461
             refine c_S 7 [vI x1t, .slice c g.length d,vI x1m] [76,78,83,86] o j (fun _ s=>(.cell (s.bx 0 3 rfl rfl) (.prop b (.cell ((arrAddr z 1 x1t.toNat) ▸ (s.box (i:=1) rfl (getElem?_app_right [.slice o_x0l x0l.length c_x0l] _ _ f []))) (.cell (s.bx 0 4 rfl rfl) .nil))))) .nil fun b f=>?_
             obtain ⟨m,b,k⟩:=bind_some k
             refine c_call f (f69_ok fuel g m b u _ _ x c d n) ?_
             rintro d f g ⟨n,b,rfl,c⟩ j
             refine ⟨fun _=>Sub.of b c,?_⟩
             have d:=Sub.of b c
             refine c_S 4 [] [90] d j (fun _ s=> .nil) .nil fun f d=>?_
             refine c_dt ?_
             exact ⟨n,(decide ((w64 (m + x1m)) > (100000000:Int))),b,d.to,c,k⟩
            ·have k:=cond_f l t
             have b:=q.lit 78 l
             refine c_S 12 [] [90] o b (fun _ s=> .nil) .nil fun c b=>?_
             refine c_dt ?_
             exact ⟨u,false,zr,b.to,x,k⟩
          ·have t:=cond_f p H
           have b:=A.lit 67 p
           refine c_S 11 [] [2,3,76,78] o b (fun _ s=> .nil) .nil fun b p=>?_
           rcases bft y with l | l
           ·have k:=cond_t l t
            have j:=p.lit 78 l
            obtain ⟨g,b,k⟩:=bind_some k
            obtain ⟨b,_,f,c,d,hehv1504,n⟩:=arrGet (Ty.mono _ (zt (zt (zt (zt (zt E J) I) F) G) C) hx_x0h) rfl b
            obtain rfl:=List.head_eq_of_cons_eq hehv1504
            refine c_S 7 [vI x1t, .slice c g.length d,vI x1m] [76,78,83,86] o j (fun _ s=>(.cell (s.bx 0 3 rfl rfl) (.prop b (.cell ((arrAddr z 1 x1t.toNat) ▸ (s.box (i:=1) rfl (getElem?_app_right [.slice o_x0l x0l.length c_x0l] _ _ f []))) (.cell (s.bx 0 4 rfl rfl) .nil))))) .nil fun b f=>?_
            obtain ⟨m,b,k⟩:=bind_some k
            refine c_call f (f69_ok fuel g m b u _ _ x c d n) ?_
            rintro d f g ⟨n,b,rfl,c⟩ j
            refine ⟨fun _=>Sub.of b c,?_⟩
            have d:=Sub.of b c
            refine c_S 4 [] [90] d j (fun _ s=> .nil) .nil fun f d=>?_
            refine c_dt ?_
            exact ⟨n,(decide ((w64 (m + x1m)) > (100000000:Int))),b,d.to,c,k⟩
           ·have k:=cond_f l t
            have b:=p.lit 78 l
            refine c_S 12 [] [90] o b (fun _ s=> .nil) .nil fun c b=>?_
            refine c_dt ?_
            exact ⟨u,false,zr,b.to,x,k⟩
         ·rintro b c ⟨B,D,g,d,j,t⟩
          refine c_if D d (fun c=>?_) (fun c=>?_)
          ·have k:=cond_t c t
           refine c_sq [] [4] d .nil fun f b=>?_
           refine c_ret (r_then (c_rt [] (vI 2) b .nil ?_))
           obtain rfl:=some_eq k
           exact ⟨_,rfl,B,(zt (zt (zt (zt (zt (zt E J) I) F) G) C) g),rfl,(St.drop 2 j)⟩
          ·have k:=cond_f c t
           refine c_skip (n_then (c_sq [] [4] d .nil fun c b=>(c_ret (c_rt [] (vI 0) b .nil ?_))))
           obtain rfl:=some_eq k
           exact ⟨_,rfl,B,(zt (zt (zt (zt (zt (zt E J) I) F) G) C) g),rfl,(St.drop 2 j)⟩
def F55_l2 (k1:(List (List (List Part)))→Int→Option (List Lot×List (List (List Part)))) (x0h:List (List (List Part))) (y1:Int):Nat→(List (List (List Part)))→Int→Option (List Lot×List (List (List Part)))
  | 0,_,_=>none
  | n1 + 1,y2,y3 =>
    let k2:(List (List (List Part)))→Int→Option (List Lot×List (List (List Part))):=F55_l2 k1 x0h y1 n1
    ((getI x0h y1).bind fun p1=>(cond (decide (y3<(p1.length:Int))) ((getI y2 y1).bind fun p2=>((getI x0h y1).bind fun p3=>((getI p3 y3).bind fun p4=>((appC ([]) p4).bind fun d1=>((appC p2 ([d1])).bind fun d2=>(k2 (y2.set (Int.toNat y1) d2) (w64 (y3 + (1:Int))))))))) (k1 y2 (w64 (y1 + (1:Int))))))
def F55_l1 (fuel:Nat) (x0h:List (List (List Part))) (d3:List Lot):Nat→(List (List (List Part)))→Int→Option (List Lot×List (List (List Part)))
  | 0,_,_=>none
  | n2 + 1,y4,y1 =>
    let k1:(List (List (List Part)))→Int→Option (List Lot×List (List (List Part))):=F55_l1 fuel x0h d3 n2
    (cond (decide (y1<(9:Int))) (F55_l2 k1 x0h y1 fuel y4 0) (some (d3,y4)))
def F55 (fuel:Nat) (x0l:List Lot) (x0h:List (List (List Part))):Option (List Lot×List (List (List Part))) :=
  ((appC ([]) x0l).bind fun d3=>(F55_l1 fuel x0h d3 fuel ([[],[],[],[],[],[],[],[],[]]) 0))
set_option maxRecDepth 100000 in
theorem f55_ok (fuel:Nat) (x0l:List Lot) (x0h:List (List (List Part))) (r:List Lot×List (List (List Part))) (hr:F55 fuel x0l x0h=some r) (h:Zone) (L:List Atom) (w:World) (hS:St h L w) (o_x0l:Option Addr) (c_x0l:Nat) (hx_x0l:SliceR LotT h o_x0l c_x0l x0l) (V00 V01 V02 V03 V04 V05 V06 V07 V08:Value) (hx_x0h:(Ty.arr 9 (Ty.slice (Ty.slice PartT))).rep h [V00,V01,V02,V03,V04,V05,V06,V07,V08] x0h) :
    Calls Tryz.prog 55 #[.agg #[.slice o_x0l x0l.length c_x0l,V00,V01,V02,V03,V04,V05,V06,V07,V08]] w fun e w'=>∃v,e= .returned v∧(∃h',∃o0:Option Addr,∃c0:Nat,∃v1_0:Value,∃v1_1:Value,∃v1_2:Value,∃v1_3:Value,∃v1_4:Value,∃v1_5:Value,∃v1_6:Value,∃v1_7:Value,∃v1_8:Value,Zone.le h h'∧v= .agg #[.slice o0 r.1.length c0,v1_0,v1_1,v1_2,v1_3,v1_4,v1_5,v1_6,v1_7,v1_8]∧St h' (ownA (Ty.slice PartT) 49 [v1_0,v1_1,v1_2,v1_3,v1_4,v1_5,v1_6,v1_7,v1_8] r.2::L) w'∧SliceR LotT h' o0 c0 r.1):=by
 refine calls_intro (N:=45) Tryz.func55 (by kernel_rfl) fun a hf=>?_
 refine c_sr (c_box [.slice o_x0l x0l.length c_x0l,V00,V01,V02,V03,V04,V05,V06,V07,V08] 29 hS hf fun b1 u x g l=>tv (c_box [N0,N0,N0,N0,N0,N0,N0,N0,N0,N0] 29 g l fun b2 y z m o=>tv (c_dt (c_sr (p_box (i:=0) (d:=(some 6)) (cs:=[]) (T:=43) (v:=fun f=> .slice (some ⟨f,0,none⟩) 0 0) m o (fun b=>by kernel_rfl) fun f A B p t=>tv ?_)))))
 have f:=p.ownBox (T:=LotT) (E:=43) (n:=0) (xs:=[]) (i:=0) rfl rfl rfl (by decide)
 refine c_n 2 [.slice o_x0l x0l.length c_x0l] [1,2,6,8] t (.cell (f.bx 2 0 rfl rfl) .nil) fun g l=>?_
 obtain ⟨K,g,q⟩:=bind_some hr
 refine p_append (T:=LotT) (i:=3) (j:=0) (d:=some 9) (o2:=o_x0l) (c2:=c_x0l) (ys:=x0l) el22 f l rfl (by kernel_rfl) (SliceR.src hx_x0l f) g fun M O l m g f=>tv ?_
 refine c_n 1 [] [1,2,10] f .nil fun l f=>?_
 refine c_box [N0,N0,N0,N0,N0,N0,N0,N0,N0,N0] 29 g f fun P l m f g=>tv ?_
 refine c_st 0 [.slice M K.length O,N0,N0,N0,N0,N0,N0,N0,N0,N0] f g rfl fun l m g f=>tv ?_
 refine c_dt (c_seq (c_sq [] [1,2,3,4] f .nil fun f m=>(c_block 0 ?_)))
 have f:=g.ownNew (Ty.slice PartT) 49 9
 have f:=f
 refine c_loop (fun n a w=>∃g:Zone,∃l:List (List (List Part)),∃x:Int,∃Q:Value,∃R:Value,∃S:Value,∃U:Value,∃V:Value,∃W:Value,∃X:Value,∃Y:Value,∃Z:Value,Zone.le h g∧Fr a 45 [(1,pB b1 0),(2,pB b2 0),(3,pB P 0),(4,vI x)]∧St g (ownA (Ty.slice PartT) 49 [Q,R,S,U,V,W,X,Y,Z] l::box P [.slice M K.length O,Q,R,S,U,V,W,X,Y,Z] 29::ownS LotT 43 M O K::box b2 [N0,N0,N0,N0,N0,N0,N0,N0,N0,N0] 29::box b1 [.slice o_x0l x0l.length c_x0l,V00,V01,V02,V03,V04,V05,V06,V07,V08] 29::L) w∧(F55_l1 fuel x0h K n l x)=some r) fuel ⟨h,[[],[],[],[],[],[],[],[],[]],0,(N0),(N0),(N0),(N0),(N0),(N0),(N0),(N0),(N0),zr,m.to,f,q⟩ ?_
 rintro f m o ⟨g,l,x,Q,R,S,U,V,W,X,Y,Z,k3,p,I,ag⟩
 cases f with
 | zero=>cases ag
 | succ n2 =>
 refine c_seq (c_sq [] [1,2,3,4,12] p .nil fun f af=>(c_if (decide (x<(9:Int))) af (fun ae=>?_) (fun ae=>?_)))
 ·have q:=cond_t ae ag
  refine c_skip (n_then (c_seq (c_block 1 (c_sq [] [1,2,3,4,5] af .nil fun m f=>(c_block 2 (c_loop (fun n a w=>∃z2:Zone,∃y2:List (List (List Part)),∃y3:Int,∃a1:Value,∃a2:Value,∃a3:Value,∃a4:Value,∃a5:Value,∃a6:Value,∃a7:Value,∃a8:Value,∃a9:Value,Zone.le g z2∧Fr a 45 [(1,pB b1 0),(2,pB b2 0),(3,pB P 0),(4,vI x),(5,vI y3)]∧St z2 (ownA (Ty.slice PartT) 49 [a1,a2,a3,a4,a5,a6,a7,a8,a9] y2::box P [.slice M K.length O,a1,a2,a3,a4,a5,a6,a7,a8,a9] 29::ownS LotT 43 M O K::box b2 [N0,N0,N0,N0,N0,N0,N0,N0,N0,N0] 29::box b1 [.slice o_x0l x0l.length c_x0l,V00,V01,V02,V03,V04,V05,V06,V07,V08] 29::L) w∧(F55_l2 (F55_l1 fuel x0h K n2) x0h x n y2 y3)=some r) fuel ⟨g,l,0,Q,R,S,U,V,W,X,Y,Z,zr,f.to,I,q⟩ ?_))))))
  rintro f g l ⟨z2,y2,y3,a1,a2,a3,a4,a5,a6,a7,a8,a9,k4,t,ad,q⟩
  cases f with
  | zero=>cases q
  | succ n1 =>
  refine c_seq ?_
  obtain ⟨g,f,ah⟩:=bind_some q
  obtain ⟨f,_,l,m,o,hehv20961,p⟩:=arrGet (Ty.mono _ (zt k3 k4) hx_x0h) rfl f
  obtain rfl:=List.head_eq_of_cons_eq hehv20961
  refine c_sq [.slice m g.length o] [1,2,3,4,5,21] t (.prop f (.cell ((arrAddr b1 1 x.toNat) ▸ (ad.box (i:=4) rfl (getElem?_app_right [.slice o_x0l x0l.length c_x0l] _ _ l []))) .nil)) fun f ab=>?_
  refine c_if (decide (y3<(g.length:Int))) ab (fun aa=>?_) (fun aa=>?_)
  ·have q:=cond_t aa ah
   refine c_skip (n_then (c_seq (c_block 3 ?_)))
   obtain ⟨p2,ac,q⟩:=bind_some q
   obtain ⟨J,q3,a0,H,f⟩:=ad.ownOpen (j:=0) rfl ac
   have D:=f.drew
   have u:=Sub.of zr D
   refine c_regD [(0,true),(1,true),(2,true),(3,true),(4,true),(6,true),(7,true),(8,true),(9,true),(10,true),(11,true),(12,true),(13,true),(18,true),(5,false),(14,false),(15,true),(16,false),(17,false),(19,true),(20,false)] [17,20] _ u ?_
   obtain ⟨F,f,q⟩:=bind_some q
   obtain ⟨z,_,A,B,C,hehv21090,g⟩:=arrGet (Ty.mono _ (zt k3 k4) hx_x0h) rfl f
   obtain rfl:=List.head_eq_of_cons_eq hehv21090
   obtain ⟨y,f,q⟩:=bind_some q
   obtain ⟨g,l,m,p,f,o⟩:=SliceR.getI g f
   obtain ⟨p,t,rfl,G⟩:=f
   refine c_S 14 [.slice J p2.length q3, .slice B F.length C, .pointer (some g), .slice p y.length t] [1,2,3,4,5,24,28,37,42] u ab (fun _ s=>(.prop H (.cell ((arrAddr P 1 (Int.toNat x)) ▸ (s.box (i:=2) rfl (getElem?_app_right [.slice M K.length O] _ _ a0 []))) (.prop z (.cell ((arrAddr b1 1 x.toNat) ▸ (s.box (i:=5) rfl (getElem?_app_right [.slice o_x0l x0l.length c_x0l] _ _ A []))) (.prop l (.prop m (.cell (s.cell (o 0 _ rfl)) .nil)))))))) .nil fun f g=>?_
   refine p_box (i:=5) (d:=(some 29)) (cs:=[]) (T:=53) (v:=fun f=> .slice (some ⟨f,0,none⟩) 0 0) D g (fun b=>by kernel_rfl) fun f l m g o=>⟨fun _=>Sub.of zr (St.drop 1 g),?_⟩
   have f:=g.ownBox (T:=PartT) (E:=53) (n:=0) (xs:=[]) (i:=0) rfl rfl rfl (by decide)
   have g:=Sub.of zr (St.drop 1 f)
   obtain ⟨m,g,q⟩:=bind_some q
   refine p_append (T:=PartT) (i:=14) (j:=0) (d:=some 38) (o2:=p) (c2:=t) (ys:=y) el47 f o rfl (by kernel_rfl) (SliceR.src G f) g fun p t g o f l=>⟨fun _=>Sub.of zr (St.drop 1 f),?_⟩
   have g:=Sub.of zr (St.drop 1 f)
   refine c_S 1 [] [1,2,3,4,5,24,28,39,42] g l (fun _ s=> .nil) .nil fun g l=>?_
   obtain ⟨z3,J,f,o⟩:=f.share (j:=0) rfl
   refine p_box (i:=16) (d:=(some 40)) (cs:=[.slice p m.length t]) (T:=49) (v:=fun g=> .slice (some ⟨g,0,none⟩) 1 1) f l (fun b=>by kernel_rfl) fun g l u f y=>⟨fun _=>Sub.of J (St.drop 2 f),?_⟩
   have f:=f.ownBox (T:=(Ty.slice PartT)) (E:=49) (n:=1) (xs:=[m]) (i:=0) rfl (Rows.cons (c:=[.slice p m.length t]) (sliceRep (o)) rfl) rfl (by decide)
   have l:=Sub.of J (St.drop 2 f)
   obtain ⟨p,l,q⟩:=bind_some q
   refine p_append (T:=(Ty.slice PartT)) (i:=17) (j:=2) (d:=some 41) (o2:=(some ⟨g,0,none⟩)) (c2:=1) (ys:=([m])) el26 f y rfl (by kernel_rfl) (f.ownSrc (j:=0) rfl) l fun g l o t m f=>⟨fun e=>absurd e (by decide),?_⟩
   refine p_qP 1 [] [(1,pB b1 0),(2,pB b2 0),(3,pB P 0),(4,vI x),(5,vI y3),(41, .slice g p.length l),(43, .pointer (some ((⟨P,1,none⟩:Addr).add (Int.toNat x * 1))))] [.prop (0≤x∧x<(9:Nat))] f (by kernel_rfl) (fun _=>(.prop H .nil)) fun o f=>?_
   refine p_storeA (i:=20) (j:=4) (b:=P) (ix:=x) (pre:=[.slice M K.length O]) (vs:=[a1,a2,a3,a4,a5,a6,a7,a8,a9]) (post:=[]) (v:= .slice g p.length l) m f rfl (by have t:=H.1; have f:=H.2; simp at f ⊢; omega) (by kernel_rfl) rfl fun m u o P=>⟨fun e=>absurd e (by decide),?_⟩
   obtain ⟨u,y,z,A,B,C,D,F,G,m⟩:=nine (vs:=[a1,a2,a3,a4,a5,a6,a7,a8,a9].set (Int.toNat x) (.slice g p.length l)) (by simp)
   rw [m] at o
   have f:[u,y,z,A,B,C,D,F,G][Int.toNat x]? =some (.slice g p.length l):=by rw [← m]; exact List.getElem?_set_self (by have t:=H.1; have f:=H.2; simp at f ⊢; omega)
   have f:=o
   refine c_done ?_
   have f:=f.ownClose (j:=3) (k:=2) rfl rfl (by decide) (List.getElem?_eq_some_iff.1 (getI_spec ac).2).1
   rw [m] at f
   refine n_block (n_then (c_q [] [1,2,3,4,5] P .nil fun l g=>(n_then ?_)))
   exact ⟨n1,Nat.lt_succ_self n1,z3,(y2.set (Int.toNat x) p),(w64 (y3 + (1:Int))),u,y,z,A,B,C,D,F,G,(zt k4 J),g.to,(St.drop 3 f),q⟩
  ·have q:=cond_f aa ah
   refine c_exit 2 (x_then (x_then (x_block (n_block (n_then (c_q [] [1,2,3,4] ab .nil fun g f=>(n_then ?_)))))))
   exact ⟨n2,Nat.lt_succ_self n2,z2,y2,(w64 (x + (1:Int))),a1,a2,a3,a4,a5,a6,a7,a8,a9,(zt k3 k4),f.to,ad,q⟩
 ·have q:=cond_f ae ag
  refine c_exit 0 (x_then (x_then (x_block (n_then (c_sr (c_n 1 [.slice M K.length O,Q,R,S,U,V,W,X,Y,Z] [2,44] af (.cell (I.bx 1 0 rfl rfl) (.cell (I.bx 1 1 rfl rfl) (.cell (I.bx 1 2 rfl rfl) (.cell (I.bx 1 3 rfl rfl) (.cell (I.bx 1 4 rfl rfl) (.cell (I.bx 1 5 rfl rfl) (.cell (I.bx 1 6 rfl rfl) (.cell (I.bx 1 7 rfl rfl) (.cell (I.bx 1 8 rfl rfl) (.cell (I.bx 1 9 rfl rfl) .nil)))))))))) fun f g=>?_))))))
  have f:=I.ownOnes (j:=0) rfl
  refine p_store_eq (i:=1) (j:=3) (b:=b2) (off:=0) (vs:=[.slice M K.length O,Q,R,S,U,V,W,X,Y,Z]) (cs':=[.slice M K.length O,Q,R,S,U,V,W,X,Y,Z]) I g rfl (by kernel_rfl) f rfl fun g l f m=>tv ?_
  refine c_dt (c_ret ?_)
  obtain ⟨g,l,f,o⟩:=f.share (j:=2) rfl
  refine c_rt [.slice M K.length O,Q,R,S,U,V,W,X,Y,Z] (.agg #[.slice M K.length O,Q,R,S,U,V,W,X,Y,Z]) m (.cell (f.bx 3 0 rfl rfl) (.cell (f.bx 3 1 rfl rfl) (.cell (f.bx 3 2 rfl rfl) (.cell (f.bx 3 3 rfl rfl) (.cell (f.bx 3 4 rfl rfl) (.cell (f.bx 3 5 rfl rfl) (.cell (f.bx 3 6 rfl rfl) (.cell (f.bx 3 7 rfl rfl) (.cell (f.bx 3 8 rfl rfl) (.cell (f.bx 3 9 rfl rfl) .nil)))))))))) ?_
  obtain rfl:=some_eq q
  exact ⟨_,rfl,g,M,O,Q,R,S,U,V,W,X,Y,Z,(zt k3 l),rfl,(St.pick 5 [0] f (by kernel_rfl)),o⟩
def F59_j3 (k1:(List Part)→Int→Int→Option (List Part)) (x0:List Part) (x1:List Part) (y1:List Part) (y2:Int) (y3:Int) (y4:Bool):Option (List Part) :=
  (cond y4 ((getI x1 y3).bind fun p1=>((appC y1 ([⟨p1.lot,p1.mass⟩])).bind fun d1=>(k1 d1 y2 (w64 (y3 + (1:Int)))))) ((getI x0 y2).bind fun p2=>((getI x0 y2).bind fun p3=>((getI x1 y3).bind fun p4=>((appC y1 ([⟨p2.lot,(w64 (p3.mass + p4.mass))⟩])).bind fun d2=>(k1 d2 (w64 (y2 + (1:Int))) (w64 (y3 + (1:Int)))))))))
def F59_j2 (k1:(List Part)→Int→Int→Option (List Part)) (x0:List Part) (x1:List Part) (y1:List Part) (y2:Int) (y3:Int) (y5:Bool):Option (List Part) :=
  (cond y5 ((getI x0 y2).bind fun p5=>((appC y1 ([⟨p5.lot,p5.mass⟩])).bind fun d3=>(k1 d3 (w64 (y2 + (1:Int))) y3))) (cond (y2 == (x0.length:Int)) (F59_j3 k1 x0 x1 y1 y2 y3 true) ((getI x1 y3).bind fun p6=>((getI x0 y2).bind fun p7=>(F59_j3 k1 x0 x1 y1 y2 y3 (decide (p6.lot<p7.lot)))))))
def F59_j1 (k1:(List Part)→Int→Int→Option (List Part)) (x0:List Part) (x1:List Part) (y1:List Part) (y2:Int) (y3:Int) (y6:Bool):Option (List Part) :=
  (cond y6 (cond (y3 == (x1.length:Int)) (F59_j2 k1 x0 x1 y1 y2 y3 true) (cond (decide (y2<(x0.length:Int))) ((getI x0 y2).bind fun p8=>((getI x1 y3).bind fun p9=>(F59_j2 k1 x0 x1 y1 y2 y3 (decide (p8.lot<p9.lot))))) (F59_j2 k1 x0 x1 y1 y2 y3 false))) (some (y1)))
def F59_l1 (x0:List Part) (x1:List Part):Nat→(List Part)→Int→Int→Option (List Part)
  | 0,_,_,_=>none
  | n1 + 1,y1,y2,y3 =>
    let k1:(List Part)→Int→Int→Option (List Part):=F59_l1 x0 x1 n1
    (cond (decide (y2<(x0.length:Int))) (F59_j1 k1 x0 x1 y1 y2 y3 true) (F59_j1 k1 x0 x1 y1 y2 y3 (decide (y3<(x1.length:Int)))))
def F59 (fuel:Nat) (x0:List Part) (x1:List Part):Option (List Part) :=
  (F59_l1 x0 x1 fuel ([]) 0 0)
set_option maxRecDepth 100000 in
theorem f59_ok (fuel:Nat) (x0:List Part) (x1:List Part) (r:List Part) (hr:F59 fuel x0 x1=some r) (h:Zone) (L:List Atom) (w:World) (hS:St h L w) (o_x0:Option Addr) (c_x0:Nat) (hx_x0:SliceR PartT h o_x0 c_x0 x0) (o_x1:Option Addr) (c_x1:Nat) (hx_x1:SliceR PartT h o_x1 c_x1 x1) :
    Calls Tryz.prog 59 #[.agg #[.slice o_x0 x0.length c_x0], .agg #[.slice o_x1 x1.length c_x1]] w fun e w'=>∃v,e= .returned v∧(∃h',∃o0:Option Addr,∃c0:Nat,Zone.le h h'∧v= .agg #[.slice o0 r.length c0]∧St h' L w'∧SliceR PartT h' o0 c0 r):=by
 refine calls_intro (N:=121) Tryz.func59 (by kernel_rfl) fun a hf=>?_
 refine c_sr (c_box [.slice o_x0 x0.length c_x0] 49 hS hf fun Y z A f g=>tv (c_box [.slice o_x1 x1.length c_x1] 49 f g fun Z B C k l=>tv (c_box [N0] 49 k l fun b3 D F m o=>tv (c_dt (c_sr (c_box [N0] 49 m o fun V G H t p=>tv (c_dt (c_sq [] [2,3,4,5,6] p .nil fun I q=>(c_sq [] [2,3,4,5,6,7] q .nil fun J u=>(c_seq (c_block 0 ?_)))))))))))
 have f:=t.ownNil PartT 53
 refine c_loop (fun n a w=>∃k:Zone,∃J:List Part,∃M:Int,∃O:Int,∃Q:Option Addr,∃R:Nat,Zone.le h k∧Fr a 121 [(2,pB Y 0),(3,pB Z 0),(4,pB b3 0),(5,pB V 0),(6,vI M),(7,vI O)]∧St k (ownS PartT 53 Q R J::box V [.slice Q J.length R] 49::box b3 [N0] 49::box Z [.slice o_x1 x1.length c_x1] 49::box Y [.slice o_x0 x0.length c_x0] 49::L) w∧(F59_l1 x0 x1 n J M O)=some r) fuel ⟨h,[],0,0,none,0,zr,u.to,f,hr⟩ ?_
 rintro f g l ⟨k,J,M,O,Q,R,W,o,p,K⟩
 cases f with
 | zero=>cases K
 | succ n1 =>
 refine c_seq (c_mid (fun a w=>∃F:Zone,∃m:Bool,Zone.le k F∧Fr a 121 [(2,pB Y 0),(3,pB Z 0),(4,pB b3 0),(5,pB V 0),(6,vI M),(7,vI O),(19, .bool m)]∧St F (ownS PartT 53 Q R J::box V [.slice Q J.length R] 49::box b3 [N0] 49::box Z [.slice o_x1 x1.length c_x1] 49::box Y [.slice o_x0 x0.length c_x0] 49::L) w∧(F59_j1 (F59_l1 x0 x1 n1) x0 x1 J M O m)=some r) ?_ ?_)
 ·skip
  refine c_reg (c_n 6 [.slice o_x0 x0.length c_x0] [2,3,4,5,6,7,13] o (.cell (p.bx 4 0 rfl rfl) .nil) fun f o=>?_)
  rcases bft (decide (M<(x0.length:Int))) with f | f
  ·have y:=cond_t f K
   have g:=o.lit 13 f
   refine c_t [] [2,3,4,5,6,7,19] g .nil fun l g=>?_
   exact ⟨k,true,zr,g.to,p,y⟩
  ·have y:=cond_f f K
   have f:=o.lit 13 f
   refine c_t [.slice o_x1 x1.length c_x1] [2,3,4,5,6,7,19] f (.cell (p.bx 3 0 rfl rfl) .nil) fun g f=>?_
   exact ⟨k,(decide (O<(x1.length:Int))),zr,f.to,p,y⟩
 ·rintro f g ⟨F,m,S,a1,a2,a3⟩
  refine c_if m a1 (fun a0=>?_) (fun a0=>?_)
  ·have K:=cond_t a0 a3
   refine c_skip (n_then (c_block 1 (c_seq (c_mid (fun a w=>∃H:Zone,∃G:Bool,Zone.le F H∧Fr a 121 [(2,pB Y 0),(3,pB Z 0),(4,pB b3 0),(5,pB V 0),(6,vI M),(7,vI O),(46, .bool G)]∧St H (ownS PartT 53 Q R J::box V [.slice Q J.length R] 49::box b3 [N0] 49::box Z [.slice o_x1 x1.length c_x1] 49::box Y [.slice o_x0 x0.length c_x0] 49::L) w∧(F59_j2 (F59_l1 x0 x1 n1) x0 x1 J M O G)=some r) ?_ ?_))))
   ·skip
    have p:=a2.drew
    refine c_regD (rD 27 []) [] (fun x=>x=g.drew) rfl ?_
    refine c_E 6 [.slice o_x1 x1.length c_x1] [2,3,4,5,6,7,25] a1 (.cell (p.bx 3 0 rfl rfl) .nil) .nil fun f l=>?_
    rcases bft (O == (x1.length:Int)) with f | f
    ·have y:=cond_t f K
     have g:=l.lit 25 f
     refine c_tE [] [2,3,4,5,6,7,46] g .nil .nil fun k g=>?_
     exact ⟨F,true,zr,g.to,p,y⟩
    ·have K:=cond_f f K
     have f:=l.lit 25 f
     refine c_E 6 [.slice o_x0 x0.length c_x0] [2,3,4,5,6,7,25,31] f (.cell (p.bx 4 0 rfl rfl) .nil) .nil fun f D=>?_
     rcases bft (decide (M<(x0.length:Int))) with o | o
     ·have y:=cond_t o K
      have C:=D.lit 31 o
      obtain ⟨q,f,y⟩:=bind_some y
      obtain ⟨t,u,z,f,rfl,A⟩:=SliceR.getI (SliceR.mono (zt W S) hx_x0) f
      obtain ⟨f,g,y⟩:=bind_some y
      obtain ⟨g,k,l,B,rfl,m⟩:=SliceR.getI (SliceR.mono (zt W S) hx_x1) g
      refine c_tE [.slice o_x0 x0.length c_x0, .pointer (some t),vI q.lot, .slice o_x1 x1.length c_x1, .pointer (some g),vI f.lot] [2,3,4,5,6,7,46] C (.cell (p.bx 4 0 rfl rfl) (.prop u (.prop z (.cell (p.cell (A 0 _ rfl)) (.cell (p.bx 3 0 rfl rfl) (.prop k (.prop l (.cell (p.cell (m 0 _ rfl)) .nil)))))))) .nil fun k g=>?_
      exact ⟨F,(decide (q.lot<f.lot)),zr,g.to,p,y⟩
     ·have y:=cond_f o K
      have f:=D.lit 31 o
      refine c_tE [] [2,3,4,5,6,7,46] f .nil .nil fun g f=>?_
      exact ⟨F,false,zr,f.to,p,y⟩
   ·rintro f A ⟨H,G,P,u,z,K⟩
    refine c_if G u (fun t=>?_) (fun t=>?_)
    ·have y:=cond_t t K
     refine c_seq ?_
     have p:=z.drew
     have o:=Sub.of zr p
     refine c_regD (rD 11 [7,8,10]) [8,10] _ o ?_
     obtain ⟨f,g,y⟩:=bind_some y
     obtain ⟨k,l,m,q,rfl,g⟩:=SliceR.getI (SliceR.mono (zt (zt W S) P) hx_x0) g
     refine c_S 7 [.slice Q J.length R, .slice o_x0 x0.length c_x0, .pointer (some k),vI f.lot,vI f.mass] [2,3,4,5,6,7,48,53] o u (fun _ s=>(.cell (s.bx 1 0 rfl rfl) (.cell (s.bx 4 0 rfl rfl) (.prop l (.prop m (.cell (s.cell (g 0 _ rfl)) (.cell (s.cell (g 1 _ rfl)) .nil))))))) .nil fun k g=>?_
     refine p_box (i:=7) (d:=(some 54)) (cs:=[vI f.lot,vI f.mass]) (T:=53) (v:=fun k=> .slice (some ⟨k,0,none⟩) 1 1) p g (fun b=>by kernel_rfl) fun k l m g o=>⟨fun _=>Sub.of zr (St.drop 1 g),?_⟩
     have g:=g.ownBox (T:=PartT) (E:=53) (n:=1) (xs:=[⟨f.lot,f.mass⟩]) (i:=0) rfl (Rows.cons (c:=[vI f.lot,vI f.mass]) rfl rfl) rfl (by decide)
     have l:=Sub.of zr (St.drop 1 g)
     obtain ⟨l,m,y⟩:=bind_some y
     refine p_append (T:=PartT) (i:=8) (j:=1) (d:=some 55) (o2:=(some ⟨k,0,none⟩)) (c2:=1) (ys:=([⟨f.lot,f.mass⟩])) el47 g o rfl (by kernel_rfl) (g.ownSrc (j:=0) rfl) m fun f g o p m k=>⟨fun e=>absurd e (by decide),?_⟩
     refine p_qP 1 [] [(2,pB Y 0),(3,pB Z 0),(4,pB b3 0),(5,pB V 0),(6,vI M),(7,vI O),(55, .slice f l.length g),(56,pB V 0)] [] k (by kernel_rfl) (fun _=> .nil) fun o k=>?_
     refine c_st 2 [.slice f l.length g] m k rfl fun o p m k=>⟨fun e=>absurd e (by decide),?_⟩
     refine c_dt (c_sq [] [2,3,4,5,6,7] k .nil fun o k=>(c_exit 1 (x_then (x_block (n_then ?_)))))
     exact ⟨n1,Nat.lt_succ_self n1,H,l,(w64 (M + (1:Int))),O,f,g,(zt (zt W S) P),k.to,(St.drop 1 m),y⟩
    ·have K:=cond_f t K
     refine c_skip (n_then (c_seq (c_mid (fun a w=>∃X:Zone,∃C:Bool,Zone.le H X∧Fr a 121 [(2,pB Y 0),(3,pB Z 0),(4,pB b3 0),(5,pB V 0),(6,vI M),(7,vI O),(78, .bool C)]∧St X (ownS PartT 53 Q R J::box V [.slice Q J.length R] 49::box b3 [N0] 49::box Z [.slice o_x1 x1.length c_x1] 49::box Y [.slice o_x0 x0.length c_x0] 49::L) w∧(F59_j3 (F59_l1 x0 x1 n1) x0 x1 J M O C)=some r) ?_ ?_)))
     ·skip
      have o:=z.drew
      refine c_regD (rD 20 []) [] (fun x=>x=A.drew) rfl ?_
      refine c_E 6 [.slice o_x0 x0.length c_x0] [2,3,4,5,6,7,64] u (.cell (o.bx 4 0 rfl rfl) .nil) .nil fun f l=>?_
      rcases bft (M == (x0.length:Int)) with f | f
      ·have y:=cond_t f K
       have g:=l.lit 64 f
       refine c_tE [] [2,3,4,5,6,7,78] g .nil .nil fun k g=>?_
       exact ⟨H,true,zr,g.to,o,y⟩
      ·have y:=cond_f f K
       have B:=l.lit 64 f
       obtain ⟨p,f,y⟩:=bind_some y
       obtain ⟨q,t,u,f,rfl,z⟩:=SliceR.getI (SliceR.mono (zt (zt W S) P) hx_x1) f
       obtain ⟨f,g,y⟩:=bind_some y
       obtain ⟨g,k,l,A,rfl,m⟩:=SliceR.getI (SliceR.mono (zt (zt W S) P) hx_x0) g
       refine c_tE [.slice o_x1 x1.length c_x1, .pointer (some q),vI p.lot, .slice o_x0 x0.length c_x0, .pointer (some g),vI f.lot] [2,3,4,5,6,7,78] B (.cell (o.bx 3 0 rfl rfl) (.prop t (.prop u (.cell (o.cell (z 0 _ rfl)) (.cell (o.bx 4 0 rfl rfl) (.prop k (.prop l (.cell (o.cell (m 0 _ rfl)) .nil)))))))) .nil fun k g=>?_
       exact ⟨H,(decide (p.lot<f.lot)),zr,g.to,o,y⟩
     ·rintro f g ⟨X,C,I,U,u,K⟩
      refine c_if C U (fun t=>?_) (fun t=>?_)
      ·have y:=cond_t t K
       refine c_seq ?_
       have p:=u.drew
       have o:=Sub.of zr p
       refine c_regD (rD 11 [7,8,10]) [8,10] _ o ?_
       obtain ⟨f,g,y⟩:=bind_some y
       obtain ⟨k,l,m,q,rfl,g⟩:=SliceR.getI (SliceR.mono (zt (zt (zt W S) P) I) hx_x1) g
       refine c_S 7 [.slice Q J.length R, .slice o_x1 x1.length c_x1, .pointer (some k),vI f.lot,vI f.mass] [2,3,4,5,6,7,80,85] o U (fun _ s=>(.cell (s.bx 1 0 rfl rfl) (.cell (s.bx 3 0 rfl rfl) (.prop l (.prop m (.cell (s.cell (g 0 _ rfl)) (.cell (s.cell (g 1 _ rfl)) .nil))))))) .nil fun k g=>?_
       refine p_box (i:=7) (d:=(some 86)) (cs:=[vI f.lot,vI f.mass]) (T:=53) (v:=fun k=> .slice (some ⟨k,0,none⟩) 1 1) p g (fun b=>by kernel_rfl) fun k l m g o=>⟨fun _=>Sub.of zr (St.drop 1 g),?_⟩
       have g:=g.ownBox (T:=PartT) (E:=53) (n:=1) (xs:=[⟨f.lot,f.mass⟩]) (i:=0) rfl (Rows.cons (c:=[vI f.lot,vI f.mass]) rfl rfl) rfl (by decide)
       have l:=Sub.of zr (St.drop 1 g)
       obtain ⟨l,m,y⟩:=bind_some y
       refine p_append (T:=PartT) (i:=8) (j:=1) (d:=some 87) (o2:=(some ⟨k,0,none⟩)) (c2:=1) (ys:=([⟨f.lot,f.mass⟩])) el47 g o rfl (by kernel_rfl) (g.ownSrc (j:=0) rfl) m fun f g o p m k=>⟨fun e=>absurd e (by decide),?_⟩
       refine p_qP 1 [] [(2,pB Y 0),(3,pB Z 0),(4,pB b3 0),(5,pB V 0),(6,vI M),(7,vI O),(87, .slice f l.length g),(88,pB V 0)] [] k (by kernel_rfl) (fun _=> .nil) fun o k=>?_
       refine c_st 2 [.slice f l.length g] m k rfl fun o p m k=>⟨fun e=>absurd e (by decide),?_⟩
       refine c_dt (c_sq [] [2,3,4,5,6,7] k .nil fun o k=>(c_exit 1 (x_then (x_block (n_then ?_)))))
       exact ⟨n1,Nat.lt_succ_self n1,X,l,M,(w64 (O + (1:Int))),f,g,(zt (zt (zt W S) P) I),k.to,(St.drop 1 m),y⟩
      ·have y:=cond_f t K
       refine c_skip (n_then (c_seq ?_))
       have H:=u.drew
       have B:=Sub.of zr H
       refine c_regD (rD 26 [22,23,25]) [23,25] _ B ?_
       obtain ⟨p,f,y⟩:=bind_some y
       obtain ⟨C,D,F,f,rfl,G⟩:=SliceR.getI (SliceR.mono (zt (zt (zt W S) P) I) hx_x0) f
       obtain ⟨l,f,y⟩:=bind_some y
       obtain ⟨q,t,u,f,rfl,z⟩:=SliceR.getI (SliceR.mono (zt (zt (zt W S) P) I) hx_x0) f
       obtain ⟨g,f,y⟩:=bind_some y
       obtain ⟨f,k,m,A,rfl,o⟩:=SliceR.getI (SliceR.mono (zt (zt (zt W S) P) I) hx_x1) f
       refine c_S 22 [.slice Q J.length R, .slice o_x0 x0.length c_x0, .pointer (some C),vI p.lot, .slice o_x0 x0.length c_x0, .pointer (some q),vI l.mass, .slice o_x1 x1.length c_x1, .pointer (some f),vI g.mass] [2,3,4,5,6,7,92,112] B U (fun _ s=>(.cell (s.bx 1 0 rfl rfl) (.cell (s.bx 4 0 rfl rfl) (.prop D (.prop F (.cell (s.cell (G 0 _ rfl)) (.cell (s.bx 4 0 rfl rfl) (.prop t (.prop u (.cell (s.cell (z 1 _ rfl)) (.cell (s.bx 3 0 rfl rfl) (.prop k (.prop m (.cell (s.cell (o 1 _ rfl)) .nil)))))))))))))) .nil fun k f=>?_
       refine p_box (i:=22) (d:=(some 113)) (cs:=[vI p.lot,vI (w64 (l.mass + g.mass))]) (T:=53) (v:=fun k=> .slice (some ⟨k,0,none⟩) 1 1) H f (fun b=>by kernel_rfl) fun k m o f q=>⟨fun _=>Sub.of zr (St.drop 1 f),?_⟩
       have f:=f.ownBox (T:=PartT) (E:=53) (n:=1) (xs:=[⟨p.lot,(w64 (l.mass + g.mass))⟩]) (i:=0) rfl (Rows.cons (c:=[vI p.lot,vI (w64 (l.mass + g.mass))]) rfl rfl) rfl (by decide)
       have m:=Sub.of zr (St.drop 1 f)
       obtain ⟨m,o,y⟩:=bind_some y
       refine p_append (T:=PartT) (i:=23) (j:=1) (d:=some 114) (o2:=(some ⟨k,0,none⟩)) (c2:=1) (ys:=([⟨p.lot,(w64 (l.mass + g.mass))⟩])) el47 f q rfl (by kernel_rfl) (f.ownSrc (j:=0) rfl) o fun g k o p l f=>⟨fun e=>absurd e (by decide),?_⟩
       refine p_qP 1 [] [(2,pB Y 0),(3,pB Z 0),(4,pB b3 0),(5,pB V 0),(6,vI M),(7,vI O),(114, .slice g m.length k),(115,pB V 0)] [] f (by kernel_rfl) (fun _=> .nil) fun o f=>?_
       refine c_st 2 [.slice g m.length k] l f rfl fun l p o f=>⟨fun e=>absurd e (by decide),?_⟩
       refine c_dt (c_sq [] [2,3,4,5,6,7] f .nil fun p f=>(c_q [] [2,3,4,5,6,7] f .nil fun q l=>(n_block (n_then ?_))))
       exact ⟨n1,Nat.lt_succ_self n1,X,m,(w64 (M + (1:Int))),(w64 (O + (1:Int))),g,k,(zt (zt (zt W S) P) I),l.to,(St.drop 1 o),y⟩
  ·have y:=cond_f a0 a3
   refine c_exit 0 (x_then (x_then (x_block (n_then (c_sr (c_n 1 [.slice Q J.length R] [4,120] a1 (.cell (a2.bx 1 0 rfl rfl) .nil) fun l f=>(c_st 2 [.slice Q J.length R] a2 f rfl fun m o g k=>tv (c_dt (c_ret ?_)))))))))
   obtain ⟨g,l,f,m⟩:=g.share (j:=0) rfl
   refine c_rt [.slice Q J.length R] (.agg #[.slice Q J.length R]) k (.cell (f.bx 2 0 rfl rfl) .nil) ?_
   obtain rfl:=some_eq y
   exact ⟨_,rfl,g,Q,R,(zt (zt W S) l),rfl,(St.drop 5 f),m⟩
def F56 (fuel:Nat) (x0:List (List Part)) (x1:List Part):Option (List (List Part)) :=
  (cond ((x0.length:Int) == (0:Int)) (some ([x1])) ((subI x0 0 (w64 ((x0.length:Int) - (1:Int)))).bind fun d1=>((appC ([]) d1).bind fun d2=>((getI x0 (w64 ((x0.length:Int) - (1:Int)))).bind fun p1=>((F59 fuel p1 x1).bind fun r1=>((appC d2 ([r1])).bind fun d3=>(some (d3))))))))
set_option maxRecDepth 100000 in
theorem f56_ok (fuel:Nat) (x0:List (List Part)) (x1:List Part) (r:List (List Part)) (hr:F56 fuel x0 x1=some r) (h:Zone) (L:List Atom) (w:World) (hS:St h L w) (o_x0:Option Addr) (c_x0:Nat) (hx_x0:SliceR (Ty.slice PartT) h o_x0 c_x0 x0) (o_x1:Option Addr) (c_x1:Nat) (hx_x1:SliceR PartT h o_x1 c_x1 x1) :
    Calls Tryz.prog 56 #[.slice o_x0 x0.length c_x0, .agg #[.slice o_x1 x1.length c_x1]] w fun e w'=>∃v,e= .returned v∧(∃h',∃o0:Option Addr,∃c0:Nat,Zone.le h h'∧v= .slice o0 r.length c0∧St h' (ownS (Ty.slice PartT) 49 o0 c0 r::L) w'):=by
 refine calls_intro (N:=29) Tryz.func56 (by kernel_rfl) fun a hf=>?_
 refine c_sr (c_box [.slice o_x1 x1.length c_x1] 49 hS hf fun k l o p f=>tv (c_t [] [0,3] f .nil fun q g=>(c_seq (c_sq [] [0,3,8] g .nil fun s t=>(c_if ((x0.length:Int) == (0:Int)) t (fun m=>?_) (fun m=>?_))))))
 ·have u:=cond_t m hr
  refine c_sr (c_n 1 [.slice o_x1 x1.length c_x1] [9] t (.cell (p.bx 0 0 rfl rfl) .nil) fun o f=>(p_box (i:=1) (d:=(some 10)) (cs:=[.slice o_x1 x1.length c_x1]) (T:=49) (v:=fun g=> .slice (some ⟨g,0,none⟩) 1 1) p f (fun b=>by kernel_rfl) fun g q s k l=>tv ?_))
  have o:=k.ownBox (T:=(Ty.slice PartT)) (E:=49) (n:=1) (xs:=[x1]) (i:=0) rfl (Rows.cons (c:=[.slice o_x1 x1.length c_x1]) (sliceRep (hx_x1)) rfl) rfl (by decide)
  refine c_t [] [4] l .nil fun k f=>?_
  refine c_ret (r_then (c_rt [] (.slice (some ⟨g,0,none⟩) 1 1) f .nil ?_))
  obtain rfl:=some_eq u
  exact ⟨_,rfl,h,(some ⟨g,0,none⟩),1,zr,rfl,(St.pick 2 [0] o (by kernel_rfl))⟩
 ·have u:=cond_f m hr
  refine c_skip (n_then (c_sr (p_box (i:=0) (d:=(some 11)) (cs:=[]) (T:=49) (v:=fun f=> .slice (some ⟨f,0,none⟩) 0 0) p t (fun b=>by kernel_rfl) fun f k l g q=>tv ?_)))
  have o:=g.ownBox (T:=(Ty.slice PartT)) (E:=49) (n:=0) (xs:=[]) (i:=0) rfl rfl rfl (by decide)
  obtain ⟨m,f,u⟩:=bind_some u
  obtain ⟨f,g,k,l,p⟩:=SliceR.subV hx_x0 f
  refine c_n 5 [.slice f m.length g] [0,3,11,16] q (.prop k (.prop l .nil)) fun k l=>?_
  obtain ⟨q,k,u⟩:=bind_some u
  refine p_append (T:=(Ty.slice PartT)) (i:=6) (j:=0) (d:=some 17) (o2:=f) (c2:=g) (ys:=m) el26 o l rfl (by kernel_rfl) (SliceR.src p o) k fun g k o l m f=>tv ?_
  refine c_t [] [0,3,5] f .nil fun f t=>?_
  refine c_seq ?_
  have m:=m.drew
  refine c_regD (rD 12 [8,9,10]) [8,9,10] (fun x=>x=o.drew) rfl ?_
  obtain ⟨q,f,u⟩:=bind_some u
  obtain ⟨g,l,o,k,f,p⟩:=SliceR.getI hx_x0 f
  obtain ⟨f,k,rfl,s⟩:=f
  refine c_E 8 [.pointer (some g), .slice f q.length k, .slice o_x1 x1.length c_x1] [18,24,25] t (.prop l (.prop o (.cell (m.cell (p 0 _ rfl)) (.cell (m.bx 1 0 rfl rfl) .nil)))) .nil fun g o=>?_
  obtain ⟨g,l,u⟩:=bind_some u
  refine c_call o (f59_ok fuel q x1 g l h _ _ m f k s o_x1 c_x1 hx_x1) ?_
  rintro f p q ⟨t,k,l,y,rfl,m,s⟩ o
  refine ⟨fun e=>absurd e (by decide),?_⟩
  refine p_box (i:=9) (d:=(some 27)) (cs:=[.slice k g.length l]) (T:=49) (v:=fun f=> .slice (some ⟨f,0,none⟩) 1 1) m o (fun b=>by kernel_rfl) fun f o p m q=>⟨fun e=>absurd e (by decide),?_⟩
  have k:=m.ownBox (T:=(Ty.slice PartT)) (E:=49) (n:=1) (xs:=[g]) (i:=0) rfl (Rows.cons (c:=[.slice k g.length l]) (sliceRep (s)) rfl) rfl (by decide)
  obtain ⟨l,m,u⟩:=bind_some u
  refine p_append (T:=(Ty.slice PartT)) (i:=10) (j:=1) (d:=some 28) (o2:=(some ⟨f,0,none⟩)) (c2:=1) (ys:=([g])) el26 k q rfl (by kernel_rfl) (k.ownSrc (j:=0) rfl) m fun f g m o p k=>⟨fun e=>absurd e (by decide),?_⟩
  refine p_qP 1 [] [(4, .slice f l.length g)] [] k (by kernel_rfl) (fun _=> .nil) fun m k=>?_
  refine c_dt (c_ret (c_rt [] (.slice f l.length g) k .nil ?_))
  obtain rfl:=some_eq u
  exact ⟨_,rfl,t,f,g,y,rfl,(St.pick 3 [1] p (by kernel_rfl))⟩
def F102_l1 (x0:List Part):Nat→(List Int)→Int→Option (List Int)
  | 0,_,_=>none
  | n1 + 1,y1,y2 =>
    let k1:(List Int)→Int→Option (List Int):=F102_l1 x0 n1
    (cond (decide (y2<(x0.length:Int))) ((getI x0 y2).bind fun p1=>((appC y1 ([p1.mass])).bind fun d1=>(k1 d1 (w64 (y2 + (1:Int)))))) (some (y1)))
def F102 (fuel:Nat) (x0:List Part):Option (List Int) :=
  (F102_l1 x0 fuel ([]) 0)
set_option maxRecDepth 100000 in
theorem f102_ok (fuel:Nat) (x0:List Part) (r:List Int) (hr:F102 fuel x0=some r) (h:Zone) (L:List Atom) (w:World) (hS:St h L w) (o_x0:Option Addr) (c_x0:Nat) (hx_x0:SliceR PartT h o_x0 c_x0 x0) :
    Calls Tryz.prog 102 #[.agg #[.slice o_x0 x0.length c_x0]] w fun e w'=>∃v,e= .returned v∧(∃h',∃o0:Option Addr,∃c0:Nat,Zone.le h h'∧v= .slice o0 r.length c0∧St h' L w'∧SliceR Ty.int h' o0 c0 r):=by
 refine calls_intro (N:=22) Tryz.func102 (by kernel_rfl) fun a hf=>?_
 refine c_sr (c_box [.slice o_x0 x0.length c_x0] 49 hS hf fun l q s m f=>tv (c_t [] [1] f .nil fun t g=>(c_sq [] [1,3] g .nil fun u k=>(c_seq (c_sq [] [1,3,4] k .nil fun x o=>(c_block 0 ?_))))))
 have f:=m.ownNil Ty.int 3
 refine c_loop (fun n a w=>∃u:Zone,∃x:List Int,∃q:Int,∃A:Option Addr,∃B:Nat,Zone.le h u∧Fr a 22 [(1,pB l 0),(3, .slice A x.length B),(4,vI q)]∧St u (ownS Ty.int 3 A B x::box l [.slice o_x0 x0.length c_x0] 49::L) w∧(F102_l1 x0 n x q)=some r) fuel ⟨h,[],0,none,0,zr,o.to,f,hr⟩ ?_
 rintro f g k ⟨u,x,q,A,B,F,l,t,C⟩
 cases f with
 | zero=>cases C
 | succ D =>
 refine c_seq (c_sq [.slice o_x0 x0.length c_x0] [1,3,4,9] l (.cell (t.bx 1 0 rfl rfl) .nil) fun f z=>(c_if (decide (q<(x0.length:Int))) z (fun y=>?_) (fun y=>?_)))
 ·have p:=cond_t y C
  refine c_skip (n_then (c_seq (c_block 1 (c_reg ?_))))
  obtain ⟨f,g,p⟩:=bind_some p
  obtain ⟨g,k,l,o,rfl,m⟩:=SliceR.getI (SliceR.mono F hx_x0) g
  refine c_n 7 [.slice o_x0 x0.length c_x0, .pointer (some g),vI f.mass] [1,4,12,18] z (.cell (t.bx 1 0 rfl rfl) (.prop k (.prop l (.cell (t.cell (m 1 _ rfl)) .nil)))) fun g k=>?_
  refine p_box (i:=7) (d:=(some 19)) (cs:=[vI f.mass]) (T:=3) (v:=fun g=> .slice (some ⟨g,0,none⟩) 1 1) t k (fun b=>by kernel_rfl) fun g l m k o=>tv ?_
  have k:=k.ownBox (T:=Ty.int) (E:=3) (n:=1) (xs:=[f.mass]) (i:=0) rfl (Rows.cons (c:=[vI f.mass]) rfl rfl) rfl (by decide)
  obtain ⟨s,l,p⟩:=bind_some p
  refine p_append (T:=Ty.int) (i:=8) (j:=1) (d:=some 20) (o2:=(some ⟨g,0,none⟩)) (c2:=1) (ys:=([f.mass])) el76 k o rfl (by kernel_rfl) (k.ownSrc (j:=0) rfl) l fun g k l m o f=>tv ?_
  refine c_z [] [1,3,4] f .nil fun l f=>?_
  refine n_block (n_then (c_q [] [1,3,4] f .nil fun l f=>(n_then ?_)))
  exact ⟨D,Nat.lt_succ_self D,u,s,(w64 (q + (1:Int))),g,k,F,f.to,(St.drop 1 o),p⟩
 ·have p:=cond_f y C
  refine c_exit 0 (x_then (x_then (x_block (n_then (c_sq [] [2] z .nil fun g f=>(c_ret ?_))))))
  obtain ⟨g,k,l,m⟩:=t.share (j:=0) rfl
  refine c_rt [] (.slice A x.length B) f .nil ?_
  obtain rfl:=some_eq p
  exact ⟨_,rfl,g,A,B,(zt F k),rfl,(St.drop 2 l),m⟩
def F84_j1 (k1:Int→Int→Option (List Int)) (y1:Int) (y2:Int):Option (List Int) :=
  (k1 y2 (w64 (y1 + (1:Int))))
def F84_j2 (k1:Int→Int→Option (List Int)) (y3:Int) (y1:Int) (y4:Bool):Option (List Int) :=
  (cond y4 (F84_j1 k1 y1 y1) (F84_j1 k1 y1 y3))
def F84_l4 (k2:(List Bool)→(List Int)→Int→Option (List Int)) (x0:Int) (x1:List Int) (y5:Int) (y6:List Bool) (y7:List Int) (y8:Int):Nat→Int→Int→Option (List Int)
  | 0,_,_=>none
  | n1 + 1,y3,y1 =>
    let k1:Int→Int→Option (List Int):=F84_l4 k2 x0 x1 y5 y6 y7 y8 n1
    (cond (decide (y1<(x1.length:Int))) ((getI y6 y1).bind fun p1=>(cond (!p1) (cond (decide (y3<(0:Int))) (F84_j2 k1 y3 y1 true) ((getI x1 y1).bind fun p2=>((nz y5).bind fun _=>((getI x1 y3).bind fun p3=>((nz y5).bind fun _=>(F84_j2 k1 y3 y1 (decide ((Int.tmod (w64 (x0 * p2)) y5) > (Int.tmod (w64 (x0 * p3)) y5))))))))) (F84_j2 k1 y3 y1 false))) ((getI y6 y3).bind fun p4=>((setI y6 y3 true).bind fun d1=>((getI y7 y3).bind fun p5=>((getI y7 y3).bind fun p6=>((setI y7 y3 (w64 (p5 + (1:Int)))).bind fun d2=>(k2 d1 d2 (w64 (y8 - (1:Int))))))))))
def F84_l3 (fuel:Nat) (x0:Int) (x1:List Int) (y5:Int):Nat→(List Bool)→(List Int)→Int→Option (List Int)
  | 0,_,_,_=>none
  | n2 + 1,y6,y7,y8 =>
    let k2:(List Bool)→(List Int)→Int→Option (List Int):=F84_l3 fuel x0 x1 y5 n2
    (cond (decide (y8 > (0:Int))) (F84_l4 k2 x0 x1 y5 y6 y7 y8 fuel (-1) 0) (some (y7)))
def F84_l2 (fuel:Nat) (x0:Int) (x1:List Int) (y5:Int):Nat→(List Int)→Int→Int→Option (List Int)
  | 0,_,_,_=>none
  | n3 + 1,y9,y10,y11 =>
    let k3:(List Int)→Int→Int→Option (List Int):=F84_l2 fuel x0 x1 y5 n3
    (cond (decide (y11<(x1.length:Int))) ((getI x1 y11).bind fun p7=>((nz y5).bind fun _=>((appC y9 ([(w64 (Int.tdiv (w64 (x0 * p7)) y5))])).bind fun d3=>(k3 d3 (w64 (y10 - (w64 (Int.tdiv (w64 (x0 * p7)) y5)))) (w64 (y11 + (1:Int))))))) ((mkC (x1.length:Int) false).bind fun d4=>(F84_l3 fuel x0 x1 y5 fuel d4 y9 y10)))
def F84_l1 (fuel:Nat) (x0:Int) (x1:List Int):Nat→Int→Int→Option (List Int)
  | 0,_,_=>none
  | n4 + 1,y5,y12 =>
    let k4:Int→Int→Option (List Int):=F84_l1 fuel x0 x1 n4
    (cond (decide (y12<(x1.length:Int))) ((getI x1 y12).bind fun p8=>(k4 (w64 (y5 + p8)) (w64 (y12 + (1:Int))))) (F84_l2 fuel x0 x1 y5 fuel ([]) x0 0))
def F84 (fuel:Nat) (x0:Int) (x1:List Int):Option (List Int) :=
  (F84_l1 fuel x0 x1 fuel 0 0)
set_option maxRecDepth 100000 in
theorem f84_ok (fuel:Nat) (x0:Int) (x1:List Int) (r:List Int) (hr:F84 fuel x0 x1=some r) (h:Zone) (L:List Atom) (w:World) (hS:St h L w) (o_x1:Option Addr) (c_x1:Nat) (hx_x1:SliceR Ty.int h o_x1 c_x1 x1) :
    Calls Tryz.prog 84 #[vI x0, .slice o_x1 x1.length c_x1] w fun e w'=>∃v,e= .returned v∧(∃h',∃o0:Option Addr,∃c0:Nat,Zone.le h h'∧v= .slice o0 r.length c0∧St h' L w'∧SliceR Ty.int h' o0 c0 r):=by
 refine calls_intro (N:=100) Tryz.func84 (by kernel_rfl) fun a hf=>?_
 refine c_sq [] [0,1] hf .nil fun g f=>?_
 refine c_sq [] [0,1,5] f .nil fun g f=>?_
 refine c_seq (c_sq [] [0,1,5,6] f .nil fun g f=>(c_block 0 (c_loop (fun n a w=>∃q:Zone,∃F:Int,∃p:Int,Zone.le h q∧Fr a 100 [(0,vI x0),(1, .slice o_x1 x1.length c_x1),(5,vI F),(6,vI p)]∧St q (L) w∧(F84_l1 fuel x0 x1 n F p)=some r) fuel ⟨h,0,0,zr,f.to,hS,hr⟩ ?_)))
 rintro f g k ⟨q,F,p,k5,l,A,y⟩
 cases f with
 | zero=>cases y
 | succ z =>
 refine c_seq (c_sq [] [0,1,5,6,17] l .nil fun f t=>(c_if (decide (p<(x1.length:Int))) t (fun s=>?_) (fun s=>?_)))
 ·have m:=cond_t s y
  refine c_skip (n_then (c_seq (c_block 1 ?_)))
  obtain ⟨o,f,m⟩:=bind_some m
  obtain ⟨f,g,k,u,rfl,l⟩:=SliceR.getI (SliceR.mono k5 hx_x1) f
  refine c_q [.pointer (some f),vI o] [0,1,5,6] t (.prop g (.prop k (.cell (A.cell (l 0 _ rfl)) .nil))) fun g f=>?_
  refine n_block (n_then (c_q [] [0,1,5,6] f .nil fun g f=>(n_then ?_)))
  exact ⟨z,Nat.lt_succ_self z,q,(w64 (F + o)),(w64 (p + (1:Int))),k5,f.to,A,m⟩
 ·have m:=cond_f s y
  refine c_exit 0 (x_then (x_then (x_block (n_then (c_sq [] [0,1,5,7] t .nil fun l f=>(c_sq [] [0,1,5,7,8] f .nil fun o g=>(c_seq (c_sq [] [0,1,5,7,8,9] g .nil fun p k=>(c_block 2 ?_)))))))))
  have f:=A.ownNil Ty.int 3
  refine c_loop (fun n a w=>∃u:Zone,∃z:List Int,∃C:Int,∃t:Int,∃Q:Option Addr,∃R:Nat,Zone.le q u∧Fr a 100 [(0,vI x0),(1, .slice o_x1 x1.length c_x1),(5,vI F),(7, .slice Q z.length R),(8,vI C),(9,vI t)]∧St u (ownS Ty.int 3 Q R z::L) w∧(F84_l2 fuel x0 x1 F n z C t)=some r) fuel ⟨q,[],x0,0,none,0,zr,k.to,f,m⟩ ?_
  rintro f g k ⟨u,z,C,t,Q,R,k6,l,H,y⟩
  cases f with
  | zero=>cases y
  | succ G =>
  refine c_seq (c_sq [] [0,1,5,7,8,9,30] l .nil fun f D=>(c_if (decide (t<(x1.length:Int))) D (fun B=>?_) (fun B=>?_)))
  ·have m:=cond_t B y
   refine c_skip (n_then (c_seq (c_block 3 ?_)))
   obtain ⟨k,f,m⟩:=bind_some m
   obtain ⟨g,l,o,f,rfl,p⟩:=SliceR.getI (SliceR.mono (zt k5 k6) hx_x1) f
   obtain ⟨q,f,m⟩:=bind_some m
   refine c_sq [.pointer (some g),vI k] [0,1,5,7,8,9,10] D (.prop l (.prop o (.cell (H.cell (p 0 _ rfl)) (.prop (nz_spec f) .nil)))) fun g f=>?_
   refine c_sr (c_n 2 [] [0,1,5,8,9,10,41,42] f .nil fun o f=>(p_box (i:=2) (d:=(some 43)) (cs:=[vI (w64 (Int.tdiv (w64 (x0 * k)) F))]) (T:=3) (v:=fun g=> .slice (some ⟨g,0,none⟩) 1 1) H f (fun b=>by kernel_rfl) fun g p q l s=>tv ?_))
   have f:=l.ownBox (T:=Ty.int) (E:=3) (n:=1) (xs:=[(w64 (Int.tdiv (w64 (x0 * k)) F))]) (i:=0) rfl (Rows.cons (c:=[vI (w64 (Int.tdiv (w64 (x0 * k)) F))]) rfl rfl) rfl (by decide)
   obtain ⟨A,l,m⟩:=bind_some m
   refine p_append (T:=Ty.int) (i:=3) (j:=1) (d:=some 44) (o2:=(some ⟨g,0,none⟩)) (c2:=1) (ys:=([(w64 (Int.tdiv (w64 (x0 * k)) F))])) el76 f s rfl (by kernel_rfl) (f.ownSrc (j:=0) rfl) l fun o p g l q f=>tv ?_
   refine c_t [] [0,1,5,7,8,9,10] f .nil fun g f=>?_
   refine c_q [] [0,1,5,7,8,9] f .nil fun g f=>?_
   refine n_block (n_then (c_q [] [0,1,5,7,8,9] f .nil fun g f=>(n_then ?_)))
   exact ⟨G,Nat.lt_succ_self G,u,A,(w64 (C - (w64 (Int.tdiv (w64 (x0 * k)) F)))),(w64 (t + (1:Int))),o,p,k6,f.to,(St.drop 1 q),m⟩
  ·have m:=cond_f B y
   refine c_exit 2 (x_then (x_then (x_block (n_then (c_sr (c_n 2 [] [0,1,5,7,8,49] D .nil fun f g=>?_))))))
   obtain ⟨M,f,m⟩:=bind_some m
   refine p_make (T:=Ty.bool) (i:=2) (d:=some 50) (x0:=false) el126 H g (by kernel_rfl) rfl f fun S g l k f=>tv ?_
   refine c_t [] [0,1,5,7,8,11] f .nil fun f g=>?_
   refine c_seq (c_block 4 (c_loop (fun n a w=>∃l:Zone,∃f:List Bool,∃I:List Int,∃K:Int,Zone.le u l∧Fr a 100 [(0,vI x0),(1, .slice o_x1 x1.length c_x1),(5,vI F),(7, .slice Q I.length R),(8,vI K),(11, .slice (some S) f.length M.length)]∧St l (ownS Ty.bool 4 (some S) M.length f::ownS Ty.int 3 Q R I::L) w∧f.length=M.length∧I.length=z.length∧(F84_l3 fuel x0 x1 F n f I K)=some r) fuel ⟨u,M,z,C,zr,g.to,k,rfl,rfl,m⟩ ?_))
   rintro g k o ⟨l,f,I,K,k7,p,a7,a8,a9,a6⟩
   cases g with
   | zero=>cases a6
   | succ n2 =>
   refine c_seq (c_sq [] [0,1,5,7,8,11,52] p .nil fun g a5=>(c_if (decide (K > (0:Int))) a5 (fun a4=>?_) (fun a4=>?_)))
   ·have m:=cond_t a4 a6
    refine c_skip (n_then (c_block 5 (c_sq [] [0,1,5,7,8,11,12] a5 .nil fun o g=>(c_seq (c_sq [] [0,1,5,7,8,11,12,13] g .nil fun p k=>(c_block 6 (c_loop (fun n a w=>∃U:Zone,∃J:Int,∃G:Int,Zone.le l U∧Fr a 100 [(0,vI x0),(1, .slice o_x1 x1.length c_x1),(5,vI F),(7, .slice Q I.length R),(8,vI K),(11, .slice (some S) f.length M.length),(12,vI J),(13,vI G)]∧St U (ownS Ty.bool 4 (some S) M.length f::ownS Ty.int 3 Q R I::L) w∧(F84_l4 (F84_l3 fuel x0 x1 F n2) x0 x1 F f I K n J G)=some r) fuel ⟨l, -1,0,zr,k.to,a7,m⟩ ?_)))))))
    rintro g k o ⟨U,J,G,k8,l,a3,a1⟩
    cases g with
    | zero=>cases a1
    | succ Z =>
    refine c_seq (c_sq [] [0,1,5,7,8,11,12,13,56] l .nil fun g a2=>(c_if (decide (G<(x1.length:Int))) a2 (fun a0=>?_) (fun a0=>?_)))
    ·have m:=cond_t a0 a1
     refine c_skip (n_then (c_mid (fun a w=>∃X:Zone,∃Y:Int,Zone.le U X∧Fr a 100 [(0,vI x0),(1, .slice o_x1 x1.length c_x1),(5,vI F),(7, .slice Q I.length R),(8,vI K),(11, .slice (some S) f.length M.length),(12,vI Y),(13,vI G)]∧St X (ownS Ty.bool 4 (some S) M.length f::ownS Ty.int 3 Q R I::L) w∧(F84_j1 (F84_l4 (F84_l3 fuel x0 x1 F n2) x0 x1 F f I K Z) G Y)=some r) ?_ ?_))
     ·skip
      refine c_block 7 (c_mid (fun a w=>∃P:Zone,∃O:Bool,Zone.le U P∧Fr a 100 [(0,vI x0),(1, .slice o_x1 x1.length c_x1),(5,vI F),(7, .slice Q I.length R),(8,vI K),(11, .slice (some S) f.length M.length),(12,vI J),(13,vI G),(86, .bool O)]∧St P (ownS Ty.bool 4 (some S) M.length f::ownS Ty.int 3 Q R I::L) w∧(F84_j2 (F84_l4 (F84_l3 fuel x0 x1 F n2) x0 x1 F f I K Z) J G O)=some r) ?_ ?_)
      ·skip
       have D:=a3.drew
       refine c_regD (rD 28 []) [] (fun x=>x=o.drew) rfl ?_
       obtain ⟨f,g,W⟩:=bind_some m
       obtain ⟨g,k,l,p,rfl,o⟩:=D.ownGet (j:=0) rfl g
       refine c_E 6 [.pointer (some g), .bool f] [0,1,5,7,8,11,12,13,64] a2 (.prop k (.prop l (.cell (o 0 _ rfl) .nil))) .nil fun g V=>?_
       rcases bft (!f) with u | u
       ·have y:=cond_t u W
        have f:=V.lit 64 u
        refine c_E 3 [] [0,1,5,7,8,11,12,13,64,67] f .nil .nil fun f l=>?_
        rcases bft (decide (J<(0:Int))) with f | f
        ·have m:=cond_t f y
         have g:=l.lit 67 f
         refine c_tE [] [0,1,5,7,8,11,12,13,86] g .nil .nil fun k g=>?_
         exact ⟨U,true,zr,g.to,D,m⟩
        ·have m:=cond_f f y
         have H:=l.lit 67 f
         obtain ⟨s,f,m⟩:=bind_some m
         obtain ⟨z,A,B,f,rfl,C⟩:=SliceR.getI (SliceR.mono (zt (zt (zt k5 k6) k7) k8) hx_x1) f
         obtain ⟨f,t,m⟩:=bind_some m
         obtain ⟨g,f,m⟩:=bind_some m
         obtain ⟨k,l,o,f,rfl,p⟩:=SliceR.getI (SliceR.mono (zt (zt (zt k5 k6) k7) k8) hx_x1) f
         obtain ⟨q,f,m⟩:=bind_some m
         refine c_tE [.pointer (some z),vI s, .pointer (some k),vI g] [0,1,5,7,8,11,12,13,86] H (.prop A (.prop B (.cell (D.cell (C 0 _ rfl)) (.prop (nz_spec t) (.prop l (.prop o (.cell (D.cell (p 0 _ rfl)) (.prop (nz_spec f) .nil)))))))) .nil fun k f=>?_
         exact ⟨U,(decide ((Int.tmod (w64 (x0 * s)) F) > (Int.tmod (w64 (x0 * g)) F))),zr,f.to,D,m⟩
       ·have m:=cond_f u W
        have f:=V.lit 64 u
        refine c_tE [] [0,1,5,7,8,11,12,13,86] f .nil .nil fun g f=>?_
        exact ⟨U,false,zr,f.to,D,m⟩
      ·rintro f g ⟨P,O,o,k,p,m⟩
       refine c_if O k (fun f=>?_) (fun f=>?_)
       ·have y:=cond_t f m
        refine c_q [] [0,1,5,7,8,11,12,13] k .nil fun l g=>?_
        refine n_block (n_then ?_)
        exact ⟨P,G,o,g.to,p,y⟩
       ·have m:=cond_f f m
        refine c_skip (n_block (n_then ?_))
        exact ⟨P,J,o,k.to,p,m⟩
     ·rintro g k ⟨X,Y,l,f,o,m⟩
      refine c_q [] [0,1,5,7,8,11,12,13] f .nil fun g f=>?_
      refine n_then ?_
      exact ⟨Z,Nat.lt_succ_self Z,X,Y,(w64 (G + (1:Int))),(zt k8 l),f.to,o,m⟩
    ·have m:=cond_f a0 a1
     refine c_exit 6 (x_then (x_then (x_block (n_then (c_sr ?_)))))
     obtain ⟨g,f,m⟩:=bind_some m
     obtain ⟨g,k,f,l,rfl,o⟩:=a3.ownGet (j:=0) rfl f
     refine c_n 3 [.pointer (some g)] [0,1,5,7,8,11,12,90] a2 (.prop k (.prop f .nil)) fun f l=>?_
     obtain ⟨A,f,m⟩:=bind_some m
     have C:=setI_len f
     refine p_setOwnB (i:=3) (j:=0) (ad:=g) (ix:=J) (x':=true) a3 l rfl k (by kernel_rfl) f fun k l z f=>?_
     have B:=Fr.conv (fl':=[(0,vI x0),(1, .slice o_x1 x1.length c_x1),(5,vI F),(7, .slice Q I.length R),(8,vI K),(11, .slice (some S) A.length M.length),(12,vI J),(90, .pointer (some (g.add (Int.toNat J * 1))))]) f (by rw [C] <;> kernel_rfl)
     refine tv ?_
     refine c_dt (c_sr ?_)
     obtain ⟨o,f,m⟩:=bind_some m
     obtain ⟨l,p,q,f,rfl,s⟩:=z.ownGet (j:=1) rfl f
     obtain ⟨g,f,m⟩:=bind_some m
     obtain ⟨g,k,f,t,rfl,u⟩:=z.ownGet (j:=1) rfl f
     refine c_n 6 [.pointer (some l),vI o, .pointer (some g)] [0,1,5,7,8,11,95,96] B (.prop p (.prop q (.cell (s 0 _ rfl) (.prop k (.prop f .nil))))) fun f p=>?_
     obtain ⟨q,f,m⟩:=bind_some m
     have l:=setI_len f
     refine p_setOwnI (i:=6) (j:=1) (ad:=g) (ix:=J) (x':=(w64 (o + (1:Int)))) z p rfl k (by kernel_rfl) f fun k p s f=>?_
     have f:=Fr.conv (fl':=[(0,vI x0),(1, .slice o_x1 x1.length c_x1),(5,vI F),(7, .slice Q q.length R),(8,vI K),(11, .slice (some S) A.length M.length),(95,vI (w64 (o + (1:Int)))),(96, .pointer (some (g.add (Int.toNat J * 1))))]) f (by rw [l] <;> kernel_rfl)
     refine tv ?_
     refine c_dt (c_q [] [0,1,5,7,8,11] f .nil fun g f=>(n_block (n_then ?_)))
     exact ⟨n2,Nat.lt_succ_self n2,U,A,q,(w64 (K - (1:Int))),(zt k7 k8),f.to,s,(C.symm.trans a8),(l.symm.trans a9),m⟩
   ·have m:=cond_f a4 a6
    refine c_exit 4 (x_then (x_then (x_block (n_then (c_sq [] [4] a5 .nil fun g f=>(c_ret ?_))))))
    obtain ⟨g,k,l,o⟩:=a7.share (j:=1) rfl
    refine c_rt [] (.slice Q I.length R) f .nil ?_
    obtain rfl:=some_eq m
    exact ⟨_,rfl,g,Q,R,(zt (zt (zt k5 k6) k7) k),rfl,(St.drop 2 l),o⟩
def F83_j1 (k1:(List Part)→(List Part)→Int→Option (List Part×List Part)) (y1:Int) (y2:List Part) (y3:List Part):Option (List Part×List Part) :=
  (k1 y2 y3 (w64 (y1 + (1:Int))))
def F83_j2 (k1:(List Part)→(List Part)→Int→Option (List Part×List Part)) (r1:List Int) (y4:List Part) (y1:Int) (p1:Part) (y5:List Part):Option (List Part×List Part) :=
  ((getI r1 y1).bind fun p2=>(cond (decide (p1.mass > p2)) ((getI r1 y1).bind fun p3=>((appC y4 ([⟨p1.lot,(w64 (p1.mass - p3))⟩])).bind fun d1=>(F83_j1 k1 y1 y5 d1))) (F83_j1 k1 y1 y5 y4)))
def F83_l1 (x0:List Part) (r1:List Int):Nat→(List Part)→(List Part)→Int→Option (List Part×List Part)
  | 0,_,_,_=>none
  | n1 + 1,y6,y4,y1 =>
    let k1:(List Part)→(List Part)→Int→Option (List Part×List Part):=F83_l1 x0 r1 n1
    (cond (decide (y1<(x0.length:Int))) ((getI x0 y1).bind fun p1=>((getI r1 y1).bind fun p4=>(cond (decide (p4 > (0:Int))) ((getI r1 y1).bind fun p5=>((appC y6 ([⟨p1.lot,p5⟩])).bind fun d2=>(F83_j2 k1 r1 y4 y1 p1 d2))) (F83_j2 k1 r1 y4 y1 p1 y6)))) (some (y6,y4)))
def F83 (fuel:Nat) (x0:List Part) (x1:Int):Option (List Part×List Part) :=
  (cond (x1 == (0:Int)) ((appC ([]) x0).bind fun d3=>(some ([],d3))) ((F102 fuel x0).bind fun r2=>((F84 fuel x1 r2).bind fun r1=>(F83_l1 x0 r1 fuel ([]) ([]) 0))))
set_option maxRecDepth 100000 in
theorem f83_ok (fuel:Nat) (x0:List Part) (x1:Int) (r:List Part×List Part) (hr:F83 fuel x0 x1=some r) (h:Zone) (L:List Atom) (w:World) (hS:St h L w) (o_x0:Option Addr) (c_x0:Nat) (hx_x0:SliceR PartT h o_x0 c_x0 x0) :
    Calls Tryz.prog 83 #[.agg #[.slice o_x0 x0.length c_x0],vI x1] w fun e w'=>∃v,e= .returned v∧(∃h',∃o0:Option Addr,∃c0:Nat,∃o1:Option Addr,∃c1:Nat,Zone.le h h'∧v= .tuple #[.agg #[.slice o0 r.1.length c0], .agg #[.slice o1 r.2.length c1]]∧St h' L w'∧SliceR PartT h' o0 c0 r.1∧SliceR PartT h' o1 c1 r.2):=by
 refine calls_intro (N:=78) Tryz.func83 (by kernel_rfl) fun a hf=>?_
 refine c_sr (c_box [.slice o_x0 x0.length c_x0] 49 hS hf fun X x y f g=>tv (c_box [N0] 49 f g fun Y z A k l=>tv (c_box [N0] 49 k l fun Z B C m o=>tv (c_dt (c_sr (c_box [N0] 49 m o fun S D F p q=>tv (c_dt (c_sr (c_box [N0] 49 p q fun U G H J t=>tv (c_dt (c_seq (c_sq [] [1,2,4,5,6,7,12] t .nil fun I M=>(c_if (x1 == (0:Int)) M (fun K=>?_) (fun K=>?_))))))))))))))
 ·have u:=cond_t K hr
  refine c_sr (c_n 4 [N0, .slice o_x0 x0.length c_x0] [4,5,6,7,14,16] M (.cell (J.bx 0 0 rfl rfl) (.cell (J.bx 4 0 rfl rfl) .nil)) fun f k=>?_)
  have f:=J.ownNil PartT 53
  obtain ⟨m,g,u⟩:=bind_some u
  refine p_append (T:=PartT) (i:=4) (j:=0) (d:=some 17) (o2:=o_x0) (c2:=c_x0) (ys:=x0) el47 f k rfl (by kernel_rfl) (SliceR.src hx_x0 f) g fun k l o p g f=>tv ?_
  refine c_n 1 [] [4,5,6,7,17,18] f .nil fun o f=>?_
  refine c_st 1 [.slice k m.length l] g f rfl fun g o f p=>tv ?_
  refine c_dt (c_seq ?_)
  have g:=f.drew
  have f:=Sub.of zr (g.mask (i:=4) rfl)
  refine c_regD (rD 4 [2,3]) [3] _ f ?_
  refine c_S 2 [N0, .slice k m.length l] [4,5,19,20] f p (fun _ s=>(.cell (s.bx 2 0 rfl rfl) (.cell (s.bx 1 0 rfl rfl) .nil))) .nil fun o f=>?_
  refine c_st 4 [N0] g f rfl fun o p f g=>⟨fun _=>Sub.of zr (f.mask (i:=4) rfl),?_⟩
  have o:=Sub.of zr (f.mask (i:=4) rfl)
  refine c_st 3 [.slice k m.length l] f g rfl fun g o f p=>⟨fun e=>absurd e (by decide),?_⟩
  refine c_dt (c_ret (r_then ?_))
  obtain ⟨g,o,f,q⟩:=f.share (j:=0) rfl
  refine c_rt [N0, .slice k m.length l] (.tuple #[.agg #[N0], .agg #[.slice k m.length l]]) p (.cell (f.bx 4 0 rfl rfl) (.cell (f.bx 3 0 rfl rfl) .nil)) ?_
  obtain rfl:=some_eq u
  exact ⟨_,rfl,g,none,0,k,l,o,rfl,(St.drop 6 f),SliceR.nil' _ _,q⟩
 ·have u:=cond_f K hr
  refine c_skip (n_then (c_sr (c_n 2 [.slice o_x0 x0.length c_x0] [2,4,5,6,7,21,22] M (.cell (J.bx 4 0 rfl rfl) .nil) fun f g=>?_)))
  obtain ⟨k,f,u⟩:=bind_some u
  refine c_call g (f102_ok fuel x0 k f h _ _ J o_x0 c_x0 hx_x0) ?_
  rintro f g l ⟨m,o,p,k3,rfl,q,t⟩ x
  refine tv ?_
  obtain ⟨D,f,u⟩:=bind_some u
  refine c_call x (f84_ok fuel x1 k D f m _ _ q o p t) ?_
  rintro g k l ⟨m,e3,q3,k4,rfl,o,a0⟩ f
  refine tv ?_
  refine c_t [] [2,4,5,6,7,8] f .nil fun g f=>?_
  refine c_seq (c_sq [] [2,4,5,6,7,8,9] f .nil fun f g=>(c_block 0 ?_))
  have f:=o.ownNil PartT 53
  have f:=f.ownNil PartT 53
  refine c_loop (fun n a w=>∃y:Zone,∃J:List Part,∃C:List Part,∃B:Int,∃K:Option Addr,∃M:Nat,∃F:Option Addr,∃G:Nat,Zone.le m y∧Fr a 78 [(2,pB X 0),(4,pB Y 0),(5,pB Z 0),(6,pB S 0),(7,pB U 0),(8, .slice e3 D.length q3),(9,vI B)]∧St y (ownS PartT 53 K M J::ownS PartT 53 F G C::box U [.slice F C.length G] 49::box S [.slice K J.length M] 49::box Z [N0] 49::box Y [N0] 49::box X [.slice o_x0 x0.length c_x0] 49::L) w∧(F83_l1 x0 D n J C B)=some r) fuel ⟨m,[],[],0,none,0,none,0,zr,g.to,f,u⟩ ?_
  rintro f g k ⟨y,J,C,B,K,M,F,G,W,l,V,a2⟩
  cases f with
  | zero=>cases a2
  | succ n1 =>
  refine c_seq (c_sq [.slice o_x0 x0.length c_x0] [2,4,5,6,7,8,9,29] l (.cell (V.bx 6 0 rfl rfl) .nil) fun f a3=>(c_if (decide (B<(x0.length:Int))) a3 (fun a1=>?_) (fun a1=>?_)))
  ·have u:=cond_t a1 a2
   refine c_skip (n_then (c_mid (fun a w=>∃z5:Zone,∃y2:List Part,∃y3:List Part,∃e6:Option Addr,∃q6:Nat,∃e7:Option Addr,∃q7:Nat,Zone.le y z5∧Fr a 78 [(2,pB X 0),(4,pB Y 0),(5,pB Z 0),(6,pB S 0),(7,pB U 0),(8, .slice e3 D.length q3),(9,vI B)]∧St z5 (ownS PartT 53 e6 q6 y2::ownS PartT 53 e7 q7 y3::box U [.slice e7 y3.length q7] 49::box S [.slice e6 y2.length q6] 49::box Z [N0] 49::box Y [N0] 49::box X [.slice o_x0 x0.length c_x0] 49::L) w∧(F83_j1 (F83_l1 x0 D n1) B y2 y3)=some r) ?_ ?_))
   ·skip
    refine c_block 1 (c_sr ?_)
    obtain ⟨l,f,u⟩:=bind_some u
    obtain ⟨g,k,m,o,rfl,f⟩:=SliceR.getI (SliceR.mono (zt (zt k3 k4) W) hx_x0) f
    refine c_n 5 [.slice o_x0 x0.length c_x0, .pointer (some g),vI l.lot,vI l.mass] [2,4,5,6,7,8,9,36] a3 (.cell (V.bx 6 0 rfl rfl) (.prop k (.prop m (.cell (V.cell (f 0 _ rfl)) (.cell (V.cell (f 1 _ rfl)) .nil))))) fun g f=>?_
    refine c_box [vI 0,vI 0] 53 V f fun z k m f g=>tv ?_
    refine c_st 0 [vI l.lot,vI l.mass] f g rfl fun f g H q=>tv ?_
    refine c_dt (c_mid (fun a w=>∃P:Zone,∃I:List Part,∃Q:Option Addr,∃R:Nat,Zone.le y P∧Fr a 78 [(2,pB X 0),(4,pB Y 0),(5,pB Z 0),(6,pB S 0),(7,pB U 0),(8, .slice e3 D.length q3),(9,vI B),(10,pB z 0)]∧St P (box z [vI l.lot,vI l.mass] 53::ownS PartT 53 Q R I::ownS PartT 53 F G C::box U [.slice F C.length G] 49::box S [.slice Q I.length R] 49::box Z [N0] 49::box Y [N0] 49::box X [.slice o_x0 x0.length c_x0] 49::L) w∧(F83_j2 (F83_l1 x0 D n1) D C B l I)=some r) ?_ ?_)
    ·skip
     obtain ⟨f,g,O⟩:=bind_some u
     obtain ⟨g,k,m,p,rfl,o⟩:=SliceR.getI (SliceR.mono W a0) g
     refine c_sq [.pointer (some g),vI f] [2,4,5,6,7,8,9,10,41] q (.prop k (.prop m (.cell (H.cell (o 0 _ rfl)) .nil))) fun g A=>?_
     refine c_if (decide (f > (0:Int))) A (fun x=>?_) (fun x=>?_)
     ·have u:=cond_t x O
      have q:=H.drew
      have p:=Sub.of zr q
      refine c_regD (rD 13 [9,10,12]) [10,12] _ p ?_
      obtain ⟨g,f,u⟩:=bind_some u
      obtain ⟨f,k,m,t,rfl,o⟩:=SliceR.getI (SliceR.mono W a0) f
      refine c_S 9 [.slice K J.length M,vI l.lot, .pointer (some f),vI g] [2,4,5,6,7,8,9,10,43,50] p A (fun _ s=>(.cell (s.bx 4 0 rfl rfl) (.cell (s.bx 0 0 rfl rfl) (.prop k (.prop m (.cell (s.cell (o 0 _ rfl)) .nil)))))) .nil fun k f=>?_
      refine p_box (i:=9) (d:=(some 51)) (cs:=[vI l.lot,vI g]) (T:=53) (v:=fun k=> .slice (some ⟨k,0,none⟩) 1 1) q f (fun b=>by kernel_rfl) fun k m o f p=>⟨fun _=>Sub.of zr (St.drop 1 f),?_⟩
      have f:=f.ownBox (T:=PartT) (E:=53) (n:=1) (xs:=[⟨l.lot,g⟩]) (i:=0) rfl (Rows.cons (c:=[vI l.lot,vI g]) rfl rfl) rfl (by decide)
      have m:=Sub.of zr (St.drop 1 f)
      obtain ⟨m,o,u⟩:=bind_some u
      refine p_append (T:=PartT) (i:=10) (j:=2) (d:=some 52) (o2:=(some ⟨k,0,none⟩)) (c2:=1) (ys:=([⟨l.lot,g⟩])) el47 f p rfl (by kernel_rfl) (f.ownSrc (j:=0) rfl) o fun f g p q o k=>⟨fun e=>absurd e (by decide),?_⟩
      refine p_qP 1 [] [(2,pB X 0),(4,pB Y 0),(5,pB Z 0),(6,pB S 0),(7,pB U 0),(8, .slice e3 D.length q3),(9,vI B),(10,pB z 0),(52, .slice f m.length g),(53,pB S 0)] [] k (by kernel_rfl) (fun _=> .nil) fun p k=>?_
      refine c_st 5 [.slice f m.length g] o k rfl fun p q k o=>⟨fun e=>absurd e (by decide),?_⟩
      refine c_dt ?_
      exact ⟨y,m,f,g,zr,o.to,(St.drop 1 k),u⟩
     ·have u:=cond_f x O
      refine c_skip (n_then ?_)
      exact ⟨y,J,K,M,zr,A.to,H,u⟩
    ·rintro g k ⟨P,I,Q,R,z,q,f,u⟩
     have y:=f.drew
     obtain ⟨f,g,O⟩:=bind_some u
     obtain ⟨g,k,m,p,rfl,o⟩:=SliceR.getI (SliceR.mono (zt W z) a0) g
     refine c_sqD [(0,true),(1,true),(2,true),(3,true),(4,true),(5,true),(6,true)] [] [vI l.mass, .pointer (some g),vI f] [2,4,5,6,7,8,9,10,60] q (.cell (y.bx 0 1 rfl rfl) (.prop k (.prop m (.cell (y.cell (o 0 _ rfl)) .nil)))) .nil fun g A=>?_
     refine c_if (decide (l.mass > f)) A (fun x=>?_) (fun x=>?_)
     ·have u:=cond_t x O
      have q:=y.drew
      have p:=Sub.of zr q
      refine c_regD (rD 16 [12,13,15]) [13,15] _ p ?_
      obtain ⟨g,f,u⟩:=bind_some u
      obtain ⟨f,k,m,t,rfl,o⟩:=SliceR.getI (SliceR.mono (zt W z) a0) f
      refine c_S 12 [.slice F C.length G,vI l.lot,vI l.mass, .pointer (some f),vI g] [2,4,5,6,7,8,9,62,72] p A (fun _ s=>(.cell (s.bx 3 0 rfl rfl) (.cell (s.bx 0 0 rfl rfl) (.cell (s.bx 0 1 rfl rfl) (.prop k (.prop m (.cell (s.cell (o 0 _ rfl)) .nil))))))) .nil fun k f=>?_
      refine p_box (i:=12) (d:=(some 73)) (cs:=[vI l.lot,vI (w64 (l.mass - g))]) (T:=53) (v:=fun k=> .slice (some ⟨k,0,none⟩) 1 1) q f (fun b=>by kernel_rfl) fun k m o f p=>⟨fun _=>Sub.of zr (St.drop 1 f),?_⟩
      have f:=f.ownBox (T:=PartT) (E:=53) (n:=1) (xs:=[⟨l.lot,(w64 (l.mass - g))⟩]) (i:=0) rfl (Rows.cons (c:=[vI l.lot,vI (w64 (l.mass - g))]) rfl rfl) rfl (by decide)
      have m:=Sub.of zr (St.drop 1 f)
      obtain ⟨m,o,u⟩:=bind_some u
      refine p_append (T:=PartT) (i:=13) (j:=3) (d:=some 74) (o2:=(some ⟨k,0,none⟩)) (c2:=1) (ys:=([⟨l.lot,(w64 (l.mass - g))⟩])) el47 f p rfl (by kernel_rfl) (f.ownSrc (j:=0) rfl) o fun f g o p l k=>⟨fun e=>absurd e (by decide),?_⟩
      refine p_qP 1 [] [(2,pB X 0),(4,pB Y 0),(5,pB Z 0),(6,pB S 0),(7,pB U 0),(8, .slice e3 D.length q3),(9,vI B),(74, .slice f m.length g),(75,pB U 0)] [] k (by kernel_rfl) (fun _=> .nil) fun o k=>?_
      refine c_st 4 [.slice f m.length g] l k rfl fun o p k l=>⟨fun e=>absurd e (by decide),?_⟩
      refine c_done (n_block (n_then ?_))
      exact ⟨P,I,m,Q,R,f,g,z,l.to,(St.drop 2 k),u⟩
     ·have u:=cond_f x O
      refine c_skip (n_block (n_then ?_))
      exact ⟨P,I,C,Q,R,F,G,z,A.to,(St.drop 1 y),u⟩
   ·rintro g k ⟨z5,y2,y3,e6,q6,e7,q7,l,f,m,u⟩
    refine c_q [] [2,4,5,6,7,8,9] f .nil fun g f=>?_
    refine n_then ?_
    exact ⟨n1,Nat.lt_succ_self n1,z5,y2,y3,(w64 (B + (1:Int))),e6,q6,e7,q7,(zt W l),f.to,m,u⟩
  ·have u:=cond_f a1 a2
   refine c_exit 0 (x_then (x_then (x_block (n_then (c_seq ?_)))))
   have g:=V.drew
   have f:=Sub.of zr (g.mask (i:=5) rfl)
   refine c_regD (rD 4 [2,3]) [3] _ f ?_
   refine c_S 2 [.slice K J.length M, .slice F C.length G] [4,5,76,77] f a3 (fun _ s=>(.cell (s.bx 3 0 rfl rfl) (.cell (s.bx 2 0 rfl rfl) .nil))) .nil fun k f=>?_
   refine c_st 5 [.slice K J.length M] g f rfl fun k l f g=>⟨fun _=>Sub.of zr (f.mask (i:=5) rfl),?_⟩
   have k:=Sub.of zr (f.mask (i:=5) rfl)
   refine c_st 4 [.slice F C.length G] f g rfl fun g k f m=>⟨fun e=>absurd e (by decide),?_⟩
   refine c_dt (c_ret ?_)
   obtain ⟨g,o,f,p⟩:=f.share (j:=0) rfl
   obtain ⟨k,g,f,l⟩:=f.share (j:=1) rfl
   refine c_rt [.slice K J.length M, .slice F C.length G] (.tuple #[.agg #[.slice K J.length M], .agg #[.slice F C.length G]]) m (.cell (f.bx 5 0 rfl rfl) (.cell (f.bx 4 0 rfl rfl) .nil)) ?_
   obtain rfl:=some_eq u
   exact ⟨_,rfl,k,K,M,F,G,(zt (zt (zt (zt k3 k4) W) o) g),rfl,(St.drop 7 f),(SliceR.mono g p),l⟩
def F57_j1 (k1:(List (List Part))→(List Part)→Int→Option (List (List Part)×List Part)) (y1:Int) (r1:Int) (r2:List Part) (y2:List (List Part)):Option (List (List Part)×List Part) :=
  (k1 y2 r2 (w64 (y1 - (if r1<y1 then r1 else y1))))
def F57_l1 (fuel:Nat):Nat→(List (List Part))→(List Part)→Int→Option (List (List Part)×List Part)
  | 0,_,_,_=>none
  | n1 + 1,y3,y4,y1 =>
    let k1:(List (List Part))→(List Part)→Int→Option (List (List Part)×List Part):=F57_l1 fuel n1
    (cond (decide (y1 > (0:Int))) ((getI y3 (w64 ((y3.length:Int) - (1:Int)))).bind fun p1=>((F82 fuel p1).bind fun r1=>((F83 fuel p1 (if r1<y1 then r1 else y1)).bind fun r3=>((F59 fuel y4 r3.1).bind fun r2=>((subI y3 0 (w64 ((y3.length:Int) - (1:Int)))).bind fun d1=>(cond (decide ((r3.2.length:Int) > (0:Int))) ((appC d1 ([r3.2])).bind fun d2=>(F57_j1 k1 y1 r1 r2 d2)) (F57_j1 k1 y1 r1 r2 d1))))))) (some (y3,y4)))
def F57 (fuel:Nat) (x0:List (List Part)) (x1:Int):Option (List (List Part)×List Part) :=
  ((appC ([]) x0).bind fun d3=>(F57_l1 fuel fuel d3 ([]) x1))
set_option maxRecDepth 100000 in
theorem f57_ok (fuel:Nat) (x0:List (List Part)) (x1:Int) (r:List (List Part)×List Part) (hr:F57 fuel x0 x1=some r) (h:Zone) (L:List Atom) (w:World) (hS:St h L w) (o_x0:Option Addr) (c_x0:Nat) (hx_x0:SliceR (Ty.slice PartT) h o_x0 c_x0 x0) :
    Calls Tryz.prog 57 #[.slice o_x0 x0.length c_x0,vI x1] w fun e w'=>∃v,e= .returned v∧(∃h',∃o0:Option Addr,∃c0:Nat,∃o1:Option Addr,∃c1:Nat,Zone.le h h'∧v= .tuple #[.slice o0 r.1.length c0, .agg #[.slice o1 r.2.length c1]]∧St h' (ownS (Ty.slice PartT) 49 o0 c0 r.1::L) w'∧SliceR PartT h' o1 c1 r.2):=by
 refine calls_intro (N:=54) Tryz.func57 (by kernel_rfl) fun a hf=>?_
 refine c_sr (c_n 1 [] [0,1] hf .nil fun q g=>(c_box [N0] 49 hS g fun b1 s t k l=>tv (c_dt (c_sr (p_box (i:=0) (d:=(some 12)) (cs:=[]) (T:=49) (v:=fun f=> .slice (some ⟨f,0,none⟩) 0 0) k l (fun b=>by kernel_rfl) fun f u y m o=>tv ?_)))))
 have f:=m.ownBox (T:=(Ty.slice PartT)) (E:=49) (n:=0) (xs:=[]) (i:=0) rfl rfl rfl (by decide)
 refine c_n 1 [] [1,5,12,13] o .nil fun g k=>?_
 obtain ⟨m,g,p⟩:=bind_some hr
 refine p_append (T:=(Ty.slice PartT)) (i:=2) (j:=0) (d:=some 14) (o2:=o_x0) (c2:=c_x0) (ys:=x0) el26 f k rfl (by kernel_rfl) (SliceR.src hx_x0 f) g fun k l o q g f=>tv ?_
 refine c_t [] [1,5,6] f .nil fun o f=>?_
 refine c_sr (c_box [N0] 49 g f fun X o q f g=>tv (c_dt (c_seq (c_block 0 (c_loop (fun n a w=>∃z1:Zone,∃y3:List (List Part),∃O:List Part,∃G:Int,∃Y:Option Addr,∃Z:Nat,∃P:Option Addr,∃Q:Nat,Zone.le h z1∧Fr a 54 [(1,vI G),(5,pB b1 0),(6, .slice Y y3.length Z),(7,pB X 0)]∧St z1 (box X [.slice P O.length Q] 49::ownS (Ty.slice PartT) 49 Y Z y3::box b1 [N0] 49::L) w∧SliceR PartT z1 P Q O∧(F57_l1 fuel n y3 O G)=some r) fuel ⟨h,m,[],x1,k,l,none,0,zr,g.to,f,SliceR.nil' _ _,p⟩ ?_)))))
 rintro f g a7 ⟨z1,y3,O,G,Y,Z,P,Q,k2,k,a5,a6,a3⟩
 cases f with
 | zero=>cases a3
 | succ n1 =>
 refine c_seq (c_sq [] [1,5,6,7,16] k .nil fun f a4=>(c_if (decide (G > (0:Int))) a4 (fun a2=>?_) (fun a2=>?_)))
 ·have p:=cond_t a2 a3
  refine c_skip (n_then (c_block 1 (c_sr ?_)))
  obtain ⟨H,f,p⟩:=bind_some p
  obtain ⟨g,k,l,o,f,m⟩:=a5.ownGet (j:=1) rfl f
  obtain ⟨t,y,rfl,q⟩:=f
  refine c_n 6 [.pointer (some g), .slice t H.length y] [1,5,6,7,22] a4 (.prop k (.prop l (.cell (m 0 _ rfl) .nil))) fun g f=>?_
  refine c_box [N0] 49 a5 f fun b4 k l f g=>tv ?_
  refine c_st 0 [.slice t H.length y] f g rfl fun k l f g=>tv ?_
  refine c_dt (c_sr (c_n 2 [.slice t H.length y] [1,5,6,7,8,23,24] g (.cell (f.bx 0 0 rfl rfl) .nil) fun g k=>?_))
  obtain ⟨J,g,p⟩:=bind_some p
  refine c_call k (f82_ok fuel H J g z1 _ _ f t y q) ?_
  rintro g k m ⟨o,k3,rfl,l⟩ f
  refine tv ?_
  refine c_t [] [1,5,6,7,8,9] f .nil fun g f=>?_
  refine c_sr (c_n 2 [.slice t H.length y] [1,5,6,7,9,28,29] f (.cell (l.bx 0 0 rfl rfl) .nil) fun f g=>?_)
  obtain ⟨k,f,p⟩:=bind_some p
  refine c_call g (f83_ok fuel H (if J<G then J else G) k f o _ _ l t y (SliceR.mono k3 q)) ?_
  rintro g l m ⟨u,q,s,A,B,k4,rfl,o,z,a0⟩ f
  refine tv ?_
  refine c_n 3 [] [1,5,6,7,9,31,32] f .nil fun g f=>?_
  refine c_box [N0] 49 o f fun W l m f g=>tv ?_
  refine c_box [N0] 49 f g fun V l m f g=>tv ?_
  refine c_st 1 [.slice q k.1.length s] f g rfl fun l m f g=>tv ?_
  refine c_st 0 [.slice A k.2.length B] f g rfl fun l m f g=>tv ?_
  refine c_dt (c_sr (c_n 2 [.slice P O.length Q, .slice q k.1.length s] [1,5,6,7,9,11,33,34] g (.cell (f.bx 3 0 rfl rfl) (.cell (f.bx 1 0 rfl rfl) .nil)) fun g l=>?_))
  obtain ⟨I,g,p⟩:=bind_some p
  refine c_call l (f59_ok fuel O k.1 I g u _ _ f P Q (SliceR.mono (zt k3 k4) a6) q s z) ?_
  rintro l m o ⟨M,S,U,k5,rfl,f,a1⟩ g
  refine tv ?_
  refine c_st 3 [.slice S I.length U] f g rfl fun f g l m=>tv ?_
  refine c_dt ?_
  obtain ⟨R,f,K⟩:=bind_some p
  obtain ⟨f,g,z⟩:=l.ownSub (j:=4) rfl f
  refine c_sq [.slice Y R.length Z] [1,5,6,7,9,11] m (.prop f (.prop g .nil)) fun f g=>?_
  refine c_mid (fun a w=>∃C:Zone,∃u:List (List Part),∃D:Option Addr,∃F:Nat,Zone.le M C∧Fr a 54 [(1,vI G),(5,pB b1 0),(6, .slice D u.length F),(7,pB X 0),(9,vI (if J<G then J else G))]∧St C (box V [.slice A k.2.length B] 49::box W [.slice q k.1.length s] 49::box b4 [.slice t H.length y] 49::box X [.slice S I.length U] 49::ownS (Ty.slice PartT) 49 D F u::box b1 [N0] 49::L) w∧(F57_j1 (F57_l1 fuel n1) G J I u)=some r) ?_ ?_
  ·skip
   refine c_sq [.slice A k.2.length B] [1,5,6,7,9,11,44] g (.cell (z.bx 0 0 rfl rfl) .nil) fun f y=>?_
   refine c_if (decide ((k.2.length:Int) > (0:Int))) y (fun m=>?_) (fun m=>?_)
   ·have p:=cond_t m K
    refine c_reg (c_n 2 [.slice A k.2.length B] [1,5,7,9,45,46] y (.cell (z.bx 0 0 rfl rfl) .nil) fun o f=>(p_box (i:=2) (d:=(some 47)) (cs:=[.slice A k.2.length B]) (T:=49) (v:=fun g=> .slice (some ⟨g,0,none⟩) 1 1) z f (fun b=>by kernel_rfl) fun g q s l t=>tv ?_))
    have f:=l.ownBox (T:=(Ty.slice PartT)) (E:=49) (n:=1) (xs:=[k.2]) (i:=0) rfl (Rows.cons (c:=[.slice A k.2.length B]) (sliceRep ((SliceR.mono k5 a0))) rfl) rfl (by decide)
    obtain ⟨o,l,p⟩:=bind_some p
    refine p_append (T:=(Ty.slice PartT)) (i:=3) (j:=5) (d:=some 48) (o2:=(some ⟨g,0,none⟩)) (c2:=1) (ys:=([k.2])) el26 f t rfl (by kernel_rfl) (f.ownSrc (j:=0) rfl) l fun g k q s l f=>tv ?_
    refine c_t [] [1,5,6,7,9] f .nil fun q f=>?_
    exact ⟨M,o,g,k,zr,f.to,(St.drop 1 l),p⟩
   ·have p:=cond_f m K
    refine c_skip (n_then ?_)
    exact ⟨M,R,Y,Z,zr,y.to,z,p⟩
  ·rintro k l ⟨C,u,D,F,f,g,m,p⟩
   refine c_q [] [1,5,6,7] g .nil fun k g=>?_
   refine n_block (n_then ?_)
   exact ⟨n1,Nat.lt_succ_self n1,C,u,I,(w64 (G - (if J<G then J else G))),D,F,S,U,(zt (zt (zt (zt k2 k3) k4) k5) f),g.to,(St.drop 3 m),(SliceR.mono f a1),p⟩
 ·have p:=cond_f a2 a3
  refine c_exit 0 (x_then (x_then (x_block (n_then (c_seq ?_)))))
  have f:=a5.drew
  refine c_regD (rD 4 [3]) [3] (fun x=>x=a7.drew) rfl ?_
  refine c_E 3 [.slice P O.length Q] [4,5,53] a4 (.cell (f.bx 0 0 rfl rfl) .nil) .nil fun k g=>?_
  refine c_st 2 [.slice P O.length Q] f g rfl fun k l f g=>⟨fun e=>absurd e (by decide),?_⟩
  refine c_dt (c_ret (c_rt [.slice P O.length Q] (.tuple #[.slice Y y3.length Z, .agg #[.slice P O.length Q]]) g (.cell (f.bx 2 0 rfl rfl) .nil) ?_))
  obtain rfl:=some_eq p
  exact ⟨_,rfl,z1,Y,Z,P,Q,k2,rfl,(St.pick 3 [1] f (by kernel_rfl)),a6⟩
end Go.Proofs.YtlmgjjmighajdaaGreat
