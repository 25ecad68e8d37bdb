/-
  A part of the walk and of the plain law of one given statement. No condition.
-/
import Derived.Test.YtlmgjjmighajdaaGreatSk
import Derived.Test.YtlmgjjmighajdaaGreatProg
set_option linter.unusedVariables false
set_option linter.unusedSimpArgs false
namespace Go.Sx
open Go.Sl
variable {α : Type} {h h' : Zone} {L : List Atom} {w : World} {T : Ty α} {E : TypeId}
theorem _root_.Go.Sl.St.ownCloseL (s:St h L w) {j k:Nat} {vs:List Value} {D:List (List α)} {n:Nat} {o:Option Addr} {cap:Nat} {d y:List α} (hj:L[j]? =some (ownH T E vs D n)) (hk:L[k]? =some (ownS T E o cap d)) (hjk:k≠j)
    (hv:vs[n]? =some (.slice o y.length cap)) (hd:D[n]? =some y) (hl:d.length=y.length):St h ((L.set j (ownA T E vs (D.set n d))).set k emp) w:=by
  have:=s.ownClose hj hk hjk (List.getElem?_eq_some_iff.1 hd).1
  rw [hl,set_same hv] at this
  exact this
theorem _root_.Go.Sl.St.ownTail (s:St h L w) {j:Nat} {o:Option Addr} {cap:Nat} {xs:List α} (hj:L[j]? =some (ownS T E o cap xs)) {lo hi:Int} {ys:List α} (e:subI xs lo hi=some ys) :
    ∃o' c',(Value.slice o' ys.length c'= .slice (subO o cap lo.toNat T.size) (hi.toNat - lo.toNat) (cap - lo.toNat))∧(0≤lo∧lo≤hi∧hi≤(cap:Int)∧xs.length≤cap)∧∀h1,SliceR T h1 o cap xs→SliceR T h1 o' c' ys:=by
  obtain ⟨⟨h0,h1,h2⟩,_⟩:=subI_spec e
  have hl:=subI_len e
  obtain ⟨_,hc,_⟩:=s.ownNilOf hj
  exact ⟨_,_,by rw [hl],⟨h0,h1,by omega,hc⟩,fun h1 s1=>s1.sub e⟩
theorem lendS {P:Program} {f:FuncId} {args:Array Value} {v:Value} (s:St h L w) {j:Nat} {o:Option Addr} {cap:Nat} {xs:List α} (hj:L[j]? =some (ownS T E o cap xs))
    (k:∀h1 L1,h.le h1→SliceR T h1 o cap xs→St h1 L1 w→Calls P f args w fun e w'=>∃u,e= .returned u∧∃h2,h1.le h2∧u=v∧St h2 L1 w') :
    Calls P f args w fun e w'=>∃u,e= .returned u∧∃h2,h.le h2∧u=v∧St h2 L w':=by
  obtain ⟨z,hz,hd,hb,hzw⟩:=s.sep
  obtain ⟨x,y,hx,dxy,e,hset⟩:=hz.focus hj
  subst e
  obtain ⟨d1,d2⟩:=Hp.apart_add.1 hd
  let h1:Zone:=⟨h.blk.add x,h.os,h.tape,h.output⟩
  have hle:h.le h1:=⟨Hp.le_add_left _ _,rfl,rfl,rfl⟩
  have hxw:x.le (fun b=>w.heap[b]?):=Hp.le_trans (Hp.le_add_left _ _) hzw
  have hyw:y.le (fun b=>w.heap[b]?):=Hp.le_trans (Hp.le_add_right dxy) hzw
  have hx1:=(ownS T E o cap xs).mono _ _ _ hle hx
  have hrep:SliceR T h1 o cap xs:=OwnP.shared hx1 (Hp.le_add_right d1)
  have s1:St h1 [rawA y] w:=⟨⟨y,⟨y,Hp.nil,rfl,rfl,Hp.apart_nil _,(Hp.add_nil y).symm⟩,Hp.add_apart.2 ⟨d2,dxy⟩,Hp.add_le hb hxw,hyw⟩,s.os,s.tape,s.output⟩
  refine (k h1 [rawA y] hle hrep s1).mono fun e w' ⟨u,he,h2,hle2,hu,s2⟩=>⟨u,he,?_⟩
  obtain ⟨z',⟨y',q,hy',hq,_,e'⟩,hd',hb',hzw'⟩:=s2.sep
  have ey:y'=y:=hy'
  have eq:q=Hp.nil:=hq
  subst ey eq
  rw [Hp.add_nil] at e'
  subst e'
  let h3:Zone:=⟨fun b=>if (x b).isSome then none else h2.blk b,h2.os,h2.tape,h2.output⟩
  have hle3:h.le h3:=by
    refine ⟨fun b o ho=>?_,hle2.os.trans hle.os,hle2.tape.trans hle.tape,hle2.output.trans hle.output⟩
    have hxb:x b=none:=by
      rcases d1 b with e | e
      · rw [e] at ho; cases ho
      · exact e
    show (if (x b).isSome then none else h2.blk b)=some o
    rw [hxb]
    exact hle2.blk _ _ (hle.blk _ _ ho)
  have hx2:x.le h2.blk:=Hp.le_trans (Hp.le_add_right d1) hle2.blk
  have h32:h3.blk.le h2.blk:=fun b o ho=>by
    have ho':(if (x b).isSome then none else h2.blk b)=some o:=ho
    split at ho'
    · cases ho'
    · exact ho'
  refine ⟨h3,hle3,hu,⟨⟨x.add z',?_,?_,?_,?_⟩,s2.os,s2.tape,s2.output⟩⟩
  · have:=hset h3 (ownS T E o cap xs) x hle3 ((ownS T E o cap xs).mono _ _ _ hle3 hx) dxy
    have e0:L.set j (ownS T E o cap xs)=L:=set_same hj
    rwa [e0] at this
  · refine Hp.apart_add.2 ⟨fun b=>?_,fun b=>?_⟩
    · cases hxb:x b with
      | none=>exact .inr rfl
      | some o=>left; show (if (x b).isSome then none else h2.blk b)=none; rw [hxb]; rfl
    · rcases hd' b with e | e
      · left; show (if (x b).isSome then none else h2.blk b)=none; split
        · rfl
        · exact e
      · exact .inr e
  · exact Hp.le_trans h32 hb'
  · exact Hp.add_le (Hp.le_trans hx2 hb') hzw'
theorem cell9 {z:Zone} {a:Addr} {i:Nat} {v:Value} (e:z.cell? (a.add i)=some v):z.cell? ((a.add (i * 1)).add 0)=some v:=by
  rw [Nat.mul_one,add_zero']; exact e
end Go.Sx
set_option linter.unusedVariables false
namespace Go.Sx
open Go.Sl
variable {h : Zone} {L : List Atom} {w : World}
abbrev N0:Value:= .slice none 0 0
theorem _root_.Go.Sl.St.bx (s:St h L w) (i j:Nat) {b:Nat} {cs:List Value} {T:TypeId} (hi:L[i]? =some (box b cs T)) {v:Value} (hj:cs[j]? =some v):w.cell? ⟨b,j,none⟩=some v:=s.box hi hj
theorem Sub.bx (s:Sub h L w) (i j:Nat) {b:Nat} {cs:List Value} {T:TypeId} (hi:L[i]? =some (Sx.box b cs T)) {v:Value} (hj:cs[j]? =some v):w.cell? ⟨b,j,none⟩=some v:=s.box hi hj
abbrev sL {α:Type} (o:Option Addr) (l:List α) (c:Nat):Value:= .slice o l.length c
theorem tv {A q:Prop} (k:q):(A→True)∧q:=⟨fun _=>trivial,k⟩
def rD (n:Nat) (l:List Nat):List (Nat×Bool):=(List.range n).map fun i=>(i, !l.contains i)
end Go.Sx
set_option linter.unusedVariables false
namespace Go.Proofs.YtlmgjjmighajdaaGreat
open Go.Sl Go.Sx
theorem el22:ElemOK Tryz.prog 22 43 4 (.agg #[.int .i64 0, .int .i64 0, .int .i64 0, .int .i64 0]):=ElemOK.of (i:=(Tryz.prog.info? 43).getD default) (by kernel_rfl) (by kernel_rfl) (by kernel_rfl) (by kernel_rfl)
theorem el23:ElemOK Tryz.prog 23 74 5 (.agg #[.int .i64 0, .int .i64 0, .int .i64 0, .int .i64 0, .int .i64 0]):=ElemOK.of (i:=(Tryz.prog.info? 74).getD default) (by kernel_rfl) (by kernel_rfl) (by kernel_rfl) (by kernel_rfl)
theorem el26:ElemOK Tryz.prog 26 49 1 (.agg #[.slice none 0 0]):=ElemOK.of (i:=(Tryz.prog.info? 49).getD default) (by kernel_rfl) (by kernel_rfl) (by kernel_rfl) (by kernel_rfl)
theorem el47:ElemOK Tryz.prog 47 53 2 (.agg #[.int .i64 0, .int .i64 0]):=ElemOK.of (i:=(Tryz.prog.info? 53).getD default) (by kernel_rfl) (by kernel_rfl) (by kernel_rfl) (by kernel_rfl)
theorem el66:ElemOK Tryz.prog 66 101 1 (.map none):=ElemOK.of (i:=(Tryz.prog.info? 101).getD default) (by kernel_rfl) (by kernel_rfl) (by kernel_rfl) (by kernel_rfl)
theorem el76:ElemOK Tryz.prog 76 3 1 (.int .i64 0):=ElemOK.of (i:=(Tryz.prog.info? 3).getD default) (by kernel_rfl) (by kernel_rfl) (by kernel_rfl) (by kernel_rfl)
theorem el81:ElemOK Tryz.prog 81 120 2 (.agg #[.int .i64 0, .int .i64 0]):=ElemOK.of (i:=(Tryz.prog.info? 120).getD default) (by kernel_rfl) (by kernel_rfl) (by kernel_rfl) (by kernel_rfl)
theorem el123:ElemOK Tryz.prog 123 129 9 (.agg #[.slice none 0 0, .slice none 0 0, .slice none 0 0, .slice none 0 0, .slice none 0 0, .slice none 0 0, .slice none 0 0, .slice none 0 0, .slice none 0 0]):=ElemOK.of (i:=(Tryz.prog.info? 129).getD default) (by kernel_rfl) (by kernel_rfl) (by kernel_rfl) (by kernel_rfl)
theorem el126:ElemOK Tryz.prog 126 4 1 (.bool false):=ElemOK.of (i:=(Tryz.prog.info? 4).getD default) (by kernel_rfl) (by kernel_rfl) (by kernel_rfl) (by kernel_rfl)
theorem mp101:MapOK Tryz.prog 101 (Value.bool false):=MapOK.of (kt:=3) (et:=4) (by kernel_rfl) (by kernel_rfl) (by kernel_rfl)
theorem mp142:MapOK Tryz.prog 142 (rowV zrow):=MapOK.of (kt:=3) (et:=141) (by kernel_rfl) (by kernel_rfl) (by kernel_rfl)
end Go.Proofs.YtlmgjjmighajdaaGreat
set_option linter.unusedVariables false
namespace Go.Proofs.YtlmgjjmighajdaaGreat
open Go.Sl Go.Sx
def F12 (fuel:Nat):Option (List Lot) :=
  (some ([⟨1,1,1,1300⟩,⟨2,2,1,1500⟩,⟨3,1,2,1000⟩]))
set_option maxRecDepth 100000 in
theorem f12_ok (fuel:Nat)  (r:List Lot) (hr:F12 fuel=some r) (h:Zone) (L:List Atom) (w:World) (hS:St h L w)  :
    Calls Tryz.prog 12 #[] w fun e w'=>∃v,e= .returned v∧(∃h',∃o0:Option Addr,∃c0:Nat,Zone.le h h'∧v= .slice o0 r.length c0∧St h' L w'∧SliceR LotT h' o0 c0 r):=by
 refine calls_intro (N:=5) Tryz.func12 (by kernel_rfl) fun a hf=>c_sq [] [] hf .nil fun g f=>c_sr (c_n 3 [] [1,2,3] f .nil fun m f=>(p_box (i:=3) (d:=(some 4)) (cs:=[vI 1,vI 1,vI 1,vI 1300,vI 2,vI 2,vI 1,vI 1500,vI 3,vI 1,vI 2,vI 1000]) (T:=43) (v:=fun g=> .slice (some ⟨g,0,none⟩) 3 3) hS f (fun b=>by kernel_rfl) fun g o p k l=>tv ?_))
 have f:=k.ownBox (T:=LotT) (E:=43) (n:=3) (xs:=[⟨1,1,1,1300⟩,⟨2,2,1,1500⟩,⟨3,1,2,1000⟩]) (i:=0) rfl (Rows.cons (c:=[vI 1,vI 1,vI 1,vI 1300]) rfl (Rows.cons (c:=[vI 2,vI 2,vI 1,vI 1500]) rfl (Rows.cons (c:=[vI 3,vI 1,vI 2,vI 1000]) rfl rfl))) rfl (by decide)
 refine c_t [] [0] l .nil fun k l=>c_ret ?_
 obtain ⟨f,k,m,o⟩:=f.share (j:=0) rfl
 refine c_rt [] (.slice (some ⟨g,0,none⟩) 3 3) l .nil ?_
 obtain rfl:=some_eq hr
 exact ⟨_,rfl,f,(some ⟨g,0,none⟩),3,k,rfl,(St.drop 1 m),o⟩
def F13 (fuel:Nat):Option (List Deed) :=
  (some ([⟨1,1,0,0,60⟩,⟨1,2,0,0,40⟩,⟨3,0,0,0,50⟩,⟨2,3,0,0,10⟩,⟨4,0,0,4,20⟩]))
set_option maxRecDepth 100000 in
theorem f13_ok (fuel:Nat)  (r:List Deed) (hr:F13 fuel=some r) (h:Zone) (L:List Atom) (w:World) (hS:St h L w)  :
    Calls Tryz.prog 13 #[] w fun e w'=>∃v,e= .returned v∧(∃h',∃o0:Option Addr,∃c0:Nat,Zone.le h h'∧v= .slice o0 r.length c0∧St h' L w'∧SliceR DeedT h' o0 c0 r):=by
 refine calls_intro (N:=7) Tryz.func13 (by kernel_rfl) fun a hf=>c_sq [] [] hf .nil fun g f=>c_sr (c_n 5 [] [1,2,3,4,5] f .nil fun m f=>(p_box (i:=5) (d:=(some 6)) (cs:=[vI 1,vI 1,vI 0,vI 0,vI 60,vI 1,vI 2,vI 0,vI 0,vI 40,vI 3,vI 0,vI 0,vI 0,vI 50,vI 2,vI 3,vI 0,vI 0,vI 10,vI 4,vI 0,vI 0,vI 4,vI 20]) (T:=74) (v:=fun g=> .slice (some ⟨g,0,none⟩) 5 5) hS f (fun b=>by kernel_rfl) fun g o p k l=>tv ?_))
 have f:=k.ownBox (T:=DeedT) (E:=74) (n:=5) (xs:=[⟨1,1,0,0,60⟩,⟨1,2,0,0,40⟩,⟨3,0,0,0,50⟩,⟨2,3,0,0,10⟩,⟨4,0,0,4,20⟩]) (i:=0) rfl (Rows.cons (c:=[vI 1,vI 1,vI 0,vI 0,vI 60]) rfl (Rows.cons (c:=[vI 1,vI 2,vI 0,vI 0,vI 40]) rfl (Rows.cons (c:=[vI 3,vI 0,vI 0,vI 0,vI 50]) rfl (Rows.cons (c:=[vI 2,vI 3,vI 0,vI 0,vI 10]) rfl (Rows.cons (c:=[vI 4,vI 0,vI 0,vI 4,vI 20]) rfl rfl))))) rfl (by decide)
 refine c_t [] [0] l .nil fun k l=>c_ret ?_
 obtain ⟨f,k,m,o⟩:=f.share (j:=0) rfl
 refine c_rt [] (.slice (some ⟨g,0,none⟩) 5 5) l .nil ?_
 obtain rfl:=some_eq hr
 exact ⟨_,rfl,f,(some ⟨g,0,none⟩),5,k,rfl,(St.drop 1 m),o⟩
def F48_j1 (y1:Bool):Option (Bool) :=
  (some (y1))
def F48 (fuel:Nat) (x0:Int) (x1:Int) (x2:Int):Option (Bool) :=
  (cond (decide (x1≤x0)) (F48_j1 (decide (x0≤x2))) (F48_j1 false))
set_option maxRecDepth 100000 in
theorem f48_ok (fuel:Nat) (x0:Int) (x1:Int) (x2:Int) (r:Bool) (hr:F48 fuel x0 x1 x2=some r) (h:Zone) (L:List Atom) (w:World) (hS:St h L w)  :
    Calls Tryz.prog 48 #[vI x0,vI x1,vI x2] w fun e w'=>∃v,e= .returned v∧(∃h',Zone.le h h'∧v= .bool r∧St h' L w'):=by
 refine calls_intro (N:=15) Tryz.func48 (by kernel_rfl) fun a hf=>c_sq [] [0,1,2] hf .nil fun b c=>c_mid (fun a w=>∃k:Zone,∃j:Bool,Zone.le h k∧Fr a 15 [(6, .bool j)]∧St k (L) w∧(F48_j1 j)=some r) ?_ ?_
 ·skip
  refine c_reg (c_n 4 [] [0,2,10] c .nil fun b g=>?_)
  rcases bft (decide (x1≤x0)) with b | b
  ·have d:=cond_t b hr
   have c:=g.lit 10 b
   refine c_t [] [6] c .nil fun f c=>⟨h,(decide (x0≤x2)),zr,c.to,hS,d⟩
  have d:=cond_f b hr
  have b:=g.lit 10 b
  refine c_t [] [6] b .nil fun c b=>⟨h,false,zr,b.to,hS,d⟩
 rintro c f ⟨k,j,g,b,i,d⟩
 refine c_ret (c_rt [] (.bool j) b .nil ?_)
 obtain rfl:=some_eq d
 exact ⟨_,rfl,k,g,rfl,i⟩
def F37_j1 (k1:Int→Int→Option (Bool)) (y1:Int) (y2:Int) (p1:Part) (y3:Bool):Option (Bool) :=
  (cond y3 (some (false)) (k1 (w64 (y1 + p1.mass)) (w64 (y2 + (1:Int)))))
def F37_l1 (fuel:Nat) (x0:List Part):Nat→Int→Int→Option (Bool)
  | 0,_,_=>none
  | n1 + 1,y1,y2 =>
    let k1:Int→Int→Option (Bool):=F37_l1 fuel x0 n1
    (cond (decide (y2<(x0.length:Int))) ((getI x0 y2).bind fun p1=>((F48 fuel p1.lot 1 9999).bind fun r1=>(cond (!r1) (F37_j1 k1 y1 y2 p1 true) ((F48 fuel p1.mass 1 100000000).bind fun r2=>(cond (!r2) (F37_j1 k1 y1 y2 p1 true) (cond (decide (y2 > (0:Int))) ((getI x0 (w64 (y2 - (1:Int)))).bind fun p2=>(F37_j1 k1 y1 y2 p1 (decide (p2.lot≥p1.lot)))) (F37_j1 k1 y1 y2 p1 false))))))) (some ((decide (y1≤(100000000:Int))))))
def F37 (fuel:Nat) (x0:List Part):Option (Bool) :=
  (cond (decide ((x0.length:Int) > (40:Int))) (some (false)) (F37_l1 fuel x0 fuel 0 0))
set_option maxRecDepth 100000 in
theorem f37_ok (fuel:Nat) (x0:List Part) (r:Bool) (hr:F37 fuel x0=some r) (h:Zone) (L:List Atom) (w:World) (hS:St h L w) (o_x0:Option Addr) (c_x0:Nat) (hx_x0:SliceR PartT h o_x0 c_x0 x0) :
    Calls Tryz.prog 37 #[.agg #[.slice o_x0 x0.length c_x0]] w fun e w'=>∃v,e= .returned v∧(∃h',Zone.le h h'∧v= .bool r∧St h' L w'):=by
 refine calls_intro (N:=51) Tryz.func37 (by kernel_rfl) fun a hf=>c_sr (c_box [sL o_x0 x0 c_x0] 49 hS hf fun q j k d b=>tv (c_t [] [1] b .nil fun l c=>(c_seq (c_sq [sL o_x0 x0 c_x0] [1,9] c (.cell (d.bx 0 0 rfl rfl) .nil) fun m i=>(c_if (decide ((x0.length:Int) > (40:Int))) i (fun g=>?_) (fun g=>?_))))))
 ·have f:=cond_t g hr
  refine c_sq [] [2] i .nil fun c b=>c_ret (r_then (c_rt [] (.bool false) b .nil ?_))
  obtain rfl:=some_eq f
  exact ⟨_,rfl,h,zr,rfl,(St.drop 1 d)⟩
 have f:=cond_f g hr
 refine c_skip (n_then (c_sq [] [1,3] i .nil fun g b=>(c_seq (c_sq [sL o_x0 x0 c_x0] [1,3,11,12,13] b (.cell (d.bx 0 0 rfl rfl) .nil) fun i c=>(c_block 0 (c_loop (fun n a w=>∃D:Zone,∃A:Int,∃z:Int,Zone.le h D∧Fr a 51 [(1,pB q 0),(3,vI A),(11,sL o_x0 x0 c_x0),(12,vI (x0.length:Int)),(13,vI z)]∧St D (box q [sL o_x0 x0 c_x0] 49::L) w∧(F37_l1 fuel x0 n A z)=some r) fuel ⟨h,0,0,zr,c.to,d,f⟩ ?_))))))
 rintro b c d ⟨D,A,z,E,g,F,J⟩
 cases b with
 | zero=>cases J
 | succ H =>
 refine c_sq [] [1,3,11,12,13,14] g .nil fun b I=>c_seq (c_if (decide (z<(x0.length:Int))) I (fun G=>?_) (fun G=>?_))
 ·have f:=cond_t G J
  refine c_skip (n_then (c_seq (c_block 1 (c_sr ?_))))
  obtain ⟨p,b,f⟩:=bind_some f
  obtain ⟨c,d,g,i,rfl,b⟩:=SliceR.getI (SliceR.mono E hx_x0) b
  refine c_n 3 [.pointer (some c),vI p.lot,vI p.mass] [1,3,11,12,13,15,17] I (.prop d (.prop g (.cell (F.cell (b 0 _ rfl)) (.cell (F.cell (b 1 _ rfl)) .nil)))) fun c b=>c_box [vI 0,vI 0] 53 F b fun b g i d c=>tv (c_n 1 [] [1,3,4,5,11,12,13,17] c .nil fun g c=>c_st 0 [vI p.lot,vI p.mass] d c rfl fun c d g i=>tv (c_dt (c_seq (c_mid (fun a w=>∃B:Zone,∃C:Bool,Zone.le D B∧Fr a 51 [(1,pB q 0),(3,vI A),(5,pB b 0),(11,sL o_x0 x0 c_x0),(12,vI (x0.length:Int)),(13,vI z),(43, .bool C)]∧St B (box b [vI p.lot,vI p.mass] 53::box q [sL o_x0 x0 c_x0] 49::L) w∧(F37_j1 (F37_l1 fuel x0 H) A z p C)=some r) ?_ ?_))))
  ·skip
   have d:=g.drew
   have b:=Sub.of zr d
   refine c_regD (rD 26 [2,7]) [] _ b (c_S 2 [vI p.lot] [1,3,4,5,11,12,13,19] b i (fun _ s=>(.cell (s.bx 0 0 rfl rfl) .nil)) .nil fun b c=>?_)
   obtain ⟨g,b,o⟩:=bind_some f
   refine c_call c (f48_ok fuel p.lot 1 9999 g b D _ _ d ) ?_
   rintro b c d ⟨l,x,rfl,k⟩ i
   refine ⟨fun _=>Sub.of x k,?_⟩
   have j:=Sub.of x k
   refine c_S 2 [] [1,3,4,5,11,12,13,22] j i (fun _ s=> .nil) .nil fun b i=>?_
   rcases bft (!g) with b | b
   ·have f:=cond_t b o
    have c:=i.lit 22 b
    refine c_S 21 [] [1,3,5,11,12,13,43] j c (fun _ s=> .nil) .nil fun d c=>c_dt (⟨l,true,x,c.to,k,f⟩)
   have f:=cond_f b o
   have b:=i.lit 22 b
   refine c_S 2 [vI p.mass] [1,3,4,5,11,12,13,22,24] j b (fun _ s=>(.cell (s.bx 0 1 rfl rfl) .nil)) .nil fun b c=>?_
   obtain ⟨d,b,o⟩:=bind_some f
   refine c_call c (f48_ok fuel p.mass 1 100000000 d b l _ _ k ) ?_
   rintro b c g ⟨y,t,rfl,u⟩ i
   refine ⟨fun _=>Sub.of (zt x t) u,?_⟩
   have m:=Sub.of (zt x t) u
   refine c_S 3 [] [1,3,4,5,11,12,13,28] m i (fun _ s=> .nil) .nil fun b g=>?_
   rcases bft (!d) with b | b
   ·have f:=cond_t b o
    have c:=g.lit 28 b
    refine c_S 15 [] [1,3,5,11,12,13,43] m c (fun _ s=> .nil) .nil fun d c=>c_dt (⟨y,true,(zt x t),c.to,u,f⟩)
   have o:=cond_f b o
   have b:=g.lit 28 b
   refine c_S 3 [] [1,3,4,5,11,12,13,28,31] m b (fun _ s=> .nil) .nil fun b q=>?_
   rcases bft (decide (z > (0:Int))) with b | b
   ·have f:=cond_t b o
    have k:=q.lit 31 b
    obtain ⟨j,c,f⟩:=bind_some f
    obtain ⟨c,d,g,l,rfl,i⟩:=SliceR.getI (SliceR.mono E hx_x0) c
    refine c_S 12 [sL o_x0 x0 c_x0, .pointer (some c),vI j.lot,vI p.lot] [1,3,5,11,12,13,43] m k (fun _ s=>(.cell (s.bx 1 0 rfl rfl) (.prop d (.prop g (.cell (s.cell (i 0 _ rfl)) (.cell (s.bx 0 0 rfl rfl) .nil)))))) .nil fun d c=>c_dt (⟨y,(decide (j.lot≥p.lot)),(zt x t),c.to,u,f⟩)
   have f:=cond_f b o
   have b:=q.lit 31 b
   refine c_S 12 [] [1,3,5,11,12,13,43] m b (fun _ s=> .nil) .nil fun c b=>c_dt (⟨y,false,(zt x t),b.to,u,f⟩)
  rintro b c ⟨B,C,j,d,g,o⟩
  refine c_if C d (fun c=>?_) (fun c=>?_)
  ·have f:=cond_t c o
   refine c_sq [] [2] d .nil fun i b=>c_ret (r_then (r_block (r_then (r_then (r_block (r_then (c_rt [] (.bool false) b .nil ?_)))))))
   obtain rfl:=some_eq f
   exact ⟨_,rfl,B,(zt E j),rfl,(St.drop 2 g)⟩
  have f:=cond_f c o
  refine c_skip (n_then (c_q [vI p.mass] [1,3,11,12,13] d (.cell (g.bx 0 1 rfl rfl) .nil) fun d b=>(n_block (n_then (c_q [] [1,3,11,12,13] b .nil fun i c=>(n_then (⟨H,Nat.lt_succ_self H,B,(w64 (A + p.mass)),(w64 (z + (1:Int))),(zt E j),c.to,(St.drop 1 g),f⟩)))))))
 have f:=cond_f G J
 refine c_exit 0 (x_then (x_then (x_block (n_then (c_sq [] [2] I .nil fun c b=>(c_ret (c_rt [] (.bool (decide (A≤(100000000:Int)))) b .nil ?_)))))))
 obtain rfl:=some_eq f
 exact ⟨_,rfl,D,E,rfl,(St.drop 1 F)⟩
def F38_l1 (x0:List Part):Nat→Int→Int→Option (Int)
  | 0,_,_=>none
  | n1 + 1,y1,y2 =>
    let k1:Int→Int→Option (Int):=F38_l1 x0 n1
    (cond (decide (y2<(x0.length:Int))) ((getI x0 y2).bind fun p1=>(k1 (w64 (y1 + p1.mass)) (w64 (y2 + (1:Int))))) (some (y1)))
def F38 (fuel:Nat) (x0:List Part):Option (Int) :=
  (F38_l1 x0 fuel 0 0)
set_option maxRecDepth 100000 in
theorem f38_ok (fuel:Nat) (x0:List Part) (r:Int) (hr:F38 fuel x0=some r) (h:Zone) (L:List Atom) (w:World) (hS:St h L w) (o_x0:Option Addr) (c_x0:Nat) (hx_x0:SliceR PartT h o_x0 c_x0 x0) :
    Calls Tryz.prog 38 #[.agg #[.slice o_x0 x0.length c_x0]] w fun e w'=>∃v,e= .returned v∧(∃h',Zone.le h h'∧v=vI r∧St h' L w'):=by
 refine calls_intro (N:=19) Tryz.func38 (by kernel_rfl) fun a hf=>c_sr (c_box [sL o_x0 x0 c_x0] 49 hS hf fun c k l b d=>tv (c_t [] [1] d .nil fun m f=>(c_sq [] [1,3] f .nil fun o g=>(c_seq (c_sq [sL o_x0 x0 c_x0] [3,7,8,9] g (.cell (b.bx 0 0 rfl rfl) .nil) fun p i=>(c_block 0 (c_loop (fun n a w=>∃t:Zone,∃s:Int,∃q:Int,Zone.le h t∧Fr a 19 [(3,vI s),(7,sL o_x0 x0 c_x0),(8,vI (x0.length:Int)),(9,vI q)]∧St t (box c [sL o_x0 x0 c_x0] 49::L) w∧(F38_l1 x0 n s q)=some r) fuel ⟨h,0,0,zr,i.to,b,hr⟩ ?_)))))))
 rintro b c d ⟨t,s,q,p,f,m,u⟩
 cases b with
 | zero=>cases u
 | succ o =>
 refine c_sq [] [3,7,8,9,10] f .nil fun b l=>c_seq (c_if (decide (q<(x0.length:Int))) l (fun k=>?_) (fun k=>?_))
 ·have j:=cond_t k u
  refine c_skip (n_then (c_seq (c_block 1 (c_sr ?_))))
  obtain ⟨b,c,j⟩:=bind_some j
  obtain ⟨d,f,g,i,rfl,c⟩:=SliceR.getI (SliceR.mono p hx_x0) c
  refine c_n 2 [.pointer (some d),vI b.lot,vI b.mass] [3,7,8,9,12] l (.prop f (.prop g (.cell (m.cell (c 0 _ rfl)) (.cell (m.cell (c 1 _ rfl)) .nil)))) fun d c=>c_box [vI 0,vI 0] 53 m c fun f g i c d=>tv (c_st 0 [vI b.lot,vI b.mass] c d rfl fun f g d c=>tv (c_dt (c_q [vI b.mass] [3,7,8,9] c (.cell (d.bx 0 1 rfl rfl) .nil) fun g c=>(n_block (n_then (c_q [] [3,7,8,9] c .nil fun i f=>(n_then (⟨o,Nat.lt_succ_self o,t,(w64 (s + b.mass)),(w64 (q + (1:Int))),p,f.to,(St.drop 1 d),j⟩))))))))
 have j:=cond_f k u
 refine c_exit 0 (x_then (x_then (x_block (n_then (c_sq [] [2] l .nil fun c b=>(c_ret (c_rt [] (vI s) b .nil ?_)))))))
 obtain rfl:=some_eq j
 exact ⟨_,rfl,t,p,rfl,(St.drop 1 m)⟩
def F92 (fuel:Nat) (x0:Int):Option (Bool) :=
  (some ((x0 != x0)))
set_option maxRecDepth 100000 in
theorem f92_ok (fuel:Nat) (x0:Int) (r:Bool) (hr:F92 fuel x0=some r) (h:Zone) (L:List Atom) (w:World) (hS:St h L w)  :
    Calls Tryz.prog 92 #[vI x0] w fun e w'=>∃v,e= .returned v∧(v= .bool r∧St h L w'):=by
 refine calls_intro (N:=6) Tryz.func92 (by kernel_rfl) fun a hf=>c_sq [] [0] hf .nil fun c b=>c_sq [] [2] b .nil fun c b=>c_ret (c_rt [] (.bool (x0 != x0)) b .nil ?_)
 obtain rfl:=some_eq hr
 exact ⟨_,rfl,rfl,hS⟩
def F75 (fuel:Nat) (x0:Int) (x1:Int):Option (Int) :=
  ((F92 fuel x0).bind fun r1=>((F92 fuel x1).bind fun r2=>(cond r1 (cond r2 (some (0)) (some (-1))) (cond r2 (some (1)) (cond (decide (x0<x1)) (some (-1)) (cond (decide (x0 > x1)) (some (1)) (some (0))))))))
set_option maxRecDepth 100000 in
theorem f75_ok (fuel:Nat) (x0:Int) (x1:Int) (r:Int) (hr:F75 fuel x0 x1=some r) (h:Zone) (L:List Atom) (w:World) (hS:St h L w)  :
    Calls Tryz.prog 75 #[vI x0,vI x1] w fun e w'=>∃v,e= .returned v∧(v=vI r∧St h L w'):=by
 refine calls_intro (N:=20) Tryz.func75 (by kernel_rfl) fun a hf=>c_sq [] [0,1] hf .nil fun c b=>c_sr (c_n 1 [] [0,1,7] b .nil fun b c=>?_)
 obtain ⟨l,b,f⟩:=bind_some hr
 refine c_call c (f92_ok fuel x0 l b h _ _ hS ) ?_
 rintro c d g ⟨rfl,j⟩ b
 refine tv (c_t [] [0,1,5] b .nil fun c b=>c_sr (c_n 1 [] [0,1,5,9] b .nil fun b c=>?_))
 obtain ⟨m,b,o⟩:=bind_some f
 refine c_call c (f92_ok fuel x1 m b h _ _ j ) ?_
 rintro c d g ⟨rfl,n⟩ b
 refine tv (c_t [] [0,1,5,6] b .nil fun c b=>c_seq (c_sq [] [0,1,6,11] b .nil fun b k=>(c_if l k (fun j=>?_) (fun j=>?_))))
 ·have i:=cond_t j o
  refine c_seq (c_sq [] [12] k .nil fun b d=>(c_if m d (fun c=>?_) (fun c=>?_)))
  ·have f:=cond_t c i
   refine c_sq [] [4] d .nil fun g b=>c_ret (r_then (r_then (c_rt [] (vI 0) b .nil ?_)))
   obtain rfl:=some_eq f
   exact ⟨_,rfl,rfl,n⟩
  have f:=cond_f c i
  refine c_skip (n_then (c_sq [] [4] d .nil fun c b=>(c_ret (r_then (c_rt [] (vI (-1)) b .nil ?_)))))
  obtain rfl:=some_eq f
  exact ⟨_,rfl,rfl,n⟩
 have i:=cond_f j o
 refine c_skip (n_then (c_seq (c_sq [] [0,1,13] k .nil fun b d=>(c_if m d (fun c=>?_) (fun c=>?_)))))
 ·have f:=cond_t c i
  refine c_sq [] [4] d .nil fun g b=>c_ret (r_then (c_rt [] (vI 1) b .nil ?_))
  obtain rfl:=some_eq f
  exact ⟨_,rfl,rfl,n⟩
 have i:=cond_f c i
 refine c_skip (n_then (c_seq (c_sq [] [0,1,16] d .nil fun b d=>(c_if (decide (x0<x1)) d (fun c=>?_) (fun c=>?_)))))
 ·have f:=cond_t c i
  refine c_sq [] [4] d .nil fun g b=>c_ret (r_then (c_rt [] (vI (-1)) b .nil ?_))
  obtain rfl:=some_eq f
  exact ⟨_,rfl,rfl,n⟩
 have i:=cond_f c i
 refine c_skip (n_then (c_seq (c_sq [] [19] d .nil fun b d=>(c_if (decide (x0 > x1)) d (fun c=>?_) (fun c=>?_)))))
 ·have f:=cond_t c i
  refine c_sq [] [4] d .nil fun g b=>c_ret (r_then (c_rt [] (vI 1) b .nil ?_))
  obtain rfl:=some_eq f
  exact ⟨_,rfl,rfl,n⟩
 have f:=cond_f c i
 refine c_skip (n_then (c_sq [] [4] d .nil fun c b=>(c_ret (c_rt [] (vI 0) b .nil ?_))))
 obtain rfl:=some_eq f
 exact ⟨_,rfl,rfl,n⟩
def F115_l2 (y1:Int):Nat→(List Int)→Int→Option (List Int)
  | 0,_,_=>none
  | n1 + 1,y2,y3 =>
    let k1:(List Int)→Int→Option (List Int):=F115_l2 y1 n1
    (cond (decide (y3<(w64 (y1 - (1:Int))))) ((getI y2 (w64 (y3 + (1:Int)))).bind fun p1=>((getI y2 y3).bind fun p2=>((getI y2 y3).bind fun p3=>((setI y2 y3 p1).bind fun d1=>((getI d1 (w64 (y3 + (1:Int)))).bind fun p4=>((setI d1 (w64 (y3 + (1:Int))) p2).bind fun d2=>(k1 d2 (w64 (y3 + (1:Int)))))))))) (some (y2)))
def F115_l1 (fuel:Nat) (x4:Int) (x5:List Int) (x6:Int) (x0:List Int) (x1:Int):Nat→Int→Int→Option (List Int)
  | 0,_,_=>none
  | n2 + 1,y1,y4 =>
    let k2:Int→Int→Option (List Int):=F115_l1 fuel x4 x5 x6 x0 x1 n2
    (cond (decide (y1<y4)) ((getI x0 (w64 (Int.fdiv (IntKind.wrap .u64 (w64 (y1 + y4))) 2))).bind fun p5=>((getI x0 x1).bind fun p6=>((getI x5 p6).bind fun p7=>((nz x6).bind fun _=>((getI x5 p5).bind fun p8=>((nz x6).bind fun _=>((F75 fuel (Int.tmod (w64 (x4 * p7)) x6) (Int.tmod (w64 (x4 * p8)) x6)).bind fun r1=>(cond (decide (r1<(0:Int))) (k2 (w64 ((w64 (Int.fdiv (IntKind.wrap .u64 (w64 (y1 + y4))) 2)) + (1:Int))) y4) (k2 y1 (w64 (Int.fdiv (IntKind.wrap .u64 (w64 (y1 + y4))) 2))))))))))) (F115_l2 y1 fuel x0 x1))
def F115_l4 (y5:Int):Nat→(List Int)→Int→Option (List Int)
  | 0,_,_=>none
  | n3 + 1,y6,y7 =>
    let k3:(List Int)→Int→Option (List Int):=F115_l4 y5 n3
    (cond (decide (y7 > y5)) ((getI y6 (w64 (y7 - (1:Int)))).bind fun p9=>((getI y6 y7).bind fun p10=>((getI y6 y7).bind fun p11=>((setI y6 y7 p9).bind fun d3=>((getI d3 (w64 (y7 - (1:Int)))).bind fun p12=>((setI d3 (w64 (y7 - (1:Int))) p10).bind fun d4=>(k3 d4 (w64 (y7 - (1:Int)))))))))) (some (y6)))
def F115_l3 (fuel:Nat) (x4:Int) (x5:List Int) (x6:Int) (x0:List Int) (x2:Int):Nat→Int→Int→Option (List Int)
  | 0,_,_=>none
  | n4 + 1,y5,y8 =>
    let k4:Int→Int→Option (List Int):=F115_l3 fuel x4 x5 x6 x0 x2 n4
    (cond (decide (y5<y8)) ((getI x0 x2).bind fun p13=>((getI x0 (w64 (Int.fdiv (IntKind.wrap .u64 (w64 (y5 + y8))) 2))).bind fun p14=>((getI x5 p14).bind fun p15=>((nz x6).bind fun _=>((getI x5 p13).bind fun p16=>((nz x6).bind fun _=>((F75 fuel (Int.tmod (w64 (x4 * p15)) x6) (Int.tmod (w64 (x4 * p16)) x6)).bind fun r2=>(cond (!(decide (r2<(0:Int)))) (k4 (w64 ((w64 (Int.fdiv (IntKind.wrap .u64 (w64 (y5 + y8))) 2)) + (1:Int))) y8) (k4 y5 (w64 (Int.fdiv (IntKind.wrap .u64 (w64 (y5 + y8))) 2))))))))))) (F115_l4 y5 fuel x0 x2))
def F115_j6 (rec:List Int→Int→Int→Int→Option (List Int)) (x1:Int) (x2:Int) (x3:Int) (y9:Int) (y10:List Int) (y11:Bool):Option (List Int) :=
  (cond y11 ((rec y10 (w64 (Int.fdiv (IntKind.wrap .u64 (w64 (x1 + x3))) 2)) (w64 ((w64 ((w64 (Int.fdiv (IntKind.wrap .u64 (w64 (x1 + x3))) 2)) + x2)) - y9)) x3).bind fun r3=>(some (r3))) (some (y10)))
def F115_j4 (rec:List Int→Int→Int→Int→Option (List Int)) (x1:Int) (x2:Int) (x3:Int) (y9:Int) (y10:List Int):Option (List Int) :=
  (cond (decide ((w64 (Int.fdiv (IntKind.wrap .u64 (w64 (x1 + x3))) 2))<(w64 ((w64 ((w64 (Int.fdiv (IntKind.wrap .u64 (w64 (x1 + x3))) 2)) + x2)) - y9)))) (F115_j6 rec x1 x2 x3 y9 y10 (decide ((w64 ((w64 ((w64 (Int.fdiv (IntKind.wrap .u64 (w64 (x1 + x3))) 2)) + x2)) - y9))<x3))) (F115_j6 rec x1 x2 x3 y9 y10 false))
def F115_j5 (rec:List Int→Int→Int→Int→Option (List Int)) (x1:Int) (x2:Int) (x3:Int) (y9:Int) (y12:List Int) (y13:Bool):Option (List Int) :=
  (cond y13 ((rec y12 x1 y9 (w64 (Int.fdiv (IntKind.wrap .u64 (w64 (x1 + x3))) 2))).bind fun r4=>(F115_j4 rec x1 x2 x3 y9 r4)) (F115_j4 rec x1 x2 x3 y9 y12))
def F115_j2 (rec:List Int→Int→Int→Int→Option (List Int)) (x1:Int) (x2:Int) (x3:Int) (y9:Int) (y12:List Int):Option (List Int) :=
  (cond (decide (x1<y9)) (F115_j5 rec x1 x2 x3 y9 y12 (decide (y9<(w64 (Int.fdiv (IntKind.wrap .u64 (w64 (x1 + x3))) 2))))) (F115_j5 rec x1 x2 x3 y9 y12 false))
def F115_l7 (k5:(List Int)→Int→Int→Option (List Int)) (x2:Int) (y14:Int) (y15:Int):Nat→(List Int)→Int→Option (List Int)
  | 0,_,_=>none
  | n5 + 1,y16,y17 =>
    let k6:(List Int)→Int→Option (List Int):=F115_l7 k5 x2 y14 y15 n5
    (cond (decide (y17<y15)) ((getI y16 (w64 (x2 + y17))).bind fun p17=>((getI y16 (w64 ((w64 (x2 - y14)) + y17))).bind fun p18=>((getI y16 (w64 ((w64 (x2 - y14)) + y17))).bind fun p19=>((setI y16 (w64 ((w64 (x2 - y14)) + y17)) p17).bind fun d5=>((getI d5 (w64 (x2 + y17))).bind fun p20=>((setI d5 (w64 (x2 + y17)) p18).bind fun d6=>(k6 d6 (w64 (y17 + (1:Int)))))))))) (k5 y16 (w64 (y14 - y15)) y15))
def F115_l8 (k5:(List Int)→Int→Int→Option (List Int)) (x2:Int) (y14:Int) (y15:Int):Nat→(List Int)→Int→Option (List Int)
  | 0,_,_=>none
  | n6 + 1,y18,y19 =>
    let k7:(List Int)→Int→Option (List Int):=F115_l8 k5 x2 y14 y15 n6
    (cond (decide (y19<y14)) ((getI y18 (w64 ((w64 ((w64 (x2 + y15)) - y14)) + y19))).bind fun p21=>((getI y18 (w64 ((w64 (x2 - y14)) + y19))).bind fun p22=>((getI y18 (w64 ((w64 (x2 - y14)) + y19))).bind fun p23=>((setI y18 (w64 ((w64 (x2 - y14)) + y19)) p21).bind fun d7=>((getI d7 (w64 ((w64 ((w64 (x2 + y15)) - y14)) + y19))).bind fun p24=>((setI d7 (w64 ((w64 ((w64 (x2 + y15)) - y14)) + y19)) p22).bind fun d8=>(k7 d8 (w64 (y19 + (1:Int)))))))))) (k5 y18 y14 (w64 (y15 - y14))))
def F115_l9 (rec:List Int→Int→Int→Int→Option (List Int)) (x1:Int) (x2:Int) (x3:Int) (y9:Int) (y14:Int):Nat→(List Int)→Int→Option (List Int)
  | 0,_,_=>none
  | n7 + 1,y20,y21 =>
    let k8:(List Int)→Int→Option (List Int):=F115_l9 rec x1 x2 x3 y9 y14 n7
    (cond (decide (y21<y14)) ((getI y20 (w64 (x2 + y21))).bind fun p25=>((getI y20 (w64 ((w64 (x2 - y14)) + y21))).bind fun p26=>((getI y20 (w64 ((w64 (x2 - y14)) + y21))).bind fun p27=>((setI y20 (w64 ((w64 (x2 - y14)) + y21)) p25).bind fun d9=>((getI d9 (w64 (x2 + y21))).bind fun p28=>((setI d9 (w64 (x2 + y21)) p26).bind fun d10=>(k8 d10 (w64 (y21 + (1:Int)))))))))) (F115_j2 rec x1 x2 x3 y9 y20))
def F115_l6 (fuel:Nat) (rec:List Int→Int→Int→Int→Option (List Int)) (x1:Int) (x2:Int) (x3:Int) (y9:Int):Nat→(List Int)→Int→Int→Option (List Int)
  | 0,_,_,_=>none
  | n8 + 1,y22,y14,y15 =>
    let k5:(List Int)→Int→Int→Option (List Int):=F115_l6 fuel rec x1 x2 x3 y9 n8
    (cond (y14 != y15) (cond (decide (y14 > y15)) (F115_l7 k5 x2 y14 y15 fuel y22 0) (F115_l8 k5 x2 y14 y15 fuel y22 0)) (F115_l9 rec x1 x2 x3 y9 y14 fuel y22 0))
def F115_j3 (fuel:Nat) (rec:List Int→Int→Int→Int→Option (List Int)) (x0:List Int) (x1:Int) (x2:Int) (x3:Int) (y9:Int) (y23:Bool):Option (List Int) :=
  (cond y23 (F115_l6 fuel rec x1 x2 x3 y9 fuel x0 (w64 (x2 - y9)) (w64 ((w64 ((w64 ((w64 (Int.fdiv (IntKind.wrap .u64 (w64 (x1 + x3))) 2)) + x2)) - y9)) - x2))) (F115_j2 rec x1 x2 x3 y9 x0))
def F115_l5 (fuel:Nat) (rec:List Int→Int→Int→Int→Option (List Int)) (x4:Int) (x5:List Int) (x6:Int) (x0:List Int) (x1:Int) (x2:Int) (x3:Int):Nat→Int→Int→Option (List Int)
  | 0,_,_=>none
  | n9 + 1,y9,y24 =>
    let k9:Int→Int→Option (List Int):=F115_l5 fuel rec x4 x5 x6 x0 x1 x2 x3 n9
    (cond (decide (y9<y24)) ((getI x0 (w64 ((w64 ((w64 ((w64 (Int.fdiv (IntKind.wrap .u64 (w64 (x1 + x3))) 2)) + x2)) - (1:Int))) - (w64 (Int.fdiv (IntKind.wrap .u64 (w64 (y9 + y24))) 2))))).bind fun p29=>((getI x0 (w64 (Int.fdiv (IntKind.wrap .u64 (w64 (y9 + y24))) 2))).bind fun p30=>((getI x5 p30).bind fun p31=>((nz x6).bind fun _=>((getI x5 p29).bind fun p32=>((nz x6).bind fun _=>((F75 fuel (Int.tmod (w64 (x4 * p31)) x6) (Int.tmod (w64 (x4 * p32)) x6)).bind fun r5=>(cond (!(decide (r5<(0:Int)))) (k9 (w64 ((w64 (Int.fdiv (IntKind.wrap .u64 (w64 (y9 + y24))) 2)) + (1:Int))) y24) (k9 y9 (w64 (Int.fdiv (IntKind.wrap .u64 (w64 (y9 + y24))) 2))))))))))) (cond (decide (y9<x2)) (F115_j3 fuel rec x0 x1 x2 x3 y9 (decide (x2<(w64 ((w64 ((w64 (Int.fdiv (IntKind.wrap .u64 (w64 (x1 + x3))) 2)) + x2)) - y9))))) (F115_j3 fuel rec x0 x1 x2 x3 y9 false)))
def F115_j1 (fuel:Nat) (rec:List Int→Int→Int→Int→Option (List Int)) (x4:Int) (x5:List Int) (x6:Int) (x0:List Int) (x1:Int) (x2:Int) (x3:Int) (y25:Int) (y26:Int):Option (List Int) :=
  (F115_l5 fuel rec x4 x5 x6 x0 x1 x2 x3 fuel y25 y26)
def F115 (fuel:Nat) (rec:List Int→Int→Int→Int→Option (List Int)) (x4:Int) (x5:List Int) (x6:Int) (x0:List Int) (x1:Int) (x2:Int) (x3:Int):Option (List Int) :=
  (cond ((w64 (x2 - x1)) == (1:Int)) (F115_l1 fuel x4 x5 x6 x0 x1 fuel x2 x3) (cond ((w64 (x3 - x2)) == (1:Int)) (F115_l3 fuel x4 x5 x6 x0 x2 fuel x1 x2) (cond (decide (x2 > (w64 (Int.fdiv (IntKind.wrap .u64 (w64 (x1 + x3))) 2)))) (F115_j1 fuel rec x4 x5 x6 x0 x1 x2 x3 (w64 ((w64 ((w64 (Int.fdiv (IntKind.wrap .u64 (w64 (x1 + x3))) 2)) + x2)) - x3)) (w64 (Int.fdiv (IntKind.wrap .u64 (w64 (x1 + x3))) 2))) (F115_j1 fuel rec x4 x5 x6 x0 x1 x2 x3 x1 x2))))
set_option maxRecDepth 100000 in
theorem f115_ok (fuel:Nat) (rec:List Int→Int→Int→Int→Option (List Int)) (x4:Int) (x5:List Int) (x6:Int) (x0:List Int) (x1:Int) (x2:Int) (x3:Int) (hrec:∀(X:List Int) (I1 I2 I3:Int) (R:List Int),rec X I1 I2 I3=some R→∀(H:Zone) (M:List Atom) (W:World),St H M W→∀(ja jb jc jd:Nat) (O:Option Addr) (C:Nat) (BA BB BC:Nat) (OA:Option Addr) (CA:Nat),[ja,jb,jc,jd].Nodup→M[ja]? =some (ownS Ty.int 3 O C X)→M[jb]? =some (box BA [vI x4] 3)→M[jc]? =some (box BB [.slice OA x5.length CA] 76)→M[jd]? =some (box BC [vI x6] 3)→SliceR Ty.int H OA CA x5→Calls Tryz.prog 115 #[.slice O X.length C,vI I1,vI I2,vI I3, .func (.func 91) #[] #[pB BA 0,pB BB 0,pB BC 0]] W fun e W'=>∃v,e= .returned v∧∃H',Zone.le H H'∧v= .tuple #[]∧St H' (M.set ja (ownS Ty.int 3 O C R)) W'∧X.length=R.length) (r:List Int) (hr:F115 fuel rec x4 x5 x6 x0 x1 x2 x3=some r) (h:Zone) (L:List Atom) (w:World) (o_x0:Option Addr) (c_x0 b_x4 b_x5 b_x6:Nat) (o_x5:Option Addr) (c_x5:Nat) (hx_x5:SliceR Ty.int h o_x5 c_x5 x5) (hS:St h (ownS Ty.int 3 o_x0 c_x0 x0::box b_x4 [vI x4] 3::box b_x5 [.slice o_x5 x5.length c_x5] 76::box b_x6 [vI x6] 3::L) w) :
    Calls Tryz.prog 115 #[.slice o_x0 x0.length c_x0,vI x1,vI x2,vI x3, .func (.func 91) #[] #[pB b_x4 0,pB b_x5 0,pB b_x6 0]] w fun e w'=>∃v,e= .returned v∧∃h',Zone.le h h'∧v= .tuple #[]∧St h' (ownS Ty.int 3 o_x0 c_x0 r::box b_x4 [vI x4] 3::box b_x5 [.slice o_x5 x5.length c_x5] 76::box b_x6 [vI x6] 3::L) w'∧x0.length=r.length:=by
 refine calls_intro (N:=220) Tryz.func115 (by kernel_rfl) fun a hf=>c_seq (c_sq [] [0,1,2,3,4,28] hf .nil fun c Z=>(c_if ((w64 (x2 - x1)) == (1:Int)) Z (fun Y=>?_) (fun Y=>?_)))
 ·have o:=cond_t Y hr
  refine c_sq [] [0,1,3,4,10] Z .nil fun g c=>c_sq [] [0,1,4,10,11] c .nil fun g c=>c_seq (c_block 0 (c_loop (fun n a w=>∃E:Zone,∃G:Int,∃D:Int,Zone.le h E∧Fr a 220 [(0,sL o_x0 x0 c_x0),(1,vI x1),(4, .func (.func 91) #[] #[pB b_x4 0,pB b_x5 0,pB b_x6 0]),(10,vI G),(11,vI D)]∧St E (ownS Ty.int 3 o_x0 c_x0 x0::box b_x4 [vI x4] 3::box b_x5 [sL o_x5 x5 c_x5] 76::box b_x6 [vI x6] 3::L) w∧(F115_l1 fuel x4 x5 x6 x0 x1 n G D)=some r) fuel ⟨h,x2,x3,zr,c.to,hS,o⟩ ?_))
  rintro c g B ⟨E,G,D,V,k,Q,a2⟩
  cases c with
  | zero=>cases a2
  | succ I =>
  refine c_seq (c_sq [] [0,1,4,10,11,33] k .nil fun c P=>(c_if (decide (G<D)) P (fun K=>?_) (fun K=>?_)))
  ·have o:=cond_t K a2
   refine c_skip (n_then (c_block 1 (c_sq [] [0,1,4,10,11,12] P .nil fun c A=>(c_seq ?_))))
   have z:=Q.drew
   refine c_regD (rD 11 [9]) [9] (fun x=>x=B.drew) rfl ?_
   obtain ⟨p,c,o⟩:=bind_some o
   obtain ⟨q,s,t,c,rfl,u⟩:=z.ownGet (j:=0) rfl c
   obtain ⟨c,g,o⟩:=bind_some o
   obtain ⟨g,k,l,y,rfl,m⟩:=z.ownGet (j:=0) rfl g
   refine c_E 9 [.pointer (some q),vI p, .pointer (some g),vI c] [0,1,4,10,11,12,40,44,48] A (.prop s (.prop t (.cell (u 0 _ rfl) (.prop k (.prop l (.cell (m 0 _ rfl) .nil)))))) .nil fun k g=>p_inl (i:=9) (d:=some 49) (f:=91) (args:= #[vI p,vI c,pB b_x4 0,pB b_x5 0,pB b_x6 0]) (N':=25) g (by kernel_rfl) Tryz.func91 (by kernel_rfl) fun g c=>c_sq [] [0,1,2,3,4] c .nil fun c F=>c_seq ?_
   have c:=z.drew
   refine c_regD (rD 18 [16]) [16] (fun x=>x=(B.drew).drew) rfl ?_
   obtain ⟨u,g,o⟩:=bind_some o
   obtain ⟨y,z,A,g,rfl,B⟩:=SliceR.getI (SliceR.mono V hx_x5) g
   obtain ⟨g,t,o⟩:=bind_some o
   obtain ⟨q,g,o⟩:=bind_some o
   obtain ⟨k,l,m,g,rfl,p⟩:=SliceR.getI (SliceR.mono V hx_x5) g
   obtain ⟨s,g,o⟩:=bind_some o
   refine c_E 16 [vI x4,sL o_x5 x5 c_x5, .pointer (some y),vI u,vI x6,vI x4,sL o_x5 x5 c_x5, .pointer (some k),vI q,vI x6] [15,23] F (.cell (c.bx 1 0 rfl rfl) (.cell (c.bx 2 0 rfl rfl) (.prop z (.prop A (.cell (c.cell (B 0 _ rfl)) (.cell (c.bx 3 0 rfl rfl) (.prop (nz_spec t) (.cell (c.bx 1 0 rfl rfl) (.cell (c.bx 2 0 rfl rfl) (.prop l (.prop m (.cell (c.cell (p 0 _ rfl)) (.cell (c.bx 3 0 rfl rfl) (.prop (nz_spec g) .nil)))))))))))))) .nil fun g l=>?_
   obtain ⟨g,k,J⟩:=bind_some o
   refine c_call l (f75_ok fuel (Int.tmod (w64 (x4 * u)) x6) (Int.tmod (w64 (x4 * q)) x6) g k E _ _ c ) ?_
   rintro k l m ⟨rfl,p⟩ c
   refine ⟨fun e=>absurd e (by decide),?_⟩
   refine p_qP 1 [] [(7,vI g)] [] c (by kernel_rfl) (fun _=> .nil) fun k c=>c_dt (c_ret (c_rt [] (vI g) c .nil (⟨_,rfl,fun k c=>?_⟩)))
   refine ⟨fun e=>absurd e (by decide),?_⟩
   refine p_qP 1 [] [(0,sL o_x0 x0 c_x0),(1,vI x1),(4, .func (.func 91) #[] #[pB b_x4 0,pB b_x5 0,pB b_x6 0]),(10,vI G),(11,vI D),(12,vI (w64 (Int.fdiv (IntKind.wrap .u64 (w64 (G + D))) 2))),(50, .bool (decide (g<(0:Int))))] [] c (by kernel_rfl) (fun _=> .nil) fun c k=>c_dt (c_if (decide (g<(0:Int))) k (fun c=>?_) (fun c=>?_))
   ·have o:=cond_t c J
    refine c_q [] [0,1,4,10,11] k .nil fun l g=>n_block (n_then (⟨I,Nat.lt_succ_self I,E,(w64 ((w64 (Int.fdiv (IntKind.wrap .u64 (w64 (G + D))) 2)) + (1:Int))),D,V,g.to,p,o⟩))
   have o:=cond_f c J
   refine c_q [] [0,1,4,10,11] k .nil fun g c=>n_block (n_then (⟨I,Nat.lt_succ_self I,E,G,(w64 (Int.fdiv (IntKind.wrap .u64 (w64 (G + D))) 2)),V,c.to,p,o⟩))
  have o:=cond_f K a2
  refine c_exit 0 (x_then (x_then (x_block (n_then (c_seq (c_sq [] [0,10,13] P .nil fun l g=>(c_block 2 (c_loop (fun n a w=>∃I:Zone,∃c:List Int,∃k:Int,Zone.le E I∧Fr a 220 [(0,sL o_x0 c c_x0),(10,vI G),(13,vI k)]∧St I (ownS Ty.int 3 o_x0 c_x0 c::box b_x4 [vI x4] 3::box b_x5 [sL o_x5 x5 c_x5] 76::box b_x6 [vI x6] 3::L) w∧c.length=x0.length∧(F115_l2 G n c k)=some r) fuel ⟨E,x0,x1,zr,g.to,Q,rfl,o⟩ ?_))))))))
  rintro g l m ⟨I,c,k,S,c,T,U,J⟩
  cases g with
  | zero=>cases J
  | succ Q =>
  refine c_seq (c_sq [] [0,10,13,58] c .nil fun c P=>(c_if (decide (k<(w64 (G - (1:Int))))) P (fun K=>?_) (fun K=>?_)))
  ·have o:=cond_t K J
   refine c_skip (n_then (c_seq (c_block 3 ?_)))
   have p:=T.drew
   refine c_regD (rD 18 [15,17]) [15,17] (fun x=>x=m.drew) rfl ?_
   obtain ⟨A,c,o⟩:=bind_some o
   obtain ⟨B,D,E,c,rfl,F⟩:=p.ownGet (j:=0) rfl c
   obtain ⟨z,c,o⟩:=bind_some o
   obtain ⟨l,q,s,c,rfl,t⟩:=p.ownGet (j:=0) rfl c
   obtain ⟨g,c,o⟩:=bind_some o
   obtain ⟨g,m,c,u,rfl,y⟩:=p.ownGet (j:=0) rfl c
   refine c_E 15 [.pointer (some B),vI A, .pointer (some l),vI z, .pointer (some g)] [0,10,13,63,65,70,74,75] P (.prop D (.prop E (.cell (F 0 _ rfl) (.prop q (.prop s (.cell (t 0 _ rfl) (.prop m (.prop c .nil)))))))) .nil fun c q=>?_
   obtain ⟨l,c,o⟩:=bind_some o
   have u:=setI_len c
   refine p_setOwnI (i:=15) (j:=0) (ad:=g) (ix:=k) (x':=A) p q rfl m (by kernel_rfl) c fun m p t c=>?_
   have s:=Fr.conv (fl':=[(0,sL o_x0 l c_x0),(10,vI G),(13,vI k),(63,sL o_x0 l c_x0),(65,vI (w64 (k + (1:Int)))),(70,vI A),(74,vI z),(75, .pointer (some (g.add (Int.toNat k * 1))))]) c (by (try unfold sL); rw [u] <;> kernel_rfl)
   refine ⟨fun e=>absurd e (by decide),?_⟩
   obtain ⟨g,c,o⟩:=bind_some o
   obtain ⟨c,m,g,p,rfl,q⟩:=t.ownGet (j:=0) rfl c
   refine p_qP 1 [.pointer (some c)] [(0,sL o_x0 l c_x0),(10,vI G),(13,vI k),(74,vI z),(76, .pointer (some (c.add (Int.toNat (w64 (k + (1:Int))) * 1))))] [.prop (o_x0=some c), .prop (0≤(w64 (k + (1:Int)))∧(w64 (k + (1:Int)))<(l.length:Nat))] s (by kernel_rfl) (fun _=>(.prop m (.prop g .nil))) fun g p=>?_
   obtain ⟨q,g,o⟩:=bind_some o
   have l:=setI_len g
   refine p_setOwnI (i:=17) (j:=0) (ad:=c) (ix:=(w64 (k + (1:Int)))) (x':=z) t p rfl m (by kernel_rfl) g fun m p s g=>?_
   have c:=Fr.conv (fl':=[(0,sL o_x0 q c_x0),(10,vI G),(13,vI k),(74,vI z),(76, .pointer (some (c.add (Int.toNat (w64 (k + (1:Int))) * 1))))]) g (by (try unfold sL); rw [l] <;> kernel_rfl)
   refine ⟨fun e=>absurd e (by decide),?_⟩
   refine c_done (n_block (n_then (c_q [] [0,10,13] c .nil fun g c=>(n_then (⟨Q,Nat.lt_succ_self Q,I,q,(w64 (k + (1:Int))),S,c.to,s,(l.symm.trans (u.symm.trans U)),o⟩)))))
  have o:=cond_f K J
  refine c_exit 2 (x_then (x_then (x_block (n_then (c_ret (r_then (c_rt [] (.tuple #[]) P .nil ?_)))))))
  obtain rfl:=some_eq o
  exact ⟨_,rfl,I,(zt V S),rfl,(St.pick 4 [0,1,2,3] T (by kernel_rfl)),(U).symm⟩
 have a9:=cond_f Y hr
 refine c_skip (n_then (c_seq (c_sq [] [0,1,2,3,4,80] Z .nil fun c Z=>(c_if ((w64 (x3 - x2)) == (1:Int)) Z (fun Y=>?_) (fun Y=>?_)))))
 ·have o:=cond_t Y a9
  refine c_sq [] [0,2,4,14] Z .nil fun g c=>c_sq [] [0,2,4,14,15] c .nil fun g c=>c_seq (c_block 4 (c_loop (fun n a w=>∃E:Zone,∃G:Int,∃D:Int,Zone.le h E∧Fr a 220 [(0,sL o_x0 x0 c_x0),(2,vI x2),(4, .func (.func 91) #[] #[pB b_x4 0,pB b_x5 0,pB b_x6 0]),(14,vI G),(15,vI D)]∧St E (ownS Ty.int 3 o_x0 c_x0 x0::box b_x4 [vI x4] 3::box b_x5 [sL o_x5 x5 c_x5] 76::box b_x6 [vI x6] 3::L) w∧(F115_l3 fuel x4 x5 x6 x0 x2 n G D)=some r) fuel ⟨h,x1,x2,zr,c.to,hS,o⟩ ?_))
  rintro c g B ⟨E,G,D,V,k,Q,a2⟩
  cases c with
  | zero=>cases a2
  | succ I =>
  refine c_seq (c_sq [] [0,2,4,14,15,85] k .nil fun c P=>(c_if (decide (G<D)) P (fun K=>?_) (fun K=>?_)))
  ·have o:=cond_t K a2
   refine c_skip (n_then (c_block 5 (c_sq [] [0,2,4,14,15,16] P .nil fun c A=>(c_seq ?_))))
   have z:=Q.drew
   refine c_regD (rD 12 [9]) [9] (fun x=>x=B.drew) rfl ?_
   obtain ⟨p,c,o⟩:=bind_some o
   obtain ⟨q,s,t,c,rfl,u⟩:=z.ownGet (j:=0) rfl c
   obtain ⟨c,g,o⟩:=bind_some o
   obtain ⟨g,k,l,y,rfl,m⟩:=z.ownGet (j:=0) rfl g
   refine c_E 9 [.pointer (some q),vI p, .pointer (some g),vI c] [0,2,4,14,15,16,92,96,100] A (.prop s (.prop t (.cell (u 0 _ rfl) (.prop k (.prop l (.cell (m 0 _ rfl) .nil)))))) .nil fun k g=>p_inl (i:=9) (d:=some 101) (f:=91) (args:= #[vI p,vI c,pB b_x4 0,pB b_x5 0,pB b_x6 0]) (N':=25) g (by kernel_rfl) Tryz.func91 (by kernel_rfl) fun g c=>c_sq [] [0,1,2,3,4] c .nil fun c F=>c_seq ?_
   have c:=z.drew
   refine c_regD (rD 18 [16]) [16] (fun x=>x=(B.drew).drew) rfl ?_
   obtain ⟨u,g,o⟩:=bind_some o
   obtain ⟨y,z,A,g,rfl,B⟩:=SliceR.getI (SliceR.mono V hx_x5) g
   obtain ⟨g,t,o⟩:=bind_some o
   obtain ⟨q,g,o⟩:=bind_some o
   obtain ⟨k,l,m,g,rfl,p⟩:=SliceR.getI (SliceR.mono V hx_x5) g
   obtain ⟨s,g,o⟩:=bind_some o
   refine c_E 16 [vI x4,sL o_x5 x5 c_x5, .pointer (some y),vI u,vI x6,vI x4,sL o_x5 x5 c_x5, .pointer (some k),vI q,vI x6] [15,23] F (.cell (c.bx 1 0 rfl rfl) (.cell (c.bx 2 0 rfl rfl) (.prop z (.prop A (.cell (c.cell (B 0 _ rfl)) (.cell (c.bx 3 0 rfl rfl) (.prop (nz_spec t) (.cell (c.bx 1 0 rfl rfl) (.cell (c.bx 2 0 rfl rfl) (.prop l (.prop m (.cell (c.cell (p 0 _ rfl)) (.cell (c.bx 3 0 rfl rfl) (.prop (nz_spec g) .nil)))))))))))))) .nil fun g l=>?_
   obtain ⟨g,k,J⟩:=bind_some o
   refine c_call l (f75_ok fuel (Int.tmod (w64 (x4 * u)) x6) (Int.tmod (w64 (x4 * q)) x6) g k E _ _ c ) ?_
   rintro k l m ⟨rfl,p⟩ c
   refine ⟨fun e=>absurd e (by decide),?_⟩
   refine p_qP 1 [] [(7,vI g)] [] c (by kernel_rfl) (fun _=> .nil) fun k c=>c_dt (c_ret (c_rt [] (vI g) c .nil (⟨_,rfl,fun k c=>?_⟩)))
   refine ⟨fun e=>absurd e (by decide),?_⟩
   refine p_qP 2 [] [(0,sL o_x0 x0 c_x0),(2,vI x2),(4, .func (.func 91) #[] #[pB b_x4 0,pB b_x5 0,pB b_x6 0]),(14,vI G),(15,vI D),(16,vI (w64 (Int.fdiv (IntKind.wrap .u64 (w64 (G + D))) 2))),(103, .bool (!(decide (g<(0:Int)))))] [] c (by kernel_rfl) (fun _=> .nil) fun c k=>c_dt (c_if (!(decide (g<(0:Int)))) k (fun c=>?_) (fun c=>?_))
   ·have o:=cond_t c J
    refine c_q [] [0,2,4,14,15] k .nil fun l g=>n_block (n_then (⟨I,Nat.lt_succ_self I,E,(w64 ((w64 (Int.fdiv (IntKind.wrap .u64 (w64 (G + D))) 2)) + (1:Int))),D,V,g.to,p,o⟩))
   have o:=cond_f c J
   refine c_q [] [0,2,4,14,15] k .nil fun g c=>n_block (n_then (⟨I,Nat.lt_succ_self I,E,G,(w64 (Int.fdiv (IntKind.wrap .u64 (w64 (G + D))) 2)),V,c.to,p,o⟩))
  have o:=cond_f K a2
  refine c_exit 4 (x_then (x_then (x_block (n_then (c_seq (c_sq [] [0,14,17] P .nil fun l g=>(c_block 6 (c_loop (fun n a w=>∃I:Zone,∃c:List Int,∃k:Int,Zone.le E I∧Fr a 220 [(0,sL o_x0 c c_x0),(14,vI G),(17,vI k)]∧St I (ownS Ty.int 3 o_x0 c_x0 c::box b_x4 [vI x4] 3::box b_x5 [sL o_x5 x5 c_x5] 76::box b_x6 [vI x6] 3::L) w∧c.length=x0.length∧(F115_l4 G n c k)=some r) fuel ⟨E,x0,x2,zr,g.to,Q,rfl,o⟩ ?_))))))))
  rintro g l m ⟨I,c,k,S,c,T,U,J⟩
  cases g with
  | zero=>cases J
  | succ Q =>
  refine c_seq (c_sq [] [0,14,17,110] c .nil fun c P=>(c_if (decide (k > G)) P (fun K=>?_) (fun K=>?_)))
  ·have o:=cond_t K J
   refine c_skip (n_then (c_seq (c_block 7 ?_)))
   have p:=T.drew
   refine c_regD (rD 18 [15,17]) [15,17] (fun x=>x=m.drew) rfl ?_
   obtain ⟨A,c,o⟩:=bind_some o
   obtain ⟨B,D,E,c,rfl,F⟩:=p.ownGet (j:=0) rfl c
   obtain ⟨z,c,o⟩:=bind_some o
   obtain ⟨l,q,s,c,rfl,t⟩:=p.ownGet (j:=0) rfl c
   obtain ⟨g,c,o⟩:=bind_some o
   obtain ⟨g,m,c,u,rfl,y⟩:=p.ownGet (j:=0) rfl c
   refine c_E 15 [.pointer (some B),vI A, .pointer (some l),vI z, .pointer (some g)] [0,14,17,115,117,122,126,127] P (.prop D (.prop E (.cell (F 0 _ rfl) (.prop q (.prop s (.cell (t 0 _ rfl) (.prop m (.prop c .nil)))))))) .nil fun c q=>?_
   obtain ⟨l,c,o⟩:=bind_some o
   have u:=setI_len c
   refine p_setOwnI (i:=15) (j:=0) (ad:=g) (ix:=k) (x':=A) p q rfl m (by kernel_rfl) c fun m p t c=>?_
   have s:=Fr.conv (fl':=[(0,sL o_x0 l c_x0),(14,vI G),(17,vI k),(115,sL o_x0 l c_x0),(117,vI (w64 (k - (1:Int)))),(122,vI A),(126,vI z),(127, .pointer (some (g.add (Int.toNat k * 1))))]) c (by (try unfold sL); rw [u] <;> kernel_rfl)
   refine ⟨fun e=>absurd e (by decide),?_⟩
   obtain ⟨g,c,o⟩:=bind_some o
   obtain ⟨c,m,g,p,rfl,q⟩:=t.ownGet (j:=0) rfl c
   refine p_qP 1 [.pointer (some c)] [(0,sL o_x0 l c_x0),(14,vI G),(17,vI k),(126,vI z),(128, .pointer (some (c.add (Int.toNat (w64 (k - (1:Int))) * 1))))] [.prop (o_x0=some c), .prop (0≤(w64 (k - (1:Int)))∧(w64 (k - (1:Int)))<(l.length:Nat))] s (by kernel_rfl) (fun _=>(.prop m (.prop g .nil))) fun g p=>?_
   obtain ⟨q,g,o⟩:=bind_some o
   have l:=setI_len g
   refine p_setOwnI (i:=17) (j:=0) (ad:=c) (ix:=(w64 (k - (1:Int)))) (x':=z) t p rfl m (by kernel_rfl) g fun m p s g=>?_
   have c:=Fr.conv (fl':=[(0,sL o_x0 q c_x0),(14,vI G),(17,vI k),(126,vI z),(128, .pointer (some (c.add (Int.toNat (w64 (k - (1:Int))) * 1))))]) g (by (try unfold sL); rw [l] <;> kernel_rfl)
   refine ⟨fun e=>absurd e (by decide),?_⟩
   refine c_done (n_block (n_then (c_q [] [0,14,17] c .nil fun g c=>(n_then (⟨Q,Nat.lt_succ_self Q,I,q,(w64 (k - (1:Int))),S,c.to,s,(l.symm.trans (u.symm.trans U)),o⟩)))))
  have o:=cond_f K J
  refine c_exit 6 (x_then (x_then (x_block (n_then (c_ret (r_then (c_rt [] (.tuple #[]) P .nil ?_)))))))
  obtain rfl:=some_eq o
  exact ⟨_,rfl,I,(zt V S),rfl,(St.pick 4 [0,1,2,3] T (by kernel_rfl)),(U).symm⟩
 have J:=cond_f Y a9
 refine c_skip (n_then (c_sq [] [0,1,2,3,4,18] Z .nil fun l c=>(c_sq [] [0,1,2,3,4,18,19] c .nil fun m g=>(c_sq [] [0,1,2,3,4,18,19] g .nil fun p k=>(c_mid (fun a w=>∃q:Zone,∃s:Int,∃t:Int,Zone.le h q∧Fr a 220 [(0,sL o_x0 x0 c_x0),(1,vI x1),(2,vI x2),(3,vI x3),(4, .func (.func 91) #[] #[pB b_x4 0,pB b_x5 0,pB b_x6 0]),(18,vI (w64 (Int.fdiv (IntKind.wrap .u64 (w64 (x1 + x3))) 2))),(19,vI (w64 ((w64 (Int.fdiv (IntKind.wrap .u64 (w64 (x1 + x3))) 2)) + x2))),(20,vI s),(21,vI t)]∧St q (ownS Ty.int 3 o_x0 c_x0 x0::box b_x4 [vI x4] 3::box b_x5 [sL o_x5 x5 c_x5] 76::box b_x6 [vI x6] 3::L) w∧(F115_j1 fuel rec x4 x5 x6 x0 x1 x2 x3 s t)=some r) ?_ ?_)))))
 ·skip
  refine c_sq [] [0,1,2,3,4,18,19,140] k .nil fun c k=>c_if (decide (x2 > (w64 (Int.fdiv (IntKind.wrap .u64 (w64 (x1 + x3))) 2)))) k (fun g=>?_) (fun g=>?_)
  ·have o:=cond_t g J
   refine c_sq [] [0,1,2,3,4,18,19,20] k .nil fun l c=>c_q [] [0,1,2,3,4,18,19,20,21] c .nil fun l c=>n_then (⟨h,(w64 ((w64 ((w64 (Int.fdiv (IntKind.wrap .u64 (w64 (x1 + x3))) 2)) + x2)) - x3)),(w64 (Int.fdiv (IntKind.wrap .u64 (w64 (x1 + x3))) 2)),zr,c.to,hS,o⟩)
  have o:=cond_f g J
  refine c_sq [] [0,1,2,3,4,18,19,20] k .nil fun g c=>c_q [] [0,1,2,3,4,18,19,20,21] c .nil fun g c=>n_then (⟨h,x1,x2,zr,c.to,hS,o⟩)
 rintro k l ⟨q,s,t,ag,c,g,o⟩
 refine c_sq [] [0,1,2,3,4,18,19,20,21,22] c .nil fun k c=>c_seq (c_block 8 (c_loop (fun n a w=>∃E:Zone,∃P:Int,∃D:Int,Zone.le q E∧Fr a 220 [(0,sL o_x0 x0 c_x0),(1,vI x1),(2,vI x2),(3,vI x3),(4, .func (.func 91) #[] #[pB b_x4 0,pB b_x5 0,pB b_x6 0]),(18,vI (w64 (Int.fdiv (IntKind.wrap .u64 (w64 (x1 + x3))) 2))),(19,vI (w64 ((w64 (Int.fdiv (IntKind.wrap .u64 (w64 (x1 + x3))) 2)) + x2))),(20,vI P),(21,vI D),(22,vI (w64 ((w64 ((w64 (Int.fdiv (IntKind.wrap .u64 (w64 (x1 + x3))) 2)) + x2)) - (1:Int))))]∧St E (ownS Ty.int 3 o_x0 c_x0 x0::box b_x4 [vI x4] 3::box b_x5 [sL o_x5 x5 c_x5] 76::box b_x6 [vI x6] 3::L) w∧(F115_l5 fuel rec x4 x5 x6 x0 x1 x2 x3 n P D)=some r) fuel ⟨q,s,t,zr,c.to,g,o⟩ ?_))
 rintro c g B ⟨E,P,D,ab,k,Q,a2⟩
 cases c with
 | zero=>cases a2
 | succ G =>
 refine c_seq (c_sq [] [0,1,2,3,4,18,19,20,21,22,151] k .nil fun c K=>(c_if (decide (P<D)) K (fun I=>?_) (fun I=>?_)))
 ·have o:=cond_t I a2
  refine c_skip (n_then (c_block 9 (c_sq [] [0,1,2,3,4,18,19,20,21,22,23] K .nil fun c A=>(c_seq ?_))))
  have z:=Q.drew
  refine c_regD (rD 14 [11]) [11] (fun x=>x=B.drew) rfl ?_
  obtain ⟨p,c,o⟩:=bind_some o
  obtain ⟨q,s,t,c,rfl,u⟩:=z.ownGet (j:=0) rfl c
  obtain ⟨c,g,o⟩:=bind_some o
  obtain ⟨g,k,l,y,rfl,m⟩:=z.ownGet (j:=0) rfl g
  refine c_E 11 [.pointer (some q),vI p, .pointer (some g),vI c] [0,1,2,3,4,18,19,20,21,22,23,158,164,168] A (.prop s (.prop t (.cell (u 0 _ rfl) (.prop k (.prop l (.cell (m 0 _ rfl) .nil)))))) .nil fun k g=>p_inl (i:=11) (d:=some 169) (f:=91) (args:= #[vI p,vI c,pB b_x4 0,pB b_x5 0,pB b_x6 0]) (N':=25) g (by kernel_rfl) Tryz.func91 (by kernel_rfl) fun g c=>c_sq [] [0,1,2,3,4] c .nil fun c F=>c_seq ?_
  have c:=z.drew
  refine c_regD (rD 18 [16]) [16] (fun x=>x=(B.drew).drew) rfl ?_
  obtain ⟨u,g,o⟩:=bind_some o
  obtain ⟨y,z,A,g,rfl,B⟩:=SliceR.getI (SliceR.mono (zt ag ab) hx_x5) g
  obtain ⟨g,t,o⟩:=bind_some o
  obtain ⟨q,g,o⟩:=bind_some o
  obtain ⟨k,l,m,g,rfl,p⟩:=SliceR.getI (SliceR.mono (zt ag ab) hx_x5) g
  obtain ⟨s,g,o⟩:=bind_some o
  refine c_E 16 [vI x4,sL o_x5 x5 c_x5, .pointer (some y),vI u,vI x6,vI x4,sL o_x5 x5 c_x5, .pointer (some k),vI q,vI x6] [15,23] F (.cell (c.bx 1 0 rfl rfl) (.cell (c.bx 2 0 rfl rfl) (.prop z (.prop A (.cell (c.cell (B 0 _ rfl)) (.cell (c.bx 3 0 rfl rfl) (.prop (nz_spec t) (.cell (c.bx 1 0 rfl rfl) (.cell (c.bx 2 0 rfl rfl) (.prop l (.prop m (.cell (c.cell (p 0 _ rfl)) (.cell (c.bx 3 0 rfl rfl) (.prop (nz_spec g) .nil)))))))))))))) .nil fun g l=>?_
  obtain ⟨g,k,J⟩:=bind_some o
  refine c_call l (f75_ok fuel (Int.tmod (w64 (x4 * u)) x6) (Int.tmod (w64 (x4 * q)) x6) g k E _ _ c ) ?_
  rintro k l m ⟨rfl,p⟩ c
  refine ⟨fun e=>absurd e (by decide),?_⟩
  refine p_qP 1 [] [(7,vI g)] [] c (by kernel_rfl) (fun _=> .nil) fun k c=>c_dt (c_ret (c_rt [] (vI g) c .nil (⟨_,rfl,fun k c=>?_⟩)))
  refine ⟨fun e=>absurd e (by decide),?_⟩
  refine p_qP 2 [] [(0,sL o_x0 x0 c_x0),(1,vI x1),(2,vI x2),(3,vI x3),(4, .func (.func 91) #[] #[pB b_x4 0,pB b_x5 0,pB b_x6 0]),(18,vI (w64 (Int.fdiv (IntKind.wrap .u64 (w64 (x1 + x3))) 2))),(19,vI (w64 ((w64 (Int.fdiv (IntKind.wrap .u64 (w64 (x1 + x3))) 2)) + x2))),(20,vI P),(21,vI D),(22,vI (w64 ((w64 ((w64 (Int.fdiv (IntKind.wrap .u64 (w64 (x1 + x3))) 2)) + x2)) - (1:Int)))),(23,vI (w64 (Int.fdiv (IntKind.wrap .u64 (w64 (P + D))) 2))),(171, .bool (!(decide (g<(0:Int)))))] [] c (by kernel_rfl) (fun _=> .nil) fun c k=>c_dt (c_if (!(decide (g<(0:Int)))) k (fun c=>?_) (fun c=>?_))
  ·have o:=cond_t c J
   refine c_q [] [0,1,2,3,4,18,19,20,21,22] k .nil fun l g=>n_block (n_then (⟨G,Nat.lt_succ_self G,E,(w64 ((w64 (Int.fdiv (IntKind.wrap .u64 (w64 (P + D))) 2)) + (1:Int))),D,ab,g.to,p,o⟩))
  have o:=cond_f c J
  refine c_q [] [0,1,2,3,4,18,19,20,21,22] k .nil fun g c=>n_block (n_then (⟨G,Nat.lt_succ_self G,E,P,(w64 (Int.fdiv (IntKind.wrap .u64 (w64 (P + D))) 2)),ab,c.to,p,o⟩))
 have J:=cond_f I a2
 refine c_exit 8 (x_then (x_then (x_block (n_then (c_sq [] [0,1,2,3,4,18,20,24] K .nil fun c g=>(c_mid (fun a w=>∃z7:Zone,∃a5:List Int,Zone.le E z7∧Fr a 220 [(0,sL o_x0 a5 c_x0),(1,vI x1),(3,vI x3),(4, .func (.func 91) #[] #[pB b_x4 0,pB b_x5 0,pB b_x6 0]),(18,vI (w64 (Int.fdiv (IntKind.wrap .u64 (w64 (x1 + x3))) 2))),(20,vI P),(24,vI (w64 ((w64 ((w64 (Int.fdiv (IntKind.wrap .u64 (w64 (x1 + x3))) 2)) + x2)) - P)))]∧St z7 (ownS Ty.int 3 o_x0 c_x0 a5::box b_x4 [vI x4] 3::box b_x5 [sL o_x5 x5 c_x5] 76::box b_x6 [vI x6] 3::L) w∧a5.length=x0.length∧(F115_j2 rec x1 x2 x3 P a5)=some r) ?_ ?_))))))
 ·skip
  refine c_mid (fun a w=>∃z8:Zone,∃l:Bool,Zone.le E z8∧Fr a 220 [(0,sL o_x0 x0 c_x0),(1,vI x1),(2,vI x2),(3,vI x3),(4, .func (.func 91) #[] #[pB b_x4 0,pB b_x5 0,pB b_x6 0]),(18,vI (w64 (Int.fdiv (IntKind.wrap .u64 (w64 (x1 + x3))) 2))),(20,vI P),(24,vI (w64 ((w64 ((w64 (Int.fdiv (IntKind.wrap .u64 (w64 (x1 + x3))) 2)) + x2)) - P))),(185, .bool l)]∧St z8 (ownS Ty.int 3 o_x0 c_x0 x0::box b_x4 [vI x4] 3::box b_x5 [sL o_x5 x5 c_x5] 76::box b_x6 [vI x6] 3::L) w∧(F115_j3 fuel rec x0 x1 x2 x3 P l)=some r) ?_ ?_
  ·skip
   refine c_reg (c_n 4 [] [0,1,2,3,4,18,20,24,181] g .nil fun c m=>?_)
   rcases bft (decide (P<x2)) with c | c
   ·have o:=cond_t c J
    have g:=m.lit 181 c
    refine c_t [] [0,1,2,3,4,18,20,24,185] g .nil fun k g=>⟨E,(decide (x2<(w64 ((w64 ((w64 (Int.fdiv (IntKind.wrap .u64 (w64 (x1 + x3))) 2)) + x2)) - P)))),zr,g.to,Q,o⟩
   have o:=cond_f c J
   have c:=m.lit 181 c
   refine c_t [] [0,1,2,3,4,18,20,24,185] c .nil fun g c=>⟨E,false,zr,c.to,Q,o⟩
  rintro c g ⟨z8,l,ai,af,aj,ah⟩
  refine c_if l af (fun ae=>?_) (fun ae=>?_)
  ·have o:=cond_t ae ah
   refine c_reg (c_n 5 [] [0,1,3,4,18,20,24,186,187,188,189,190] af .nil fun p c=>(p_inl (i:=5) (d:=some 191) (f:=118) (args:= #[sL o_x0 x0 c_x0,vI P,vI x2,vI (w64 ((w64 ((w64 (Int.fdiv (IntKind.wrap .u64 (w64 (x1 + x3))) 2)) + x2)) - P)), .func (.func 91) #[] #[pB b_x4 0,pB b_x5 0,pB b_x6 0]]) (N':=58) c (by kernel_rfl) Tryz.func118 (by kernel_rfl) fun q g=>(c_sq [] [0,2,3,4,10] g .nil fun t k=>(c_sq [] [0,2,4,10,11] k .nil fun u l=>(c_seq (c_block 0 (c_loop (fun n a w=>∃V:Zone,∃U:List Int,∃m:Int,∃s:Int,Zone.le z8 V∧Fr a 58 [(0,sL o_x0 U c_x0),(2,vI x2),(4, .func (.func 91) #[] #[pB b_x4 0,pB b_x5 0,pB b_x6 0]),(10,vI m),(11,vI s)]∧St V (ownS Ty.int 3 o_x0 c_x0 U::box b_x4 [vI x4] 3::box b_x5 [sL o_x5 x5 c_x5] 76::box b_x6 [vI x6] 3::L) w∧U.length=x0.length∧(F115_l6 fuel rec x1 x2 x3 P n U m s)=some r) fuel ⟨z8,x0,(w64 (x2 - P)),(w64 ((w64 ((w64 ((w64 (Int.fdiv (IntKind.wrap .u64 (w64 (x1 + x3))) 2)) + x2)) - P)) - x2)),zr,l.to,aj,rfl,o⟩ ?_)))))))
   rintro c g k ⟨V,U,m,s,ac,l,aa,a6,a9⟩
   cases c with
   | zero=>cases a9
   | succ n8 =>
   refine c_seq (c_sq [] [0,2,4,10,11,20] l .nil fun c a8=>(c_if (m != s) a8 (fun a7=>?_) (fun a7=>?_)))
   ·have a2:=cond_t a7 a9
    refine c_skip (n_then (c_block 1 (c_sq [] [0,2,4,10,11,23] a8 .nil fun c a1=>(c_if (decide (m > s)) a1 (fun a0=>?_) (fun a0=>?_)))))
    ·have o:=cond_t a0 a2
     refine c_sr (c_n 7 [] [0,2,4,10,11,24,27,28,29,30] a1 .nil fun p c=>(p_inl (i:=7) (d:=some 31) (f:=119) (args:= #[sL o_x0 U c_x0,vI (w64 (x2 - m)),vI x2,vI s, .func (.func 91) #[] #[pB b_x4 0,pB b_x5 0,pB b_x6 0]]) (N':=38) c (by kernel_rfl) Tryz.func119 (by kernel_rfl) fun q g=>(c_sq [] [0,1,2,3,10] g .nil fun t k=>(c_block 0 (c_loop (fun n a w=>∃Q:Zone,∃K:List Int,∃l:Int,Zone.le V Q∧Fr a 38 [(0,sL o_x0 K c_x0),(1,vI (w64 (x2 - m))),(2,vI x2),(3,vI s),(10,vI l)]∧St Q (ownS Ty.int 3 o_x0 c_x0 K::box b_x4 [vI x4] 3::box b_x5 [sL o_x5 x5 c_x5] 76::box b_x6 [vI x6] 3::L) w∧K.length=x0.length∧(F115_l7 (F115_l6 fuel rec x1 x2 x3 P n8) x2 m s n K l)=some r) fuel ⟨V,U,0,zr,k.to,aa,a6,o⟩ ?_)))))
     rintro c g p ⟨Q,K,l,a3,k,a4,Y,J⟩
     cases c with
     | zero=>cases J
     | succ Z =>
     refine c_seq (c_sq [] [0,1,2,3,10,13] k .nil fun c T=>(c_if (decide (l<s)) T (fun S=>?_) (fun S=>?_)))
     ·have o:=cond_t S J
      refine c_skip (n_then (c_seq (c_block 1 ?_)))
      have q:=a4.drew
      refine c_regD (rD 24 [21,23]) [21,23] (fun x=>x=p.drew) rfl ?_
      obtain ⟨D,c,o⟩:=bind_some o
      obtain ⟨E,F,G,c,rfl,I⟩:=q.ownGet (j:=0) rfl c
      obtain ⟨B,c,o⟩:=bind_some o
      obtain ⟨k,t,u,c,rfl,y⟩:=q.ownGet (j:=0) rfl c
      obtain ⟨g,c,o⟩:=bind_some o
      obtain ⟨g,p,c,z,rfl,A⟩:=q.ownGet (j:=0) rfl c
      refine c_E 21 [.pointer (some E),vI D, .pointer (some k),vI B, .pointer (some g)] [0,1,2,3,10,20,23,29,35,36] T (.prop F (.prop G (.cell (I 0 _ rfl) (.prop t (.prop u (.cell (y 0 _ rfl) (.prop p (.prop c .nil)))))))) .nil fun c t=>?_
      obtain ⟨k,c,o⟩:=bind_some o
      have z:=setI_len c
      refine p_setOwnI (i:=21) (j:=0) (ad:=g) (ix:=(w64 ((w64 (x2 - m)) + l))) (x':=D) q t rfl p (by kernel_rfl) c fun p q y c=>?_
      have u:=Fr.conv (fl':=[(0,sL o_x0 k c_x0),(1,vI (w64 (x2 - m))),(2,vI x2),(3,vI s),(10,vI l),(20,sL o_x0 k c_x0),(23,vI (w64 (x2 + l))),(29,vI D),(35,vI B),(36, .pointer (some (g.add (Int.toNat (w64 ((w64 (x2 - m)) + l)) * 1))))]) c (by (try unfold sL); rw [z] <;> kernel_rfl)
      refine ⟨fun e=>absurd e (by decide),?_⟩
      obtain ⟨g,c,o⟩:=bind_some o
      obtain ⟨c,p,g,q,rfl,t⟩:=y.ownGet (j:=0) rfl c
      refine p_qP 1 [.pointer (some c)] [(0,sL o_x0 k c_x0),(1,vI (w64 (x2 - m))),(2,vI x2),(3,vI s),(10,vI l),(35,vI B),(37, .pointer (some (c.add (Int.toNat (w64 (x2 + l)) * 1))))] [.prop (o_x0=some c), .prop (0≤(w64 (x2 + l))∧(w64 (x2 + l))<(k.length:Nat))] u (by kernel_rfl) (fun _=>(.prop p (.prop g .nil))) fun g q=>?_
      obtain ⟨t,g,o⟩:=bind_some o
      have k:=setI_len g
      refine p_setOwnI (i:=23) (j:=0) (ad:=c) (ix:=(w64 (x2 + l))) (x':=B) y q rfl p (by kernel_rfl) g fun p q u g=>?_
      have c:=Fr.conv (fl':=[(0,sL o_x0 t c_x0),(1,vI (w64 (x2 - m))),(2,vI x2),(3,vI s),(10,vI l),(35,vI B),(37, .pointer (some (c.add (Int.toNat (w64 (x2 + l)) * 1))))]) g (by (try unfold sL); rw [k] <;> kernel_rfl)
      refine ⟨fun e=>absurd e (by decide),?_⟩
      refine c_done (n_block (n_then (c_q [] [0,1,2,3,10] c .nil fun g c=>(n_then (⟨Z,Nat.lt_succ_self Z,Q,t,(w64 (l + (1:Int))),a3,c.to,u,(k.symm.trans (z.symm.trans Y)),o⟩)))))
     have o:=cond_f S J
     refine c_exit 0 (x_then (x_then (x_block (c_fall [] (.tuple #[]) T .nil (⟨_,rfl,fun c g=>?_⟩)))))
     have c:K.length=U.length:=Eq.trans (b:=x0.length) Y (Eq.symm a6)
     have c:=Fr.conv (fl':=[(31, .tuple #[]),(0,sL o_x0 K c_x0),(2,vI x2),(4, .func (.func 91) #[] #[pB b_x4 0,pB b_x5 0,pB b_x6 0]),(10,vI m),(11,vI s),(24,sL o_x0 K c_x0),(27,vI (w64 (x2 - m))),(28,vI x2),(29,vI s),(30, .func (.func 91) #[] #[pB b_x4 0,pB b_x5 0,pB b_x6 0])]) g (by (try unfold sL); rw [c] <;> kernel_rfl)
     refine tv (c_dt (c_q [] [0,2,4,10,11] c .nil fun g c=>(n_block (n_then (⟨n8,Nat.lt_succ_self n8,Q,K,(w64 (m - s)),s,(zt ac a3),c.to,a4,Y,o⟩)))))
    have o:=cond_f a0 a2
    refine c_sr (c_n 11 [] [0,2,4,10,11,35,38,43,44,45] a1 .nil fun p c=>(p_inl (i:=11) (d:=some 46) (f:=119) (args:= #[sL o_x0 U c_x0,vI (w64 (x2 - m)),vI (w64 ((w64 (x2 + s)) - m)),vI m, .func (.func 91) #[] #[pB b_x4 0,pB b_x5 0,pB b_x6 0]]) (N':=38) c (by kernel_rfl) Tryz.func119 (by kernel_rfl) fun q g=>(c_sq [] [0,1,2,3,10] g .nil fun t k=>(c_block 0 (c_loop (fun n a w=>∃Q:Zone,∃K:List Int,∃l:Int,Zone.le V Q∧Fr a 38 [(0,sL o_x0 K c_x0),(1,vI (w64 (x2 - m))),(2,vI (w64 ((w64 (x2 + s)) - m))),(3,vI m),(10,vI l)]∧St Q (ownS Ty.int 3 o_x0 c_x0 K::box b_x4 [vI x4] 3::box b_x5 [sL o_x5 x5 c_x5] 76::box b_x6 [vI x6] 3::L) w∧K.length=x0.length∧(F115_l8 (F115_l6 fuel rec x1 x2 x3 P n8) x2 m s n K l)=some r) fuel ⟨V,U,0,zr,k.to,aa,a6,o⟩ ?_)))))
    rintro c g p ⟨Q,K,l,a0,k,a1,Y,J⟩
    cases c with
    | zero=>cases J
    | succ Z =>
    refine c_seq (c_sq [] [0,1,2,3,10,13] k .nil fun c T=>(c_if (decide (l<m)) T (fun S=>?_) (fun S=>?_)))
    ·have o:=cond_t S J
     refine c_skip (n_then (c_seq (c_block 1 ?_)))
     have q:=a1.drew
     refine c_regD (rD 24 [21,23]) [21,23] (fun x=>x=p.drew) rfl ?_
     obtain ⟨D,c,o⟩:=bind_some o
     obtain ⟨E,F,G,c,rfl,I⟩:=q.ownGet (j:=0) rfl c
     obtain ⟨B,c,o⟩:=bind_some o
     obtain ⟨k,t,u,c,rfl,y⟩:=q.ownGet (j:=0) rfl c
     obtain ⟨g,c,o⟩:=bind_some o
     obtain ⟨g,p,c,z,rfl,A⟩:=q.ownGet (j:=0) rfl c
     refine c_E 21 [.pointer (some E),vI D, .pointer (some k),vI B, .pointer (some g)] [0,1,2,3,10,20,23,29,35,36] T (.prop F (.prop G (.cell (I 0 _ rfl) (.prop t (.prop u (.cell (y 0 _ rfl) (.prop p (.prop c .nil)))))))) .nil fun c t=>?_
     obtain ⟨k,c,o⟩:=bind_some o
     have z:=setI_len c
     refine p_setOwnI (i:=21) (j:=0) (ad:=g) (ix:=(w64 ((w64 (x2 - m)) + l))) (x':=D) q t rfl p (by kernel_rfl) c fun p q y c=>?_
     have u:=Fr.conv (fl':=[(0,sL o_x0 k c_x0),(1,vI (w64 (x2 - m))),(2,vI (w64 ((w64 (x2 + s)) - m))),(3,vI m),(10,vI l),(20,sL o_x0 k c_x0),(23,vI (w64 ((w64 ((w64 (x2 + s)) - m)) + l))),(29,vI D),(35,vI B),(36, .pointer (some (g.add (Int.toNat (w64 ((w64 (x2 - m)) + l)) * 1))))]) c (by (try unfold sL); rw [z] <;> kernel_rfl)
     refine ⟨fun e=>absurd e (by decide),?_⟩
     obtain ⟨g,c,o⟩:=bind_some o
     obtain ⟨c,p,g,q,rfl,t⟩:=y.ownGet (j:=0) rfl c
     refine p_qP 1 [.pointer (some c)] [(0,sL o_x0 k c_x0),(1,vI (w64 (x2 - m))),(2,vI (w64 ((w64 (x2 + s)) - m))),(3,vI m),(10,vI l),(35,vI B),(37, .pointer (some (c.add (Int.toNat (w64 ((w64 ((w64 (x2 + s)) - m)) + l)) * 1))))] [.prop (o_x0=some c), .prop (0≤(w64 ((w64 ((w64 (x2 + s)) - m)) + l))∧(w64 ((w64 ((w64 (x2 + s)) - m)) + l))<(k.length:Nat))] u (by kernel_rfl) (fun _=>(.prop p (.prop g .nil))) fun g q=>?_
     obtain ⟨t,g,o⟩:=bind_some o
     have k:=setI_len g
     refine p_setOwnI (i:=23) (j:=0) (ad:=c) (ix:=(w64 ((w64 ((w64 (x2 + s)) - m)) + l))) (x':=B) y q rfl p (by kernel_rfl) g fun p q u g=>?_
     have c:=Fr.conv (fl':=[(0,sL o_x0 t c_x0),(1,vI (w64 (x2 - m))),(2,vI (w64 ((w64 (x2 + s)) - m))),(3,vI m),(10,vI l),(35,vI B),(37, .pointer (some (c.add (Int.toNat (w64 ((w64 ((w64 (x2 + s)) - m)) + l)) * 1))))]) g (by (try unfold sL); rw [k] <;> kernel_rfl)
     refine ⟨fun e=>absurd e (by decide),?_⟩
     refine c_done (n_block (n_then (c_q [] [0,1,2,3,10] c .nil fun g c=>(n_then (⟨Z,Nat.lt_succ_self Z,Q,t,(w64 (l + (1:Int))),a0,c.to,u,(k.symm.trans (z.symm.trans Y)),o⟩)))))
    have o:=cond_f S J
    refine c_exit 0 (x_then (x_then (x_block (c_fall [] (.tuple #[]) T .nil (⟨_,rfl,fun c g=>?_⟩)))))
    have c:K.length=U.length:=Eq.trans (b:=x0.length) Y (Eq.symm a6)
    have c:=Fr.conv (fl':=[(46, .tuple #[]),(0,sL o_x0 K c_x0),(2,vI x2),(4, .func (.func 91) #[] #[pB b_x4 0,pB b_x5 0,pB b_x6 0]),(10,vI m),(11,vI s),(35,sL o_x0 K c_x0),(38,vI (w64 (x2 - m))),(43,vI (w64 ((w64 (x2 + s)) - m))),(44,vI m),(45, .func (.func 91) #[] #[pB b_x4 0,pB b_x5 0,pB b_x6 0])]) g (by (try unfold sL); rw [c] <;> kernel_rfl)
    refine tv (c_dt (c_q [] [0,2,4,10,11] c .nil fun g c=>(n_block (n_then (⟨n8,Nat.lt_succ_self n8,Q,K,m,(w64 (s - m)),(zt ac a0),c.to,a1,Y,o⟩)))))
   have o:=cond_f a7 a9
   refine c_exit 0 (x_then (x_then (x_block (n_then (c_reg (c_n 7 [] [50,53,54,55,56] a8 .nil fun p c=>(p_inl (i:=7) (d:=some 57) (f:=119) (args:= #[sL o_x0 U c_x0,vI (w64 (x2 - m)),vI x2,vI m, .func (.func 91) #[] #[pB b_x4 0,pB b_x5 0,pB b_x6 0]]) (N':=38) c (by kernel_rfl) Tryz.func119 (by kernel_rfl) fun q g=>(c_sq [] [0,1,2,3,10] g .nil fun s k=>(c_block 0 (c_loop (fun n a w=>∃K:Zone,∃D:List Int,∃l:Int,Zone.le V K∧Fr a 38 [(0,sL o_x0 D c_x0),(1,vI (w64 (x2 - m))),(2,vI x2),(3,vI m),(10,vI l)]∧St K (ownS Ty.int 3 o_x0 c_x0 D::box b_x4 [vI x4] 3::box b_x5 [sL o_x5 x5 c_x5] 76::box b_x6 [vI x6] 3::L) w∧D.length=x0.length∧(F115_l9 rec x1 x2 x3 P m n D l)=some r) fuel ⟨V,U,0,zr,k.to,aa,a6,o⟩ ?_))))))))))
   rintro c g p ⟨K,D,l,Y,k,Z,T,J⟩
   cases c with
   | zero=>cases J
   | succ V =>
   refine c_seq (c_sq [] [0,1,2,3,10,13] k .nil fun c S=>(c_if (decide (l<m)) S (fun Q=>?_) (fun Q=>?_)))
   ·have o:=cond_t Q J
    refine c_skip (n_then (c_seq (c_block 1 ?_)))
    have q:=Z.drew
    refine c_regD (rD 24 [21,23]) [21,23] (fun x=>x=p.drew) rfl ?_
    obtain ⟨B,c,o⟩:=bind_some o
    obtain ⟨E,F,G,c,rfl,I⟩:=q.ownGet (j:=0) rfl c
    obtain ⟨A,c,o⟩:=bind_some o
    obtain ⟨k,s,t,c,rfl,u⟩:=q.ownGet (j:=0) rfl c
    obtain ⟨g,c,o⟩:=bind_some o
    obtain ⟨g,p,c,y,rfl,z⟩:=q.ownGet (j:=0) rfl c
    refine c_E 21 [.pointer (some E),vI B, .pointer (some k),vI A, .pointer (some g)] [0,1,2,3,10,20,23,29,35,36] S (.prop F (.prop G (.cell (I 0 _ rfl) (.prop s (.prop t (.cell (u 0 _ rfl) (.prop p (.prop c .nil)))))))) .nil fun c s=>?_
    obtain ⟨k,c,o⟩:=bind_some o
    have y:=setI_len c
    refine p_setOwnI (i:=21) (j:=0) (ad:=g) (ix:=(w64 ((w64 (x2 - m)) + l))) (x':=B) q s rfl p (by kernel_rfl) c fun p q u c=>?_
    have t:=Fr.conv (fl':=[(0,sL o_x0 k c_x0),(1,vI (w64 (x2 - m))),(2,vI x2),(3,vI m),(10,vI l),(20,sL o_x0 k c_x0),(23,vI (w64 (x2 + l))),(29,vI B),(35,vI A),(36, .pointer (some (g.add (Int.toNat (w64 ((w64 (x2 - m)) + l)) * 1))))]) c (by (try unfold sL); rw [y] <;> kernel_rfl)
    refine ⟨fun e=>absurd e (by decide),?_⟩
    obtain ⟨g,c,o⟩:=bind_some o
    obtain ⟨c,p,g,q,rfl,s⟩:=u.ownGet (j:=0) rfl c
    refine p_qP 1 [.pointer (some c)] [(0,sL o_x0 k c_x0),(1,vI (w64 (x2 - m))),(2,vI x2),(3,vI m),(10,vI l),(35,vI A),(37, .pointer (some (c.add (Int.toNat (w64 (x2 + l)) * 1))))] [.prop (o_x0=some c), .prop (0≤(w64 (x2 + l))∧(w64 (x2 + l))<(k.length:Nat))] t (by kernel_rfl) (fun _=>(.prop p (.prop g .nil))) fun g q=>?_
    obtain ⟨s,g,o⟩:=bind_some o
    have k:=setI_len g
    refine p_setOwnI (i:=23) (j:=0) (ad:=c) (ix:=(w64 (x2 + l))) (x':=A) u q rfl p (by kernel_rfl) g fun p q t g=>?_
    have c:=Fr.conv (fl':=[(0,sL o_x0 s c_x0),(1,vI (w64 (x2 - m))),(2,vI x2),(3,vI m),(10,vI l),(35,vI A),(37, .pointer (some (c.add (Int.toNat (w64 (x2 + l)) * 1))))]) g (by (try unfold sL); rw [k] <;> kernel_rfl)
    refine ⟨fun e=>absurd e (by decide),?_⟩
    refine c_done (n_block (n_then (c_q [] [0,1,2,3,10] c .nil fun g c=>(n_then (⟨V,Nat.lt_succ_self V,K,s,(w64 (l + (1:Int))),Y,c.to,t,(k.symm.trans (y.symm.trans T)),o⟩)))))
   have o:=cond_f Q J
   refine c_exit 0 (x_then (x_then (x_block (c_fall [] (.tuple #[]) S .nil (⟨_,rfl,fun c g=>?_⟩)))))
   have c:D.length=U.length:=Eq.trans (b:=x0.length) T (Eq.symm a6)
   have c:=Fr.conv (fl':=[(57, .tuple #[]),(50,sL o_x0 D c_x0),(53,vI (w64 (x2 - m))),(54,vI x2),(55,vI m),(56, .func (.func 91) #[] #[pB b_x4 0,pB b_x5 0,pB b_x6 0])]) g (by (try unfold sL); rw [c] <;> kernel_rfl)
   refine tv (c_done (c_fall [] (.tuple #[]) c .nil (⟨_,rfl,fun c g=>?_⟩)))
   have c:D.length=x0.length:=Eq.trans (b:=x0.length) T (Eq.symm rfl)
   have c:=Fr.conv (fl':=[(191, .tuple #[]),(0,sL o_x0 D c_x0),(1,vI x1),(3,vI x3),(4, .func (.func 91) #[] #[pB b_x4 0,pB b_x5 0,pB b_x6 0]),(18,vI (w64 (Int.fdiv (IntKind.wrap .u64 (w64 (x1 + x3))) 2))),(20,vI P),(24,vI (w64 ((w64 ((w64 (Int.fdiv (IntKind.wrap .u64 (w64 (x1 + x3))) 2)) + x2)) - P))),(186,sL o_x0 D c_x0),(187,vI P),(188,vI x2),(189,vI (w64 ((w64 ((w64 (Int.fdiv (IntKind.wrap .u64 (w64 (x1 + x3))) 2)) + x2)) - P))),(190, .func (.func 91) #[] #[pB b_x4 0,pB b_x5 0,pB b_x6 0])]) g (by (try unfold sL); rw [c] <;> kernel_rfl)
   refine tv (c_dt (⟨K,D,(zt (zt ai ac) Y),c.to,Z,T,o⟩))
  have o:=cond_f ae ah
  refine c_skip (n_then (⟨z8,x0,ai,af.to,aj,rfl,o⟩))
 rintro c g ⟨z7,a5,I,k,p,F,J⟩
 refine c_mid (fun a w=>∃E:Zone,∃A:List Int,Zone.le z7 E∧Fr a 220 [(0,sL o_x0 A c_x0),(3,vI x3),(4, .func (.func 91) #[] #[pB b_x4 0,pB b_x5 0,pB b_x6 0]),(18,vI (w64 (Int.fdiv (IntKind.wrap .u64 (w64 (x1 + x3))) 2))),(24,vI (w64 ((w64 ((w64 (Int.fdiv (IntKind.wrap .u64 (w64 (x1 + x3))) 2)) + x2)) - P)))]∧St E (ownS Ty.int 3 o_x0 c_x0 A::box b_x4 [vI x4] 3::box b_x5 [sL o_x5 x5 c_x5] 76::box b_x6 [vI x6] 3::L) w∧A.length=x0.length∧(F115_j4 rec x1 x2 x3 P A)=some r) ?_ ?_
 ·skip
  refine c_mid (fun a w=>∃D:Zone,∃l:Bool,Zone.le z7 D∧Fr a 220 [(0,sL o_x0 a5 c_x0),(1,vI x1),(3,vI x3),(4, .func (.func 91) #[] #[pB b_x4 0,pB b_x5 0,pB b_x6 0]),(18,vI (w64 (Int.fdiv (IntKind.wrap .u64 (w64 (x1 + x3))) 2))),(20,vI P),(24,vI (w64 ((w64 ((w64 (Int.fdiv (IntKind.wrap .u64 (w64 (x1 + x3))) 2)) + x2)) - P))),(199, .bool l)]∧St D (ownS Ty.int 3 o_x0 c_x0 a5::box b_x4 [vI x4] 3::box b_x5 [sL o_x5 x5 c_x5] 76::box b_x6 [vI x6] 3::L) w∧(F115_j5 rec x1 x2 x3 P a5 l)=some r) ?_ ?_
  ·skip
   refine c_reg (c_n 4 [] [0,1,3,4,18,20,24,195] k .nil fun c m=>?_)
   rcases bft (decide (x1<P)) with c | c
   ·have o:=cond_t c J
    have g:=m.lit 195 c
    refine c_t [] [0,1,3,4,18,20,24,199] g .nil fun k g=>⟨z7,(decide (P<(w64 (Int.fdiv (IntKind.wrap .u64 (w64 (x1 + x3))) 2)))),zr,g.to,p,o⟩
   have o:=cond_f c J
   have c:=m.lit 195 c
   refine c_t [] [0,1,3,4,18,20,24,199] c .nil fun g c=>⟨z7,false,zr,c.to,p,o⟩
  rintro c g ⟨D,l,y,z,B,J⟩
  refine c_if l z (fun q=>?_) (fun q=>?_)
  ·have o:=cond_t q J
   refine c_reg (c_n 5 [] [0,3,4,18,24,200,201,202,203,204] z .nil fun c k=>?_)
   obtain ⟨c,g,o⟩:=bind_some o
   refine c_call k (hrec a5 x1 P (w64 (Int.fdiv (IntKind.wrap .u64 (w64 (x1 + x3))) 2)) c g _ _ _ B 0 1 2 3 _ _ _ _ _ _ _ (by decide) rfl rfl rfl rfl (SliceR.mono (zt (zt (zt ag ab) I) y) hx_x5)) ?_
   rintro l m p ⟨s,t,rfl,u,k⟩ g
   have g:=Fr.conv (fl':=[(205, .tuple #[]),(0,sL o_x0 c c_x0),(3,vI x3),(4, .func (.func 91) #[] #[pB b_x4 0,pB b_x5 0,pB b_x6 0]),(18,vI (w64 (Int.fdiv (IntKind.wrap .u64 (w64 (x1 + x3))) 2))),(24,vI (w64 ((w64 ((w64 (Int.fdiv (IntKind.wrap .u64 (w64 (x1 + x3))) 2)) + x2)) - P))),(200,sL o_x0 c c_x0),(201,vI x1),(202,vI P),(203,vI (w64 (Int.fdiv (IntKind.wrap .u64 (w64 (x1 + x3))) 2))),(204, .func (.func 91) #[] #[pB b_x4 0,pB b_x5 0,pB b_x6 0])]) g (by (try unfold sL); rw [k] <;> kernel_rfl)
   refine tv (c_dt (⟨s,c,(zt y t),g.to,u,(k.symm.trans F),o⟩))
  have o:=cond_f q J
  refine c_skip (n_then (⟨D,a5,y,z.to,B,F,o⟩))
 rintro c g ⟨E,A,F,k,p,G,J⟩
 refine c_mid (fun a w=>∃B:Zone,∃l:Bool,Zone.le E B∧Fr a 220 [(0,sL o_x0 A c_x0),(3,vI x3),(4, .func (.func 91) #[] #[pB b_x4 0,pB b_x5 0,pB b_x6 0]),(18,vI (w64 (Int.fdiv (IntKind.wrap .u64 (w64 (x1 + x3))) 2))),(24,vI (w64 ((w64 ((w64 (Int.fdiv (IntKind.wrap .u64 (w64 (x1 + x3))) 2)) + x2)) - P))),(213, .bool l)]∧St B (ownS Ty.int 3 o_x0 c_x0 A::box b_x4 [vI x4] 3::box b_x5 [sL o_x5 x5 c_x5] 76::box b_x6 [vI x6] 3::L) w∧(F115_j6 rec x1 x2 x3 P A l)=some r) ?_ ?_
 ·skip
  refine c_reg (c_n 4 [] [0,3,4,18,24,209] k .nil fun c m=>?_)
  rcases bft (decide ((w64 (Int.fdiv (IntKind.wrap .u64 (w64 (x1 + x3))) 2))<(w64 ((w64 ((w64 (Int.fdiv (IntKind.wrap .u64 (w64 (x1 + x3))) 2)) + x2)) - P)))) with c | c
  ·have o:=cond_t c J
   have g:=m.lit 209 c
   refine c_t [] [0,3,4,18,24,213] g .nil fun k g=>⟨E,(decide ((w64 ((w64 ((w64 (Int.fdiv (IntKind.wrap .u64 (w64 (x1 + x3))) 2)) + x2)) - P))<x3)),zr,g.to,p,o⟩
  have o:=cond_f c J
  have c:=m.lit 209 c
  refine c_t [] [0,3,4,18,24,213] c .nil fun g c=>⟨E,false,zr,c.to,p,o⟩
 rintro c g ⟨B,l,z,s,D,J⟩
 refine c_if l s (fun q=>?_) (fun q=>?_)
 ·have o:=cond_t q J
  refine c_reg (c_n 5 [] [214,215,216,217,218] s .nil fun c k=>?_)
  obtain ⟨c,g,o⟩:=bind_some o
  refine c_call k (hrec A (w64 (Int.fdiv (IntKind.wrap .u64 (w64 (x1 + x3))) 2)) (w64 ((w64 ((w64 (Int.fdiv (IntKind.wrap .u64 (w64 (x1 + x3))) 2)) + x2)) - P)) x3 c g _ _ _ D 0 1 2 3 _ _ _ _ _ _ _ (by decide) rfl rfl rfl rfl (SliceR.mono (zt (zt (zt (zt ag ab) I) F) z) hx_x5)) ?_
  rintro l m p ⟨t,u,rfl,y,k⟩ g
  have c:=Fr.conv (fl':=[(219, .tuple #[]),(214,sL o_x0 c c_x0),(215,vI (w64 (Int.fdiv (IntKind.wrap .u64 (w64 (x1 + x3))) 2))),(216,vI (w64 ((w64 ((w64 (Int.fdiv (IntKind.wrap .u64 (w64 (x1 + x3))) 2)) + x2)) - P))),(217,vI x3),(218, .func (.func 91) #[] #[pB b_x4 0,pB b_x5 0,pB b_x6 0])]) g (by (try unfold sL); rw [k] <;> kernel_rfl)
  refine tv (c_done (c_fall [] (.tuple #[]) c .nil ?_))
  obtain rfl:=some_eq o
  exact ⟨_,rfl,t,(zt (zt (zt (zt (zt ag ab) I) F) z) u),rfl,(St.pick 4 [0,1,2,3] y (by kernel_rfl)),((k.symm.trans G)).symm⟩
 have o:=cond_f q J
 refine c_skip (c_fall [] (.tuple #[]) s .nil ?_)
 obtain rfl:=some_eq o
 exact ⟨_,rfl,B,(zt (zt (zt (zt ag ab) I) F) z),rfl,(St.pick 4 [0,1,2,3] D (by kernel_rfl)),(G).symm⟩
theorem st_pull {h:Zone} {L:List Atom} {w:World} (s:St h L w) {i:Nat} {A:Atom} (hi:L[i]? =some A):St h (A::L.set i emp) w:=by
  have:=St.swapTo (i:=i + 1) (j:=0) (St.addEmp s) (by simpa using hi) rfl (by omega)
  simpa using this
theorem st_push {h:Zone} {L:List Atom} {w:World} {A:Atom} (s:St h (A::L) w) {j:Nat} (hj:L[j]? =some emp):St h (L.set j A) w:=by
  have:=St.swapTo (i:=0) (j:=j + 1) s rfl (by simpa using hj) (by omega)
  have:=St.drop 1 this
  simpa using this
def F115r (fuel:Nat) (m:Int) (xs:List Int) (s:Int):Nat→List Int→Int→Int→Int→Option (List Int)
  | 0,_,_,_,_=>none
  | n + 1,X,I1,I2,I3=>F115 fuel (F115r fuel m xs s n) m xs s X I1 I2 I3
theorem f115_n (fuel:Nat) (x4:Int) (x5:List Int) (x6:Int):∀(n:Nat) (X:List Int) (I1 I2 I3:Int) (R:List Int),F115r fuel x4 x5 x6 n X I1 I2 I3=some R→∀(H:Zone) (M:List Atom) (W:World),St H M W→∀(ja jb jc jd:Nat) (O:Option Addr) (C:Nat) (BA BB BC:Nat) (OA:Option Addr) (CA:Nat),
    [ja,jb,jc,jd].Nodup→M[ja]? =some (ownS Ty.int 3 O C X)→M[jb]? =some (box BA [.int .i64 x4] 3)→M[jc]? =some (box BB [.slice OA x5.length CA] 76)→M[jd]? =some (box BC [.int .i64 x6] 3)→SliceR Ty.int H OA CA x5 →
    Calls Tryz.prog 115 #[.slice O X.length C, .int .i64 I1, .int .i64 I2, .int .i64 I3, .func (.func 91) #[] #[.pointer (some ⟨BA,0,none⟩), .pointer (some ⟨BB,0,none⟩), .pointer (some ⟨BC,0,none⟩)]] W fun e W'=>∃v,e= .returned v∧∃H',Zone.le H H'∧v= .tuple #[]∧St H' (M.set ja (ownS Ty.int 3 O C R)) W'∧X.length=R.length
  | 0,_,_,_,_,_,hr=>by cases hr
  | n + 1,X,I1,I2,I3,R,hr=>fun H M W hS ja jb jc jd O C BA BB BC OA CA hne ha hb hc hd hx=>by
    simp only [List.nodup_cons,List.mem_cons,List.not_mem_nil,or_false,not_or,List.nodup_nil,not_false_eq_true,and_true] at hne
    obtain ⟨⟨n1,n2,n3⟩,⟨n4,n5⟩,n6⟩:=hne
    have m1:¬ jb=ja:=fun e=>n1 e.symm
    have m2:¬ jc=ja:=fun e=>n2 e.symm
    have m3:¬ jd=ja:=fun e=>n3 e.symm
    have m4:¬ jc=jb:=fun e=>n4 e.symm
    have m5:¬ jd=jb:=fun e=>n5 e.symm
    have m6:¬ jd=jc:=fun e=>n6 e.symm
    have s1:=st_pull hS hd
    have s2:=st_pull s1 (i:=jc + 1) (A:=box BB [.slice OA x5.length CA] 76) (by simpa [List.getElem?_set_ne (Ne.symm n6)] using hc)
    have s3:=st_pull s2 (i:=jb + 2) (A:=box BA [.int .i64 x4] 3) (by simpa [List.getElem?_set_ne (Ne.symm n5),List.getElem?_set_ne (Ne.symm n4)] using hb)
    have s4:=st_pull s3 (i:=ja + 3) (A:=ownS Ty.int 3 O C X) (by simpa [List.getElem?_set_ne (Ne.symm n3),List.getElem?_set_ne (Ne.symm n2),List.getElem?_set_ne (Ne.symm n1)] using ha)
    simp only [List.set_cons_succ] at s4
    have la:=(List.getElem?_eq_some_iff.1 ha).1
    have lb:=(List.getElem?_eq_some_iff.1 hb).1
    have lc:=(List.getElem?_eq_some_iff.1 hc).1
    have ld:=(List.getElem?_eq_some_iff.1 hd).1
    refine (f115_ok fuel (F115r fuel x4 x5 x6 n) x4 x5 x6 X I1 I2 I3 (f115_n fuel x4 x5 x6 n) R hr H _ W O C BA BB BC OA CA hx s4).mono fun e W' ⟨v,he,H',hle,hv,hs,hl⟩=>?_
    refine ⟨v,he,H',hle,hv,?_,hl⟩
    have p1:=st_push hs (j:=ja + 3) (by simp [List.getElem?_set,la,lb,lc,ld,n1,n2,n3,n4,n5,n6,m1,m2,m3,m4,m5,m6])
    have p2:=st_push p1 (j:=jb + 2) (by simp [List.getElem?_set,la,lb,lc,ld,n1,n2,n3,n4,n5,n6,m1,m2,m3,m4,m5,m6])
    have p3:=st_push p2 (j:=jc + 1) (by simp [List.getElem?_set,la,lb,lc,ld,n1,n2,n3,n4,n5,n6,m1,m2,m3,m4,m5,m6])
    have p4:=st_push p3 (j:=jd) (by simp [List.getElem?_set,la,lb,lc,ld,n1,n2,n3,n4,n5,n6,m1,m2,m3,m4,m5,m6])
    have e:(((((((M.set jd emp).set jc emp).set jb emp).set ja emp).set ja (ownS Ty.int 3 O C R)).set jb (box BA [.int .i64 x4] 3)).set jc (box BB [.slice OA x5.length CA] 76)).set jd (box BC [.int .i64 x6] 3)=M.set ja (ownS Ty.int 3 O C R):=by
      refine List.ext_getElem? fun i=>?_
      simp only [List.getElem?_set,List.length_set,la,lb,lc,ld,if_true]
      by_cases k1:jd=i
      · subst k1; simp [n3,hd]
      · by_cases k2:jc=i
        · subst k2; simp [k1,n2,hc]
        · by_cases k3:jb=i
          · subst k3; simp [k1,k2,n1,hb]
          · by_cases k4:ja=i
            · subst k4; simp [k1,k2,k3]
            · simp [k1,k2,k3,k4]
    rw [← e]
    exact p4
def F70_j2 (k1:(List Int)→Int→Option (List Int)) (k2:(List Int)→Int→Option (List Int)) (y1:Int) (y2:List Int) (y3:Int) (y4:Bool):Option (List Int) :=
  (cond y4 ((getI y2 (w64 (y3 - (1:Int)))).bind fun p1=>((getI y2 y3).bind fun p2=>((getI y2 y3).bind fun p3=>((setI y2 y3 p1).bind fun d1=>((getI d1 (w64 (y3 - (1:Int)))).bind fun p4=>((setI d1 (w64 (y3 - (1:Int))) p2).bind fun d2=>(k2 d2 (w64 (y3 - (1:Int)))))))))) (k1 y2 (w64 (y1 + (1:Int)))))
def F70_l5 (fuel:Nat) (k1:(List Int)→Int→Option (List Int)) (x0:Int) (x1:List Int) (y5:Int) (y6:Int) (y1:Int):Nat→(List Int)→Int→Option (List Int)
  | 0,_,_=>none
  | n1 + 1,y2,y3 =>
    let k2:(List Int)→Int→Option (List Int):=F70_l5 fuel k1 x0 x1 y5 y6 y1 n1
    (cond (decide (y3 > y6)) ((getI y2 y3).bind fun p5=>((getI y2 (w64 (y3 - (1:Int)))).bind fun p6=>((getI x1 p6).bind fun p7=>((nz y5).bind fun _=>((getI x1 p5).bind fun p8=>((nz y5).bind fun _=>((F75 fuel (Int.tmod (w64 (x0 * p7)) y5) (Int.tmod (w64 (x0 * p8)) y5)).bind fun r1=>(F70_j2 k1 k2 y1 y2 y3 (decide (r1<(0:Int))))))))))) (F70_j2 k1 k2 y1 y2 y3 false))
def F70_l4 (fuel:Nat) (k3:(List Int)→Int→Int→Option (List Int)) (x0:Int) (x1:List Int) (y5:Int) (y6:Int) (y7:Int):Nat→(List Int)→Int→Option (List Int)
  | 0,_,_=>none
  | n2 + 1,y8,y1 =>
    let k1:(List Int)→Int→Option (List Int):=F70_l4 fuel k3 x0 x1 y5 y6 y7 n2
    (cond (decide (y1<y7)) (F70_l5 fuel k1 x0 x1 y5 y6 y1 fuel y8 y1) (k3 y8 y7 (w64 (y7 + (20:Int)))))
def F70_j3 (k4:(List Int)→Int→Option (List Int)) (k5:(List Int)→Int→Option (List Int)) (y9:Int) (y10:List Int) (y11:Int) (y12:Bool):Option (List Int) :=
  (cond y12 ((getI y10 (w64 (y11 - (1:Int)))).bind fun p9=>((getI y10 y11).bind fun p10=>((getI y10 y11).bind fun p11=>((setI y10 y11 p9).bind fun d3=>((getI d3 (w64 (y11 - (1:Int)))).bind fun p12=>((setI d3 (w64 (y11 - (1:Int))) p10).bind fun d4=>(k5 d4 (w64 (y11 - (1:Int)))))))))) (k4 y10 (w64 (y9 + (1:Int)))))
def F70_l7 (fuel:Nat) (k4:(List Int)→Int→Option (List Int)) (x0:Int) (x1:List Int) (y5:Int) (y6:Int) (y9:Int):Nat→(List Int)→Int→Option (List Int)
  | 0,_,_=>none
  | n3 + 1,y10,y11 =>
    let k5:(List Int)→Int→Option (List Int):=F70_l7 fuel k4 x0 x1 y5 y6 y9 n3
    (cond (decide (y11 > y6)) ((getI y10 y11).bind fun p13=>((getI y10 (w64 (y11 - (1:Int)))).bind fun p14=>((getI x1 p14).bind fun p15=>((nz y5).bind fun _=>((getI x1 p13).bind fun p16=>((nz y5).bind fun _=>((F75 fuel (Int.tmod (w64 (x0 * p15)) y5) (Int.tmod (w64 (x0 * p16)) y5)).bind fun r2=>(F70_j3 k4 k5 y9 y10 y11 (decide (r2<(0:Int))))))))))) (F70_j3 k4 k5 y9 y10 y11 false))
def F70_j4 (k6:(List Int)→Int→Option (List Int)) (y13:Int) (y14:List Int):Option (List Int) :=
  (k6 y14 (w64 (y13 * (2:Int))))
def F70_l9 (fuel:Nat) (k6:(List Int)→Int→Option (List Int)) (x0:Int) (x1:List Int) (y5:Int) (y15:List Int) (y13:Int):Nat→(List Int)→Int→Int→Option (List Int)
  | 0,_,_,_=>none
  | n4 + 1,y16,y17,y18 =>
    let k7:(List Int)→Int→Int→Option (List Int):=F70_l9 fuel k6 x0 x1 y5 y15 y13 n4
    (cond (decide (y18≤(y15.length:Int))) ((F115r fuel x0 x1 y5 fuel y16 y17 (w64 (y17 + y13)) y18).bind fun r3=>(k7 r3 y18 (w64 (y18 + (w64 ((2:Int) * y13)))))) (cond (decide ((w64 (y17 + y13))<(y15.length:Int))) ((F115r fuel x0 x1 y5 fuel y16 y17 (w64 (y17 + y13)) (y15.length:Int)).bind fun r4=>(F70_j4 k6 y13 r4)) (F70_j4 k6 y13 y16)))
def F70_l10 (d5:List Int):Nat→(List Int)→Int→Option (List Int)
  | 0,_,_=>none
  | n5 + 1,y19,y20 =>
    let k8:(List Int)→Int→Option (List Int):=F70_l10 d5 n5
    (cond (decide (y20<(d5.length:Int))) ((getI d5 y20).bind fun p17=>((getI y19 p17).bind fun p18=>((getI y19 p17).bind fun p19=>((setI y19 p17 (w64 (p18 + (1:Int)))).bind fun d6=>(k8 d6 (w64 (y20 + (1:Int)))))))) (some (y19)))
def F70_l8 (fuel:Nat) (x0:Int) (x1:List Int) (y5:Int) (y21:List Int) (y15:List Int) (y22:Int):Nat→(List Int)→Int→Option (List Int)
  | 0,_,_=>none
  | n6 + 1,y23,y13 =>
    let k6:(List Int)→Int→Option (List Int):=F70_l8 fuel x0 x1 y5 y21 y15 y22 n6
    (cond (decide (y13<(y15.length:Int))) (F70_l9 fuel k6 x0 x1 y5 y15 y13 fuel y23 0 (w64 ((2:Int) * y13))) ((subI y23 0 y22).bind fun d5=>(F70_l10 d5 fuel y21 0)))
def F70_l6 (fuel:Nat) (x0:Int) (x1:List Int) (y5:Int) (y21:List Int) (y15:List Int) (y22:Int) (y6:Int):Nat→(List Int)→Int→Option (List Int)
  | 0,_,_=>none
  | n7 + 1,y24,y9 =>
    let k4:(List Int)→Int→Option (List Int):=F70_l6 fuel x0 x1 y5 y21 y15 y22 y6 n7
    (cond (decide (y9<(y15.length:Int))) (F70_l7 fuel k4 x0 x1 y5 y6 y9 fuel y24 y9) (F70_l8 fuel x0 x1 y5 y21 y15 y22 fuel y24 20))
def F70_l3 (fuel:Nat) (x0:Int) (x1:List Int) (y5:Int) (y21:List Int) (y15:List Int) (y22:Int):Nat→(List Int)→Int→Int→Option (List Int)
  | 0,_,_,_=>none
  | n8 + 1,y25,y6,y7 =>
    let k3:(List Int)→Int→Int→Option (List Int):=F70_l3 fuel x0 x1 y5 y21 y15 y22 n8
    (cond (decide (y7≤(y15.length:Int))) (F70_l4 fuel k3 x0 x1 y5 y6 y7 fuel y25 (w64 (y6 + (1:Int)))) (F70_l6 fuel x0 x1 y5 y21 y15 y22 y6 fuel y25 (w64 (y6 + (1:Int)))))
def F70_l2 (fuel:Nat) (x0:Int) (x1:List Int) (y5:Int):Nat→(List Int)→(List Int)→Int→Int→Option (List Int)
  | 0,_,_,_,_=>none
  | n9 + 1,y21,y15,y22,y26 =>
    let k9:(List Int)→(List Int)→Int→Int→Option (List Int):=F70_l2 fuel x0 x1 y5 n9
    (cond (decide (y26<(x1.length:Int))) ((getI x1 y26).bind fun p20=>((nz y5).bind fun _=>((getI y21 y26).bind fun p21=>((setI y21 y26 (w64 (Int.tdiv (w64 (x0 * p20)) y5))).bind fun d7=>((getI y15 y26).bind fun p22=>((setI y15 y26 y26).bind fun d8=>((getI d7 y26).bind fun p23=>(k9 d7 d8 (w64 (y22 - p23)) (w64 (y26 + (1:Int))))))))))) (F70_l3 fuel x0 x1 y5 y21 y15 y22 fuel y15 0 20))
def F70_j1 (fuel:Nat) (x0:Int) (x1:List Int) (y5:Int) (y27:List Int):Option (List Int) :=
  (cond (y5 == (0:Int)) (some (y27)) (F70_l2 fuel x0 x1 y5 fuel y27 y27 x0 0))
def F70_l1 (fuel:Nat) (x0:Int) (x1:List Int):Nat→Int→Int→Option (List Int)
  | 0,_,_=>none
  | n10 + 1,y5,y28 =>
    let k10:Int→Int→Option (List Int):=F70_l1 fuel x0 x1 n10
    (cond (decide (y28<(x1.length:Int))) ((getI x1 y28).bind fun p24=>(k10 (w64 (y5 + p24)) (w64 (y28 + (1:Int))))) ((mkC (x1.length:Int) (0:Int)).bind fun d9=>(F70_j1 fuel x0 x1 y5 d9)))
def F70 (fuel:Nat) (x0:Int) (x1:List Int):Option (List Int) :=
  (F70_l1 fuel x0 x1 fuel 0 0)
set_option maxRecDepth 100000 in
theorem f70_ok (fuel:Nat) (x0:Int) (x1:List Int) (r:List Int) (hr:F70 fuel x0 x1=some r) (h:Zone) (L:List Atom) (w:World) (hS:St h L w) (o_x1:Option Addr) (c_x1:Nat) (hx_x1:SliceR Ty.int h o_x1 c_x1 x1) :
    Calls Tryz.prog 70 #[vI x0, .slice o_x1 x1.length c_x1] w fun e w'=>∃v,e= .returned v∧(∃h',∃o0:Option Addr,∃c0:Nat,Zone.le h h'∧v= .slice o0 r.length c0∧St h' L w'∧SliceR Ty.int h' o0 c0 r):=by
 refine calls_intro (N:=80) Tryz.func70 (by kernel_rfl) fun a hf=>c_sr (c_box [vI x0] 3 hS hf fun Q A B g k=>tv (c_box [sL o_x1 x1 c_x1] 76 g k fun R C D l m=>tv (c_t [] [2,3] m .nil fun E o=>(c_sr (c_box [vI 0] 3 l o fun S F G p q=>tv (c_st 0 [vI 0] p q rfl fun H I c t=>tv (c_dt (c_seq (c_sq [sL o_x1 x1 c_x1] [2,3,5,15,16,17] t (.cell (c.bx 1 0 rfl rfl) .nil) fun J u=>(c_block 0 (c_loop (fun n a w=>∃M:Zone,∃P:Int,∃z:Int,Zone.le h M∧Fr a 80 [(2,pB Q 0),(3,pB R 0),(5,pB S 0),(15,sL o_x1 x1 c_x1),(16,vI (x1.length:Int)),(17,vI z)]∧St M (box S [vI P] 3::box R [sL o_x1 x1 c_x1] 76::box Q [vI x0] 3::L) w∧(F70_l1 fuel x0 x1 n P z)=some r) fuel ⟨h,0,0,zr,u.to,c,hr⟩ ?_)))))))))))
 rintro c g k ⟨M,P,z,aj,l,A,K⟩
 cases c with
 | zero=>cases K
 | succ B =>
 refine c_sq [] [2,3,5,15,16,17,18] l .nil fun c C=>c_seq (c_if (decide (z<(x1.length:Int))) C (fun o=>?_) (fun o=>?_))
 ·have y:=cond_t o K
  refine c_skip (n_then (c_seq (c_block 1 ?_)))
  obtain ⟨k,c,y⟩:=bind_some y
  obtain ⟨c,g,l,p,rfl,m⟩:=SliceR.getI (SliceR.mono aj hx_x1) c
  refine c_sq [.pointer (some c),vI k] [2,3,5,7,15,16,17] C (.prop g (.prop l (.cell (A.cell (m 0 _ rfl)) .nil))) fun g c=>c_reg (c_n 3 [vI P] [2,3,5,15,16,17,23] c (.cell (A.bx 0 0 rfl rfl) .nil) fun p c=>(c_st 0 [vI (w64 (P + k))] A c rfl fun q t l g=>tv (c_done (n_block (n_then (c_q [] [2,3,5,15,16,17] g .nil fun u m=>(n_then (⟨B,Nat.lt_succ_self B,M,(w64 (P + k)),(w64 (z + (1:Int))),aj,m.to,l,y⟩))))))))
 have K:=cond_f o K
 refine c_exit 0 (x_then (x_then (x_block (n_then (c_mid (fun a w=>∃u:Zone,∃a3:List Int,∃e1:Option Addr,∃H:Nat,∃O:Option Addr,Zone.le M u∧Fr a 80 [(2,pB Q 0),(3,pB R 0),(5,pB S 0),(8,sL e1 a3 H),(9,sL O a3 H),(10,vI x0)]∧St u (ownS Ty.int 3 e1 H a3::ownS Ty.int 3 O H a3::box S [vI P] 3::box R [sL o_x1 x1 c_x1] 76::box Q [vI x0] 3::L) w∧(F70_j1 fuel x0 x1 P a3)=some r) ?_ ?_)))))
 ·skip
  have p:=A.drew
  have c:=Sub.of zr p
  refine w_regB (by kernel_rfl) [] (Sub M (box S [vI P] 3::box R [sL o_x1 x1 c_x1] 76::box Q [vI x0] 3::L)) (by kernel_rfl) (k_seg' 5 [(0,true),(1,true),(3,true),(4,true),(6,true)] (by kernel_rfl) (by kernel_rfl) (At.start c) (by kernel_rfl) (c_S 5 [sL o_x1 x1 c_x1,sL o_x1 x1 c_x1,vI x0] [2,3,5,26,29,31] c C (fun _ s=>(.cell (s.bx 1 0 rfl rfl) (.cell (s.bx 1 0 rfl rfl) (.cell (s.bx 2 0 rfl rfl) .nil)))) .nil fun c t=>c_done ?_))
  intro c
  refine k_any' 4 [2,5] (by kernel_rfl) c (by kernel_rfl) (by kernel_rfl) ((all_cons ?_ (all_cons ?_ all_nil)))
  ·skip
   obtain ⟨o,l,y⟩:=bind_some K
   refine p_make (T:=Ty.int) (i:=2) (d:=some 27) (x0:=(0:Int)) el76 p t (by kernel_rfl) rfl l fun q c k g m=>⟨fun _=>Sub.of zr (St.drop 1 g),?_⟩
   refine c_done ?_
   intro c
   have k:=Sub.of zr (St.drop 1 g)
   refine k_seg' 0 [(7,true),(5,false),(8,true),(9,true)] (by kernel_rfl) (by kernel_rfl) c (by kernel_rfl) (c_S 1 [] [2,3,5,8,29,31] k m (fun _ s=> .nil) .nil fun k c=>p_make (T:=Ty.int) (i:=5) (d:=some 30) (x0:=(0:Int)) el76 g c (by kernel_rfl) rfl l fun m c l g k=>⟨fun _=>Sub.of zr (St.drop 2 g),?_⟩)
   have c:=Sub.of zr (St.drop 2 g)
   refine c_S 2 [] [2,3,5,8,9,10] c k (fun _ s=> .nil) .nil fun c k=>c_done ?_
   intro c
   refine k_done' (by kernel_rfl) (by kernel_rfl) (n_then (⟨M,o,(some q),o.length,(some m),zr,k.to,(St.pick 2 [1,0] g (by kernel_rfl)),y⟩))
  skip
  obtain ⟨o,k,y⟩:=bind_some K
  refine p_make (T:=Ty.int) (i:=5) (d:=some 30) (x0:=(0:Int)) el76 p t (by kernel_rfl) rfl k fun p g l c m=>⟨fun _=>Sub.of zr (St.drop 1 c),?_⟩
  refine c_done ?_
  intro g
  have l:=Sub.of zr (St.drop 1 c)
  refine k_seg' 0 [(2,false),(7,true),(8,true),(9,true)] (by kernel_rfl) (by kernel_rfl) g (by kernel_rfl) (p_make (T:=Ty.int) (i:=2) (d:=some 27) (x0:=(0:Int)) el76 c m (by kernel_rfl) rfl k fun m c l g k=>⟨fun _=>Sub.of zr (St.drop 2 g),?_⟩)
  have c:=Sub.of zr (St.drop 2 g)
  refine c_S 3 [] [2,3,5,8,9,10] c k (fun _ s=> .nil) .nil fun c k=>c_done ?_
  intro c
  refine k_done' (by kernel_rfl) (by kernel_rfl) (n_then (⟨M,o,(some m),o.length,(some p),zr,k.to,(St.pick 2 [0,1] g (by kernel_rfl)),y⟩))
 rintro k l ⟨u,a3,e1,H,O,ak,c,g,y⟩
 refine c_seq (c_sq [vI P] [2,3,5,8,9,10,33] c (.cell (g.bx 2 0 rfl rfl) .nil) fun k l=>(c_if (P == (0:Int)) l (fun c=>?_) (fun c=>?_)))
 ·have K:=cond_t c y
  refine c_sq [] [4] l .nil fun k m=>c_ret (r_then ?_)
  obtain ⟨k,o,p,q⟩:=g.share (j:=0) rfl
  refine c_rt [] (sL e1 a3 H) m .nil ?_
  obtain rfl:=some_eq K
  exact ⟨_,rfl,k,e1,H,(zt (zt aj ak) o),rfl,(St.drop 5 p),q⟩
 have y:=cond_f c y
 refine c_skip (n_then (c_seq (c_sq [sL o_x1 x1 c_x1] [2,3,5,8,9,10,35,36,37] l (.cell (g.bx 3 0 rfl rfl) .nil) fun k c=>(c_block 2 (c_loop (fun n a w=>∃C:Zone,∃Z:List Int,∃M:List Int,∃a4:Int,∃m:Int,Zone.le u C∧Fr a 80 [(2,pB Q 0),(3,pB R 0),(5,pB S 0),(8,sL e1 Z H),(9,sL O M H),(10,vI a4),(35,sL o_x1 x1 c_x1),(36,vI (x1.length:Int)),(37,vI m)]∧St C (ownS Ty.int 3 e1 H Z::ownS Ty.int 3 O H M::box S [vI P] 3::box R [sL o_x1 x1 c_x1] 76::box Q [vI x0] 3::L) w∧Z.length=a3.length∧M.length=a3.length∧(F70_l2 fuel x0 x1 P n Z M a4 m)=some r) fuel ⟨u,a3,a3,x0,0,zr,c.to,g,rfl,rfl,y⟩ ?_)))))
 rintro c g k ⟨C,Z,M,a4,m,ai,l,B,ao,an,K⟩
 cases c with
 | zero=>cases K
 | succ G =>
 refine c_sq [] [2,3,5,8,9,10,35,36,37,38] l .nil fun c F=>c_seq (c_if (decide (m<(x1.length:Int))) F (fun E=>?_) (fun E=>?_))
 ·have y:=cond_t E K
  refine c_skip (n_then (c_seq (c_block 3 ?_)))
  obtain ⟨q,c,y⟩:=bind_some y
  obtain ⟨c,g,k,o,rfl,l⟩:=SliceR.getI (SliceR.mono (zt (zt aj ak) ai) hx_x1) c
  refine c_sq [.pointer (some c),vI q] [2,3,5,8,9,10,11,12,35,36,37] F (.prop g (.prop k (.cell (B.cell (l 0 _ rfl)) .nil))) fun c t=>c_sr ?_
  obtain ⟨c,l,y⟩:=bind_some y
  obtain ⟨g,c,y⟩:=bind_some y
  obtain ⟨g,k,c,o,rfl,p⟩:=B.ownGet (j:=0) rfl c
  refine c_n 11 [vI x0,vI P, .pointer (some g)] [2,3,5,8,9,10,11,35,36,37,44,45,50,51,52] t (.cell (B.bx 4 0 rfl rfl) (.cell (B.bx 2 0 rfl rfl) (.prop (nz_spec l) (.prop k (.prop c .nil))))) fun c l=>?_
  obtain ⟨A,c,y⟩:=bind_some y
  have D:=setI_len c
  refine p_setOwnI (i:=11) (j:=0) (ad:=g) (ix:=m) (x':=(w64 (Int.tdiv (w64 (x0 * q)) P))) B l rfl k (by kernel_rfl) c fun k l t c=>?_
  have p:=Fr.conv (fl':=[(2,pB Q 0),(3,pB R 0),(5,pB S 0),(8,sL e1 A H),(9,sL O M H),(10,vI a4),(11,vI m),(35,sL o_x1 x1 c_x1),(36,vI (x1.length:Int)),(37,vI m),(44,sL O M H),(45,vI m),(50,vI (w64 (Int.tdiv (w64 (x0 * q)) P))),(51,vI m),(52, .pointer (some (g.add (Int.toNat m * 1))))]) c (by (try unfold sL); rw [D] <;> kernel_rfl)
  refine tv ?_
  obtain ⟨g,c,y⟩:=bind_some y
  obtain ⟨g,k,c,l,rfl,o⟩:=t.ownGet (j:=1) rfl c
  refine c_n 1 [.pointer (some g)] [2,3,5,8,9,10,11,35,36,37,51,53] p (.prop k (.prop c .nil)) fun c l=>?_
  obtain ⟨z,c,y⟩:=bind_some y
  have u:=setI_len c
  refine p_setOwnI (i:=13) (j:=1) (ad:=g) (ix:=m) (x':=m) t l rfl k (by kernel_rfl) c fun k l q c=>?_
  have t:=Fr.conv (fl':=[(2,pB Q 0),(3,pB R 0),(5,pB S 0),(8,sL e1 A H),(9,sL O z H),(10,vI a4),(11,vI m),(35,sL o_x1 x1 c_x1),(36,vI (x1.length:Int)),(37,vI m),(51,vI m),(53, .pointer (some (g.add (Int.toNat m * 1))))]) c (by (try unfold sL); rw [u] <;> kernel_rfl)
  refine tv (c_dt ?_)
  obtain ⟨o,c,y⟩:=bind_some y
  obtain ⟨c,g,k,p,rfl,l⟩:=q.ownGet (j:=0) rfl c
  refine c_q [.pointer (some c),vI o] [2,3,5,8,9,10,35,36,37] t (.prop g (.prop k (.cell (l 0 _ rfl) .nil))) fun g c=>n_block (n_then (c_q [] [2,3,5,8,9,10,35,36,37] c .nil fun g c=>(n_then (⟨G,Nat.lt_succ_self G,C,A,z,(w64 (a4 - o)),(w64 (m + (1:Int))),ai,c.to,q,(D.symm.trans ao),(u.symm.trans an),y⟩))))
 have y:=cond_f E K
 refine c_exit 2 (x_then (x_then (x_block (n_then (c_sr (c_n 2 [] [8,9,10,61,62] F .nil fun p c=>(p_inl (i:=2) (d:=some 63) (f:=90) (args:= #[sL O M H, .func (.func 91) #[] #[pB Q 0,pB R 0,pB S 0]]) (N':=9) c (by kernel_rfl) Tryz.func90 (by kernel_rfl) fun q g=>(c_reg (c_n 4 [] [4,6,7] g .nil fun t k=>(p_inl (i:=4) (d:=some 8) (f:=106) (args:= #[sL O M H,vI (M.length:Int), .func (.func 91) #[] #[pB Q 0,pB R 0,pB S 0]]) (N':=63) k (by kernel_rfl) Tryz.func106 (by kernel_rfl) fun u l=>(c_sq [] [0,1,2,6] l .nil fun z m=>(c_sq [] [0,1,2,6,7,8] m .nil fun A o=>(c_seq (c_block 0 (c_loop (fun n a w=>∃z5:Zone,∃a6:List Int,∃I:Int,∃G:Int,Zone.le C z5∧Fr a 63 [(0,sL O a6 H),(1,vI (M.length:Int)),(2, .func (.func 91) #[] #[pB Q 0,pB R 0,pB S 0]),(6,vI 20),(7,vI I),(8,vI G)]∧St z5 (ownS Ty.int 3 e1 H Z::ownS Ty.int 3 O H a6::box S [vI P] 3::box R [sL o_x1 x1 c_x1] 76::box Q [vI x0] 3::L) w∧a6.length=a3.length∧(F70_l3 fuel x0 x1 P Z M a4 n a6 I G)=some r) fuel ⟨C,M,0,20,zr,o.to,B,an,y⟩ ?_)))))))))))))))
 rintro c g k ⟨z5,a6,I,G,ah,l,al,am,ae⟩
 cases c with
 | zero=>cases ae
 | succ n8 =>
 refine c_seq (c_sq [] [0,1,2,6,7,8,13] l .nil fun c ac=>(c_if (decide (G≤(M.length:Int))) ac (fun ab=>?_) (fun ab=>?_)))
 ·have y:=cond_t ab ae
  refine c_skip (n_then (c_block 1 (c_sr (c_n 4 [] [0,1,2,6,8,14,15,16,17] ac .nil fun l c=>(p_inl (i:=4) (d:=some 18) (f:=114) (args:= #[sL O a6 H,vI I,vI G, .func (.func 91) #[] #[pB Q 0,pB R 0,pB S 0]]) (N':=53) c (by kernel_rfl) Tryz.func114 (by kernel_rfl) fun m g=>(c_sq [] [0,1,2,3,8] g .nil fun o k=>(c_block 0 (c_loop (fun n a w=>∃z6:Zone,∃X:List Int,∃J:Int,Zone.le z5 z6∧Fr a 53 [(0,sL O X H),(1,vI I),(2,vI G),(3, .func (.func 91) #[] #[pB Q 0,pB R 0,pB S 0]),(8,vI J)]∧St z6 (ownS Ty.int 3 e1 H Z::ownS Ty.int 3 O H X::box S [vI P] 3::box R [sL o_x1 x1 c_x1] 76::box Q [vI x0] 3::L) w∧X.length=a3.length∧(F70_l4 fuel (F70_l3 fuel x0 x1 P Z M a4 n8) x0 x1 P I G n X J)=some r) fuel ⟨z5,a6,(w64 (I + (1:Int))),zr,k.to,al,am,y⟩ ?_))))))))
  rintro c g k ⟨z6,X,J,a7,l,ag,aa,a2⟩
  cases c with
  | zero=>cases a2
  | succ n2 =>
  refine c_seq (c_sq [] [0,1,2,3,8,14] l .nil fun c a9=>(c_if (decide (J<G)) a9 (fun a8=>?_) (fun a8=>?_)))
  ·have y:=cond_t a8 a2
   refine c_skip (n_then (c_seq (c_block 1 (c_sq [] [0,1,2,3,8,9] a9 .nil fun g c=>(c_block 2 (c_loop (fun n a w=>∃F:Zone,∃V:List Int,∃B:Int,Zone.le z6 F∧Fr a 53 [(0,sL O V H),(1,vI I),(2,vI G),(3, .func (.func 91) #[] #[pB Q 0,pB R 0,pB S 0]),(8,vI J),(9,vI B)]∧St F (ownS Ty.int 3 e1 H Z::ownS Ty.int 3 O H V::box S [vI P] 3::box R [sL o_x1 x1 c_x1] 76::box Q [vI x0] 3::L) w∧V.length=a3.length∧(F70_l5 fuel (F70_l4 fuel (F70_l3 fuel x0 x1 P Z M a4 n8) x0 x1 P I G n2) x0 x1 P I J n V B)=some r) fuel ⟨z6,X,J,zr,c.to,ag,aa,y⟩ ?_))))))
   rintro c g C ⟨F,V,B,a5,l,k,af,K⟩
   cases c with
   | zero=>cases K
   | succ n1 =>
   refine c_seq (c_mid (fun a w=>∃z8:Zone,∃Y:Bool,Zone.le F z8∧Fr a 53 [(0,sL O V H),(1,vI I),(2,vI G),(3, .func (.func 91) #[] #[pB Q 0,pB R 0,pB S 0]),(8,vI J),(9,vI B),(34, .bool Y)]∧St z8 (ownS Ty.int 3 e1 H Z::ownS Ty.int 3 O H V::box S [vI P] 3::box R [sL o_x1 x1 c_x1] 76::box Q [vI x0] 3::L) w∧(F70_j2 (F70_l4 fuel (F70_l3 fuel x0 x1 P Z M a4 n8) x0 x1 P I G n2) (F70_l5 fuel (F70_l4 fuel (F70_l3 fuel x0 x1 P Z M a4 n8) x0 x1 P I G n2) x0 x1 P I J n1) J V B Y)=some r) ?_ ?_)
   ·skip
    have W:=k.drew
    refine c_regD (rD 17 [14]) [14] (fun x=>x=C.drew) rfl (c_E 4 [] [0,1,2,3,8,9,21] l .nil .nil fun c a0=>?_)
    rcases bft (decide (B > I)) with E | E
    ·have y:=cond_t E K
     have A:=a0.lit 21 E
     obtain ⟨o,c,y⟩:=bind_some y
     obtain ⟨p,q,t,c,rfl,u⟩:=W.ownGet (j:=1) rfl c
     obtain ⟨c,g,y⟩:=bind_some y
     obtain ⟨g,k,l,z,rfl,m⟩:=W.ownGet (j:=1) rfl g
     refine c_E 10 [.pointer (some p),vI o, .pointer (some g),vI c] [0,1,2,3,8,9,21,22,26,31] A (.prop q (.prop t (.cell (u 0 _ rfl) (.prop k (.prop l (.cell (m 0 _ rfl) .nil)))))) .nil fun k g=>p_inl (i:=14) (d:=some 32) (f:=91) (args:= #[vI o,vI c,pB Q 0,pB R 0,pB S 0]) (N':=25) g (by kernel_rfl) Tryz.func91 (by kernel_rfl) fun g c=>c_sq [] [0,1,2,3,4] c .nil fun c U=>c_seq ?_
     have c:=W.drew
     refine c_regD (rD 18 [16]) [16] (fun x=>x=(C.drew).drew) rfl ?_
     obtain ⟨u,g,y⟩:=bind_some y
     obtain ⟨z,A,C,g,rfl,D⟩:=SliceR.getI (SliceR.mono (zt (zt (zt (zt (zt aj ak) ai) ah) a7) a5) hx_x1) g
     obtain ⟨g,t,y⟩:=bind_some y
     obtain ⟨p,g,y⟩:=bind_some y
     obtain ⟨k,l,m,g,rfl,o⟩:=SliceR.getI (SliceR.mono (zt (zt (zt (zt (zt aj ak) ai) ah) a7) a5) hx_x1) g
     obtain ⟨q,g,y⟩:=bind_some y
     refine c_E 16 [vI x0,sL o_x1 x1 c_x1, .pointer (some z),vI u,vI P,vI x0,sL o_x1 x1 c_x1, .pointer (some k),vI p,vI P] [15,23] U (.cell (c.bx 4 0 rfl rfl) (.cell (c.bx 3 0 rfl rfl) (.prop A (.prop C (.cell (c.cell (D 0 _ rfl)) (.cell (c.bx 2 0 rfl rfl) (.prop (nz_spec t) (.cell (c.bx 4 0 rfl rfl) (.cell (c.bx 3 0 rfl rfl) (.prop l (.prop m (.cell (c.cell (o 0 _ rfl)) (.cell (c.bx 2 0 rfl rfl) (.prop (nz_spec g) .nil)))))))))))))) .nil fun g l=>?_
     obtain ⟨g,k,y⟩:=bind_some y
     refine c_call l (f75_ok fuel (Int.tmod (w64 (x0 * u)) P) (Int.tmod (w64 (x0 * p)) P) g k F _ _ c ) ?_
     rintro k l m ⟨rfl,o⟩ c
     refine ⟨fun e=>absurd e (by decide),?_⟩
     refine p_qP 1 [] [(7,vI g)] [] c (by kernel_rfl) (fun _=> .nil) fun k c=>c_dt (c_ret (c_rt [] (vI g) c .nil (⟨_,rfl,fun k c=>?_⟩)))
     refine ⟨fun e=>absurd e (by decide),?_⟩
     refine p_qP 2 [] [(0,sL O V H),(1,vI I),(2,vI G),(3, .func (.func 91) #[] #[pB Q 0,pB R 0,pB S 0]),(8,vI J),(9,vI B),(34, .bool (decide (g<(0:Int))))] [] c (by kernel_rfl) (fun _=> .nil) fun k c=>c_dt (⟨F,(decide (g<(0:Int))),zr,c.to,o,y⟩)
    have y:=cond_f E K
    have c:=a0.lit 21 E
    refine c_E 10 [] [0,1,2,3,8,9,21,22,26,31] c .nil .nil fun g c=>p_qL 1 [] [(0,sL O V H),(1,vI I),(2,vI G),(3, .func (.func 91) #[] #[pB Q 0,pB R 0,pB S 0]),(8,vI J),(9,vI B),(21, .bool false),(32,undef)] [] c (by kernel_rfl) .nil fun g c=>c_tE [] [0,1,2,3,8,9,34] c .nil .nil fun g c=>⟨F,false,zr,c.to,W,y⟩
   rintro c g ⟨z8,Y,a0,W,a1,K⟩
   refine c_if Y W (fun U=>?_) (fun U=>?_)
   ·have y:=cond_t U K
    refine c_skip (n_then (c_seq (c_block 3 ?_)))
    have m:=a1.drew
    refine c_regD (rD 18 [15,17]) [15,17] (fun x=>x=g.drew) rfl ?_
    obtain ⟨A,c,y⟩:=bind_some y
    obtain ⟨C,D,E,c,rfl,F⟩:=m.ownGet (j:=1) rfl c
    obtain ⟨z,c,y⟩:=bind_some y
    obtain ⟨k,o,p,c,rfl,q⟩:=m.ownGet (j:=1) rfl c
    obtain ⟨g,c,y⟩:=bind_some y
    obtain ⟨g,l,c,t,rfl,u⟩:=m.ownGet (j:=1) rfl c
    refine c_E 15 [.pointer (some C),vI A, .pointer (some k),vI z, .pointer (some g)] [0,1,2,3,8,9,39,41,46,50,51] W (.prop D (.prop E (.cell (F 0 _ rfl) (.prop o (.prop p (.cell (q 0 _ rfl) (.prop l (.prop c .nil)))))))) .nil fun c o=>?_
    obtain ⟨k,c,y⟩:=bind_some y
    have t:=setI_len c
    refine p_setOwnI (i:=15) (j:=1) (ad:=g) (ix:=B) (x':=A) m o rfl l (by kernel_rfl) c fun l m q c=>?_
    have p:=Fr.conv (fl':=[(0,sL O k H),(1,vI I),(2,vI G),(3, .func (.func 91) #[] #[pB Q 0,pB R 0,pB S 0]),(8,vI J),(9,vI B),(39,sL O k H),(41,vI (w64 (B - (1:Int)))),(46,vI A),(50,vI z),(51, .pointer (some (g.add (Int.toNat B * 1))))]) c (by (try unfold sL); rw [t] <;> kernel_rfl)
    refine ⟨fun e=>absurd e (by decide),?_⟩
    obtain ⟨g,c,y⟩:=bind_some y
    obtain ⟨c,l,g,m,rfl,o⟩:=q.ownGet (j:=1) rfl c
    refine p_qP 1 [.pointer (some c)] [(0,sL O k H),(1,vI I),(2,vI G),(3, .func (.func 91) #[] #[pB Q 0,pB R 0,pB S 0]),(8,vI J),(9,vI B),(50,vI z),(52, .pointer (some (c.add (Int.toNat (w64 (B - (1:Int))) * 1))))] [.prop (O=some c), .prop (0≤(w64 (B - (1:Int)))∧(w64 (B - (1:Int)))<(k.length:Nat))] p (by kernel_rfl) (fun _=>(.prop l (.prop g .nil))) fun g m=>?_
    obtain ⟨o,g,y⟩:=bind_some y
    have k:=setI_len g
    refine p_setOwnI (i:=17) (j:=1) (ad:=c) (ix:=(w64 (B - (1:Int)))) (x':=z) q m rfl l (by kernel_rfl) g fun l m p g=>?_
    have c:=Fr.conv (fl':=[(0,sL O o H),(1,vI I),(2,vI G),(3, .func (.func 91) #[] #[pB Q 0,pB R 0,pB S 0]),(8,vI J),(9,vI B),(50,vI z),(52, .pointer (some (c.add (Int.toNat (w64 (B - (1:Int))) * 1))))]) g (by (try unfold sL); rw [k] <;> kernel_rfl)
    refine ⟨fun e=>absurd e (by decide),?_⟩
    refine c_done (n_block (n_then (c_q [] [0,1,2,3,8,9] c .nil fun g c=>(n_then (⟨n1,Nat.lt_succ_self n1,z8,o,(w64 (B - (1:Int))),(zt a5 a0),c.to,p,(k.symm.trans (t.symm.trans af)),y⟩)))))
   have y:=cond_f U K
   refine c_exit 2 (x_then (x_then (x_block (n_block (n_then (c_q [] [0,1,2,3,8] W .nil fun g c=>(n_then (⟨n2,Nat.lt_succ_self n2,z8,V,(w64 (J + (1:Int))),(zt (zt a7 a5) a0),c.to,a1,af,y⟩))))))))
  have y:=cond_f a8 a2
  refine c_exit 0 (x_then (x_then (x_block (c_fall [] (.tuple #[]) a9 .nil (⟨_,rfl,fun c g=>?_⟩)))))
  have c:X.length=a6.length:=Eq.trans (b:=a3.length) aa (Eq.symm am)
  have c:=Fr.conv (fl':=[(18, .tuple #[]),(0,sL O X H),(1,vI (M.length:Int)),(2, .func (.func 91) #[] #[pB Q 0,pB R 0,pB S 0]),(6,vI 20),(8,vI G),(14,sL O X H),(15,vI I),(16,vI G),(17, .func (.func 91) #[] #[pB Q 0,pB R 0,pB S 0])]) g (by (try unfold sL); rw [c] <;> kernel_rfl)
  refine tv (c_dt (c_sq [] [0,1,2,6,7,8] c .nil fun k c=>(c_q [] [0,1,2,6,7,8] c .nil fun l g=>(n_block (n_then (⟨n8,Nat.lt_succ_self n8,z6,X,G,(w64 (G + (20:Int))),(zt ah a7),g.to,ag,aa,y⟩))))))
 have y:=cond_f ab ae
 refine c_exit 0 (x_then (x_then (x_block (n_then (c_sr (c_n 4 [] [0,1,2,6,23,24,25,26] ac .nil fun l c=>(p_inl (i:=4) (d:=some 27) (f:=114) (args:= #[sL O a6 H,vI I,vI (M.length:Int), .func (.func 91) #[] #[pB Q 0,pB R 0,pB S 0]]) (N':=53) c (by kernel_rfl) Tryz.func114 (by kernel_rfl) fun m g=>(c_sq [] [0,1,2,3,8] g .nil fun o k=>(c_block 0 (c_loop (fun n a w=>∃z9:Zone,∃W:List Int,∃G:Int,Zone.le z5 z9∧Fr a 53 [(0,sL O W H),(1,vI I),(2,vI (M.length:Int)),(3, .func (.func 91) #[] #[pB Q 0,pB R 0,pB S 0]),(8,vI G)]∧St z9 (ownS Ty.int 3 e1 H Z::ownS Ty.int 3 O H W::box S [vI P] 3::box R [sL o_x1 x1 c_x1] 76::box Q [vI x0] 3::L) w∧W.length=a3.length∧(F70_l6 fuel x0 x1 P Z M a4 I n W G)=some r) fuel ⟨z5,a6,(w64 (I + (1:Int))),zr,k.to,al,am,y⟩ ?_))))))))))
 rintro c g k ⟨z9,W,G,aa,l,ac,a9,a2⟩
 cases c with
 | zero=>cases a2
 | succ n7 =>
 refine c_seq (c_sq [] [0,1,2,3,8,14] l .nil fun c a8=>(c_if (decide (G<(M.length:Int))) a8 (fun a7=>?_) (fun a7=>?_)))
 ·have y:=cond_t a7 a2
  refine c_skip (n_then (c_seq (c_block 1 (c_sq [] [0,1,2,3,8,9] a8 .nil fun g c=>(c_block 2 (c_loop (fun n a w=>∃F:Zone,∃U:List Int,∃B:Int,Zone.le z9 F∧Fr a 53 [(0,sL O U H),(1,vI I),(2,vI (M.length:Int)),(3, .func (.func 91) #[] #[pB Q 0,pB R 0,pB S 0]),(8,vI G),(9,vI B)]∧St F (ownS Ty.int 3 e1 H Z::ownS Ty.int 3 O H U::box S [vI P] 3::box R [sL o_x1 x1 c_x1] 76::box Q [vI x0] 3::L) w∧U.length=a3.length∧(F70_l7 fuel (F70_l6 fuel x0 x1 P Z M a4 I n7) x0 x1 P I G n U B)=some r) fuel ⟨z9,W,G,zr,c.to,ac,a9,y⟩ ?_))))))
  rintro c g C ⟨F,U,B,a5,l,k,ab,K⟩
  cases c with
  | zero=>cases K
  | succ n3 =>
  refine c_seq (c_mid (fun a w=>∃a1:Zone,∃X:Bool,Zone.le F a1∧Fr a 53 [(0,sL O U H),(1,vI I),(2,vI (M.length:Int)),(3, .func (.func 91) #[] #[pB Q 0,pB R 0,pB S 0]),(8,vI G),(9,vI B),(34, .bool X)]∧St a1 (ownS Ty.int 3 e1 H Z::ownS Ty.int 3 O H U::box S [vI P] 3::box R [sL o_x1 x1 c_x1] 76::box Q [vI x0] 3::L) w∧(F70_j3 (F70_l6 fuel x0 x1 P Z M a4 I n7) (F70_l7 fuel (F70_l6 fuel x0 x1 P Z M a4 I n7) x0 x1 P I G n3) G U B X)=some r) ?_ ?_)
  ·skip
   have V:=k.drew
   refine c_regD (rD 17 [14]) [14] (fun x=>x=C.drew) rfl (c_E 4 [] [0,1,2,3,8,9,21] l .nil .nil fun c Y=>?_)
   rcases bft (decide (B > I)) with E | E
   ·have y:=cond_t E K
    have A:=Y.lit 21 E
    obtain ⟨o,c,y⟩:=bind_some y
    obtain ⟨p,q,t,c,rfl,u⟩:=V.ownGet (j:=1) rfl c
    obtain ⟨c,g,y⟩:=bind_some y
    obtain ⟨g,k,l,z,rfl,m⟩:=V.ownGet (j:=1) rfl g
    refine c_E 10 [.pointer (some p),vI o, .pointer (some g),vI c] [0,1,2,3,8,9,21,22,26,31] A (.prop q (.prop t (.cell (u 0 _ rfl) (.prop k (.prop l (.cell (m 0 _ rfl) .nil)))))) .nil fun k g=>p_inl (i:=14) (d:=some 32) (f:=91) (args:= #[vI o,vI c,pB Q 0,pB R 0,pB S 0]) (N':=25) g (by kernel_rfl) Tryz.func91 (by kernel_rfl) fun g c=>c_sq [] [0,1,2,3,4] c .nil fun c J=>c_seq ?_
    have c:=V.drew
    refine c_regD (rD 18 [16]) [16] (fun x=>x=(C.drew).drew) rfl ?_
    obtain ⟨u,g,y⟩:=bind_some y
    obtain ⟨z,A,C,g,rfl,D⟩:=SliceR.getI (SliceR.mono (zt (zt (zt (zt (zt aj ak) ai) ah) aa) a5) hx_x1) g
    obtain ⟨g,t,y⟩:=bind_some y
    obtain ⟨p,g,y⟩:=bind_some y
    obtain ⟨k,l,m,g,rfl,o⟩:=SliceR.getI (SliceR.mono (zt (zt (zt (zt (zt aj ak) ai) ah) aa) a5) hx_x1) g
    obtain ⟨q,g,y⟩:=bind_some y
    refine c_E 16 [vI x0,sL o_x1 x1 c_x1, .pointer (some z),vI u,vI P,vI x0,sL o_x1 x1 c_x1, .pointer (some k),vI p,vI P] [15,23] J (.cell (c.bx 4 0 rfl rfl) (.cell (c.bx 3 0 rfl rfl) (.prop A (.prop C (.cell (c.cell (D 0 _ rfl)) (.cell (c.bx 2 0 rfl rfl) (.prop (nz_spec t) (.cell (c.bx 4 0 rfl rfl) (.cell (c.bx 3 0 rfl rfl) (.prop l (.prop m (.cell (c.cell (o 0 _ rfl)) (.cell (c.bx 2 0 rfl rfl) (.prop (nz_spec g) .nil)))))))))))))) .nil fun g l=>?_
    obtain ⟨g,k,y⟩:=bind_some y
    refine c_call l (f75_ok fuel (Int.tmod (w64 (x0 * u)) P) (Int.tmod (w64 (x0 * p)) P) g k F _ _ c ) ?_
    rintro k l m ⟨rfl,o⟩ c
    refine ⟨fun e=>absurd e (by decide),?_⟩
    refine p_qP 1 [] [(7,vI g)] [] c (by kernel_rfl) (fun _=> .nil) fun k c=>c_dt (c_ret (c_rt [] (vI g) c .nil (⟨_,rfl,fun k c=>?_⟩)))
    refine ⟨fun e=>absurd e (by decide),?_⟩
    refine p_qP 2 [] [(0,sL O U H),(1,vI I),(2,vI (M.length:Int)),(3, .func (.func 91) #[] #[pB Q 0,pB R 0,pB S 0]),(8,vI G),(9,vI B),(34, .bool (decide (g<(0:Int))))] [] c (by kernel_rfl) (fun _=> .nil) fun k c=>c_dt (⟨F,(decide (g<(0:Int))),zr,c.to,o,y⟩)
   have y:=cond_f E K
   have c:=Y.lit 21 E
   refine c_E 10 [] [0,1,2,3,8,9,21,22,26,31] c .nil .nil fun g c=>p_qL 1 [] [(0,sL O U H),(1,vI I),(2,vI (M.length:Int)),(3, .func (.func 91) #[] #[pB Q 0,pB R 0,pB S 0]),(8,vI G),(9,vI B),(21, .bool false),(32,undef)] [] c (by kernel_rfl) .nil fun g c=>c_tE [] [0,1,2,3,8,9,34] c .nil .nil fun g c=>⟨F,false,zr,c.to,V,y⟩
  rintro c g ⟨a1,X,Y,V,a0,K⟩
  refine c_if X V (fun J=>?_) (fun J=>?_)
  ·have y:=cond_t J K
   refine c_skip (n_then (c_seq (c_block 3 ?_)))
   have m:=a0.drew
   refine c_regD (rD 18 [15,17]) [15,17] (fun x=>x=g.drew) rfl ?_
   obtain ⟨A,c,y⟩:=bind_some y
   obtain ⟨C,D,E,c,rfl,F⟩:=m.ownGet (j:=1) rfl c
   obtain ⟨z,c,y⟩:=bind_some y
   obtain ⟨k,o,p,c,rfl,q⟩:=m.ownGet (j:=1) rfl c
   obtain ⟨g,c,y⟩:=bind_some y
   obtain ⟨g,l,c,t,rfl,u⟩:=m.ownGet (j:=1) rfl c
   refine c_E 15 [.pointer (some C),vI A, .pointer (some k),vI z, .pointer (some g)] [0,1,2,3,8,9,39,41,46,50,51] V (.prop D (.prop E (.cell (F 0 _ rfl) (.prop o (.prop p (.cell (q 0 _ rfl) (.prop l (.prop c .nil)))))))) .nil fun c o=>?_
   obtain ⟨k,c,y⟩:=bind_some y
   have t:=setI_len c
   refine p_setOwnI (i:=15) (j:=1) (ad:=g) (ix:=B) (x':=A) m o rfl l (by kernel_rfl) c fun l m q c=>?_
   have p:=Fr.conv (fl':=[(0,sL O k H),(1,vI I),(2,vI (M.length:Int)),(3, .func (.func 91) #[] #[pB Q 0,pB R 0,pB S 0]),(8,vI G),(9,vI B),(39,sL O k H),(41,vI (w64 (B - (1:Int)))),(46,vI A),(50,vI z),(51, .pointer (some (g.add (Int.toNat B * 1))))]) c (by (try unfold sL); rw [t] <;> kernel_rfl)
   refine ⟨fun e=>absurd e (by decide),?_⟩
   obtain ⟨g,c,y⟩:=bind_some y
   obtain ⟨c,l,g,m,rfl,o⟩:=q.ownGet (j:=1) rfl c
   refine p_qP 1 [.pointer (some c)] [(0,sL O k H),(1,vI I),(2,vI (M.length:Int)),(3, .func (.func 91) #[] #[pB Q 0,pB R 0,pB S 0]),(8,vI G),(9,vI B),(50,vI z),(52, .pointer (some (c.add (Int.toNat (w64 (B - (1:Int))) * 1))))] [.prop (O=some c), .prop (0≤(w64 (B - (1:Int)))∧(w64 (B - (1:Int)))<(k.length:Nat))] p (by kernel_rfl) (fun _=>(.prop l (.prop g .nil))) fun g m=>?_
   obtain ⟨o,g,y⟩:=bind_some y
   have k:=setI_len g
   refine p_setOwnI (i:=17) (j:=1) (ad:=c) (ix:=(w64 (B - (1:Int)))) (x':=z) q m rfl l (by kernel_rfl) g fun l m p g=>?_
   have c:=Fr.conv (fl':=[(0,sL O o H),(1,vI I),(2,vI (M.length:Int)),(3, .func (.func 91) #[] #[pB Q 0,pB R 0,pB S 0]),(8,vI G),(9,vI B),(50,vI z),(52, .pointer (some (c.add (Int.toNat (w64 (B - (1:Int))) * 1))))]) g (by (try unfold sL); rw [k] <;> kernel_rfl)
   refine ⟨fun e=>absurd e (by decide),?_⟩
   refine c_done (n_block (n_then (c_q [] [0,1,2,3,8,9] c .nil fun g c=>(n_then (⟨n3,Nat.lt_succ_self n3,a1,o,(w64 (B - (1:Int))),(zt a5 Y),c.to,p,(k.symm.trans (t.symm.trans ab)),y⟩)))))
  have y:=cond_f J K
  refine c_exit 2 (x_then (x_then (x_block (n_block (n_then (c_q [] [0,1,2,3,8] V .nil fun g c=>(n_then (⟨n7,Nat.lt_succ_self n7,a1,U,(w64 (G + (1:Int))),(zt (zt aa a5) Y),c.to,a0,ab,y⟩))))))))
 have y:=cond_f a7 a2
 refine c_exit 0 (x_then (x_then (x_block (c_fall [] (.tuple #[]) a8 .nil (⟨_,rfl,fun c g=>?_⟩)))))
 have c:W.length=a6.length:=Eq.trans (b:=a3.length) a9 (Eq.symm am)
 have c:=Fr.conv (fl':=[(27, .tuple #[]),(0,sL O W H),(1,vI (M.length:Int)),(2, .func (.func 91) #[] #[pB Q 0,pB R 0,pB S 0]),(6,vI 20),(23,sL O W H),(24,vI I),(25,vI (M.length:Int)),(26, .func (.func 91) #[] #[pB Q 0,pB R 0,pB S 0])]) g (by (try unfold sL); rw [c] <;> kernel_rfl)
 refine tv (c_dt (c_block 2 (c_loop (fun n a w=>∃I:Zone,∃F:List Int,∃p:Int,Zone.le z9 I∧Fr a 63 [(0,sL O F H),(1,vI (M.length:Int)),(2, .func (.func 91) #[] #[pB Q 0,pB R 0,pB S 0]),(6,vI p)]∧St I (ownS Ty.int 3 e1 H Z::ownS Ty.int 3 O H F::box S [vI P] 3::box R [sL o_x1 x1 c_x1] 76::box Q [vI x0] 3::L) w∧F.length=a3.length∧(F70_l8 fuel x0 x1 P Z M a4 n F p)=some r) fuel ⟨z9,W,20,zr,c.to,ac,a9,y⟩ ?_)))
 rintro c g k ⟨I,F,p,a1,l,a5,a0,a2⟩
 cases c with
 | zero=>cases a2
 | succ U =>
 refine c_seq (c_sq [] [0,1,2,6,30] l .nil fun c Y=>(c_if (decide (p<(M.length:Int))) Y (fun X=>?_) (fun X=>?_)))
 ·have y:=cond_t X a2
  refine c_skip (n_then (c_block 3 (c_sq [] [0,1,2,6,7,8] Y .nil fun k c=>(c_seq (c_block 4 (c_loop (fun n a w=>∃G:Zone,∃C:List Int,∃m:Int,∃g:Int,Zone.le I G∧Fr a 63 [(0,sL O C H),(1,vI (M.length:Int)),(2, .func (.func 91) #[] #[pB Q 0,pB R 0,pB S 0]),(6,vI p),(7,vI m),(8,vI g)]∧St G (ownS Ty.int 3 e1 H Z::ownS Ty.int 3 O H C::box S [vI P] 3::box R [sL o_x1 x1 c_x1] 76::box Q [vI x0] 3::L) w∧C.length=a3.length∧(F70_l9 fuel (F70_l8 fuel x0 x1 P Z M a4 U) x0 x1 P M p n C m g)=some r) fuel ⟨I,F,0,(w64 ((2:Int) * p)),zr,c.to,a5,a0,y⟩ ?_))))))
  rintro c k l ⟨G,C,m,g,J,o,V,W,K⟩
  cases c with
  | zero=>cases K
  | succ E =>
  refine c_seq (c_sq [] [0,1,2,6,7,8,35] o .nil fun c D=>(c_if (decide (g≤(M.length:Int))) D (fun u=>?_) (fun u=>?_)))
  ·have y:=cond_t u K
   refine c_skip (n_then (c_block 5 (c_sr (c_n 7 [] [0,1,2,6,8,36,37,40,41,42] D .nil fun c l=>?_))))
   obtain ⟨k,c,y⟩:=bind_some y
   refine c_call l (f115_n fuel x0 x1 P fuel C m (w64 (m + p)) g k c _ _ _ V 1 4 3 2 _ _ _ _ _ _ _ (by decide) rfl rfl rfl rfl (SliceR.mono (zt (zt (zt (zt (zt (zt aj ak) ai) ah) aa) a1) J) hx_x1)) ?_
   rintro l q t ⟨z,A,rfl,B,o⟩ c
   have c:=Fr.conv (fl':=[(43, .tuple #[]),(0,sL O k H),(1,vI (M.length:Int)),(2, .func (.func 91) #[] #[pB Q 0,pB R 0,pB S 0]),(6,vI p),(8,vI g),(36,sL O k H),(37,vI m),(40,vI (w64 (m + p))),(41,vI g),(42, .func (.func 91) #[] #[pB Q 0,pB R 0,pB S 0])]) c (by (try unfold sL); rw [o] <;> kernel_rfl)
   refine tv (c_dt (c_sq [] [0,1,2,6,7,8] c .nil fun q c=>(c_q [] [0,1,2,6,7,8] c .nil fun t l=>(n_block (n_then (⟨E,Nat.lt_succ_self E,z,k,g,(w64 (g + (w64 ((2:Int) * p)))),(zt J A),l.to,B,(o.symm.trans W),y⟩))))))
  have K:=cond_f u K
  refine c_exit 4 (x_then (x_then (x_block (n_then (c_mid (fun a w=>∃E:Zone,∃u:List Int,Zone.le G E∧Fr a 63 [(0,sL O u H),(1,vI (M.length:Int)),(2, .func (.func 91) #[] #[pB Q 0,pB R 0,pB S 0]),(6,vI p)]∧St E (ownS Ty.int 3 e1 H Z::ownS Ty.int 3 O H u::box S [vI P] 3::box R [sL o_x1 x1 c_x1] 76::box Q [vI x0] 3::L) w∧u.length=a3.length∧(F70_j4 (F70_l8 fuel x0 x1 P Z M a4 U) p u)=some r) ?_ ?_)))))
  ·skip
   refine c_sq [] [0,1,2,6,7,9] D .nil fun g c=>c_sq [] [0,1,2,6,7,9,54] c .nil fun c D=>c_if (decide ((w64 (m + p))<(M.length:Int))) D (fun t=>?_) (fun t=>?_)
   ·have y:=cond_t t K
    refine c_reg (c_n 5 [] [0,1,2,6,55,56,57,58,59] D .nil fun c k=>?_)
    obtain ⟨c,g,y⟩:=bind_some y
    refine c_call k (f115_n fuel x0 x1 P fuel C m (w64 (m + p)) (M.length:Int) c g _ _ _ V 1 4 3 2 _ _ _ _ _ _ _ (by decide) rfl rfl rfl rfl (SliceR.mono (zt (zt (zt (zt (zt (zt aj ak) ai) ah) aa) a1) J) hx_x1)) ?_
    rintro l o q ⟨z,A,rfl,B,k⟩ g
    have g:=Fr.conv (fl':=[(60, .tuple #[]),(0,sL O c H),(1,vI (M.length:Int)),(2, .func (.func 91) #[] #[pB Q 0,pB R 0,pB S 0]),(6,vI p),(55,sL O c H),(56,vI m),(57,vI (w64 (m + p))),(58,vI (M.length:Int)),(59, .func (.func 91) #[] #[pB Q 0,pB R 0,pB S 0])]) g (by (try unfold sL); rw [k] <;> kernel_rfl)
    refine tv (c_dt (⟨z,c,A,g.to,B,(k.symm.trans W),y⟩))
   have y:=cond_f t K
   refine c_skip (n_then (⟨G,C,zr,D.to,V,W,y⟩))
  rintro g k ⟨E,u,l,c,m,o,y⟩
  refine c_q [] [0,1,2,6] c .nil fun g c=>n_block (n_then (⟨U,Nat.lt_succ_self U,E,u,(w64 (p * (2:Int))),(zt (zt a1 J) l),c.to,m,o,y⟩))
 have y:=cond_f X a2
 refine c_exit 2 (x_then (x_then (x_block (c_fall [] (.tuple #[]) Y .nil (⟨_,rfl,fun c g=>?_⟩)))))
 have c:F.length=M.length:=Eq.trans (b:=a3.length) a0 (Eq.symm an)
 have c:=Fr.conv (fl':=[(8, .tuple #[]),(4,sL O F H),(6,vI (M.length:Int)),(7, .func (.func 91) #[] #[pB Q 0,pB R 0,pB S 0])]) g (by (try unfold sL); rw [c] <;> kernel_rfl)
 refine tv (c_done (c_fall [] (.tuple #[]) c .nil (⟨_,rfl,fun c g=>?_⟩)))
 have c:F.length=M.length:=Eq.trans (b:=a3.length) a0 (Eq.symm an)
 have l:=Fr.conv (fl':=[(63, .tuple #[]),(8,sL e1 Z H),(9,sL O F H),(10,vI a4),(61,sL O F H),(62, .func (.func 91) #[] #[pB Q 0,pB R 0,pB S 0])]) g (by (try unfold sL); rw [c] <;> kernel_rfl)
 refine tv (c_dt (c_seq ?_))
 obtain ⟨o,c,y⟩:=bind_some y
 obtain ⟨c,g,k⟩:=a5.ownSub (j:=1) rfl c
 refine c_sq [sL O o H] [8,66,67,68] l (.prop c (.prop g .nil)) fun g c=>c_block 4 (c_loop (fun n a w=>∃F:Zone,∃C:List Int,∃B:Int,Zone.le I F∧Fr a 80 [(8,sL e1 C H),(66,sL O o H),(67,vI (o.length:Int)),(68,vI B)]∧St F (ownS Ty.int 3 e1 H C::ownS Ty.int 3 O H o::box S [vI P] 3::box R [sL o_x1 x1 c_x1] 76::box Q [vI x0] 3::L) w∧C.length=a3.length∧(F70_l10 o n C B)=some r) fuel ⟨I,Z,0,zr,c.to,k,ao,y⟩ ?_)
 rintro c g k ⟨F,C,B,M,l,E,P,K⟩
 cases c with
 | zero=>cases K
 | succ J =>
 refine c_sq [] [8,66,67,68,69] l .nil fun c I=>c_seq (c_if (decide (B<(o.length:Int))) I (fun G=>?_) (fun G=>?_))
 ·have y:=cond_t G K
  refine c_skip (n_then (c_seq (c_block 5 ?_)))
  obtain ⟨A,c,y⟩:=bind_some y
  obtain ⟨c,g,k,m,rfl,l⟩:=E.ownGet (j:=1) rfl c
  refine c_sq [.pointer (some c),vI A] [8,14,66,67,68] I (.prop g (.prop k (.cell (l 0 _ rfl) .nil))) fun c D=>c_reg ?_
  obtain ⟨m,c,y⟩:=bind_some y
  obtain ⟨l,p,q,c,rfl,t⟩:=E.ownGet (j:=0) rfl c
  obtain ⟨g,c,y⟩:=bind_some y
  obtain ⟨g,k,c,u,rfl,z⟩:=E.ownGet (j:=0) rfl c
  refine c_n 6 [.pointer (some l),vI m, .pointer (some g)] [8,66,67,68,76,77] D (.prop p (.prop q (.cell (t 0 _ rfl) (.prop k (.prop c .nil))))) fun c p=>?_
  obtain ⟨q,c,y⟩:=bind_some y
  have l:=setI_len c
  refine p_setOwnI (i:=6) (j:=0) (ad:=g) (ix:=A) (x':=(w64 (m + (1:Int)))) E p rfl k (by kernel_rfl) c fun k p t c=>?_
  have c:=Fr.conv (fl':=[(8,sL e1 q H),(66,sL O o H),(67,vI (o.length:Int)),(68,vI B),(76,vI (w64 (m + (1:Int)))),(77, .pointer (some (g.add (Int.toNat A * 1))))]) c (by (try unfold sL); rw [l] <;> kernel_rfl)
  refine tv (c_done (n_block (n_then (c_q [] [8,66,67,68] c .nil fun g c=>(n_then (⟨J,Nat.lt_succ_self J,F,q,(w64 (B + (1:Int))),M,c.to,t,(l.symm.trans P),y⟩))))))
 have y:=cond_f G K
 refine c_exit 4 (x_then (x_then (x_block (n_then (c_sq [] [4] I .nil fun g c=>(c_ret ?_))))))
 obtain ⟨g,k,l,m⟩:=E.share (j:=0) rfl
 refine c_rt [] (sL e1 C H) c .nil ?_
 obtain rfl:=some_eq y
 exact ⟨_,rfl,g,e1,H,(zt (zt (zt (zt (zt (zt (zt aj ak) ai) ah) aa) a1) M) k),rfl,(St.drop 5 l),m⟩
end Go.Proofs.YtlmgjjmighajdaaGreat
set_option linter.unusedVariables false
namespace Go.Proofs.YtlmgjjmighajdaaGreat
open Go.Sl Go.Sx
def F39_j1 (k1:(List Part)→(List Part)→Int→Option (List Part×List Part)) (y1:Int) (y2:List Part) (y3:List Part):Option (List Part×List Part) :=
  (k1 y2 y3 (w64 (y1 + (1:Int))))
def F39_j2 (k1:(List Part)→(List Part)→Int→Option (List Part×List Part)) (y4:List Part) (y1:Int) (p1:Int) (p2:Part) (y5:List Part):Option (List Part×List Part) :=
  (cond (decide (p1<p2.mass)) ((appC y4 ([⟨p2.lot,(w64 (p2.mass - p1))⟩])).bind fun d1=>(F39_j1 k1 y1 y5 d1)) (F39_j1 k1 y1 y5 y4))
def F39_l2 (x0:List Part) (r1:List Int):Nat→(List Part)→(List Part)→Int→Option (List Part×List Part)
  | 0,_,_,_=>none
  | n1 + 1,y6,y4,y1 =>
    let k1:(List Part)→(List Part)→Int→Option (List Part×List Part):=F39_l2 x0 r1 n1
    (cond (decide (y1<(r1.length:Int))) ((getI r1 y1).bind fun p1=>((getI x0 y1).bind fun p2=>(cond (decide (p1 > (0:Int))) ((appC y6 ([⟨p2.lot,p1⟩])).bind fun d2=>(F39_j2 k1 y4 y1 p1 p2 d2)) (F39_j2 k1 y4 y1 p1 p2 y6)))) (some (y6,y4)))
def F39_l1 (fuel:Nat) (x0:List Part) (x1:Int):Nat→(List Int)→Int→Option (List Part×List Part)
  | 0,_,_=>none
  | n2 + 1,y7,y8 =>
    let k2:(List Int)→Int→Option (List Part×List Part):=F39_l1 fuel x0 x1 n2
    (cond (decide (y8<(x0.length:Int))) ((getI x0 y8).bind fun p3=>((appC y7 ([p3.mass])).bind fun d3=>(k2 d3 (w64 (y8 + (1:Int)))))) ((F70 fuel x1 y7).bind fun r1=>(F39_l2 x0 r1 fuel ([]) ([]) 0)))
def F39 (fuel:Nat) (x0:List Part) (x1:Int):Option (List Part×List Part) :=
  (F39_l1 fuel x0 x1 fuel ([]) 0)
set_option maxRecDepth 100000 in
theorem f39_ok (fuel:Nat) (x0:List Part) (x1:Int) (r:List Part×List Part) (hr:F39 fuel x0 x1=some r) (h:Zone) (L:List Atom) (w:World) (hS:St h L w) (o_x0:Option Addr) (c_x0:Nat) (hx_x0:SliceR PartT h o_x0 c_x0 x0) :
    Calls Tryz.prog 39 #[.agg #[.slice o_x0 x0.length c_x0],vI x1] w fun e w'=>∃v,e= .returned v∧(∃h',∃o0:Option Addr,∃c0:Nat,∃o1:Option Addr,∃c1:Nat,Zone.le h h'∧v= .tuple #[.agg #[.slice o0 r.1.length c0], .agg #[.slice o1 r.2.length c1]]∧St h' L w'∧SliceR PartT h' o0 c0 r.1∧SliceR PartT h' o1 c1 r.2):=by
 refine calls_intro (N:=69) Tryz.func39 (by kernel_rfl) fun a hf=>c_sr (c_box [sL o_x0 x0 c_x0] 49 hS hf fun M u x g k=>tv (c_box [N0] 49 g k fun O y z l m=>tv (c_box [N0] 49 l m fun P A B f o=>tv (c_dt (c_sq [] [1,2,4,5,6] o .nil fun C p=>(c_seq (c_sq [sL o_x0 x0 c_x0] [1,2,4,5,6,13,14,15] p (.cell (f.bx 2 0 rfl rfl) .nil) fun D q=>(c_block 0 ?_))))))))
 have f:=f.ownNil Ty.int 3
 refine c_loop (fun n a w=>∃y:Zone,∃z:List Int,∃u:Int,∃C:Option Addr,∃D:Nat,Zone.le h y∧Fr a 69 [(1,vI x1),(2,pB M 0),(4,pB O 0),(5,pB P 0),(6,sL C z D),(13,sL o_x0 x0 c_x0),(14,vI (x0.length:Int)),(15,vI u)]∧St y (ownS Ty.int 3 C D z::box P [N0] 49::box O [N0] 49::box M [sL o_x0 x0 c_x0] 49::L) w∧(F39_l1 fuel x0 x1 n z u)=some r) fuel ⟨h,[],0,none,0,zr,q.to,f,hr⟩ ?_
 rintro f g k ⟨y,z,u,C,D,k3,l,A,F⟩
 cases f with
 | zero=>cases F
 | succ G =>
 refine c_sq [] [1,2,4,5,6,13,14,15,16] l .nil fun f B=>c_seq (c_if (decide (u<(x0.length:Int))) B (fun x=>?_) (fun x=>?_))
 ·have t:=cond_t x F
  refine c_skip (n_then (c_seq (c_block 1 (c_sr ?_))))
  obtain ⟨f,g,t⟩:=bind_some t
  obtain ⟨k,l,m,o,rfl,g⟩:=SliceR.getI (SliceR.mono k3 hx_x0) g
  refine c_n 2 [.pointer (some k),vI f.lot,vI f.mass] [1,2,4,5,6,13,14,15,18] B (.prop l (.prop m (.cell (A.cell (g 0 _ rfl)) (.cell (A.cell (g 1 _ rfl)) .nil)))) fun k g=>c_box [vI 0,vI 0] 53 A g fun l m o g k=>tv (c_st 0 [vI f.lot,vI f.mass] g k rfl fun l m g k=>tv (c_dt (c_reg (c_n 3 [vI f.mass] [1,2,4,5,13,14,15,19,21] k (.cell (g.bx 0 1 rfl rfl) .nil) fun m k=>(p_box (i:=3) (d:=(some 22)) (cs:=[vI f.mass]) (T:=3) (v:=fun l=> .slice (some ⟨l,0,none⟩) 1 1) g k (fun b=>by kernel_rfl) fun l o p g q=>tv ?_)))))
  have g:=g.ownBox (T:=Ty.int) (E:=3) (n:=1) (xs:=[f.mass]) (i:=0) rfl (Rows.cons (c:=[vI f.mass]) rfl rfl) rfl (by decide)
  obtain ⟨p,k,t⟩:=bind_some t
  refine p_append (T:=Ty.int) (i:=4) (j:=2) (d:=some 23) (o2:=(some ⟨l,0,none⟩)) (c2:=1) (ys:=([f.mass])) el76 g q rfl (by kernel_rfl) (g.ownSrc (j:=0) rfl) k fun g k l m o f=>tv (c_z [] [1,2,4,5,6,13,14,15] f .nil fun l f=>n_block (n_then (c_q [] [1,2,4,5,6,13,14,15] f .nil fun l f=>(n_then (⟨G,Nat.lt_succ_self G,y,p,(w64 (u + (1:Int))),g,k,k3,f.to,(St.drop 2 o),t⟩)))))
 have t:=cond_f x F
 refine c_exit 0 (x_then (x_then (x_block (n_then (c_seq (c_sr (c_n 2 [] [2,4,5,25,26] B .nil fun f m=>?_)))))))
 obtain ⟨g,k4,k,l⟩:=A.share (j:=0) rfl
 obtain ⟨p,f,t⟩:=bind_some t
 refine c_call m (f70_ok fuel x1 z p f g _ _ k C D l) ?_
 rintro g k l ⟨m,x,z,k5,rfl,o,q⟩ f
 refine tv (c_t [] [2,4,5,27,28,29] f .nil fun f g=>c_block 2 ?_)
 have f:=o.ownNil PartT 53
 have f:=f.ownNil PartT 53
 refine c_loop (fun n a w=>∃B:Zone,∃Q:List Part,∃C:List Part,∃K:Int,∃R:Option Addr,∃S:Nat,∃I:Option Addr,∃J:Nat,Zone.le m B∧Fr a 69 [(2,pB M 0),(4,pB O 0),(5,pB P 0),(27,sL x p z),(28,vI (p.length:Int)),(29,vI K)]∧St B (ownS PartT 53 R S Q::ownS PartT 53 I J C::emp::box P [sL I C J] 49::box O [sL R Q S] 49::box M [sL o_x0 x0 c_x0] 49::L) w∧(F39_l2 x0 p n Q C K)=some r) fuel ⟨m,[],[],0,none,0,none,0,zr,g.to,f,t⟩ ?_
 rintro f g k ⟨B,Q,C,K,R,S,I,J,k6,l,W,a1⟩
 cases f with
 | zero=>cases a1
 | succ n1 =>
 refine c_sq [] [2,4,5,27,28,29,30] l .nil fun f a2=>c_seq (c_if (decide (K<(p.length:Int))) a2 (fun a0=>?_) (fun a0=>?_))
 ·have t:=cond_t a0 a1
  refine c_skip (n_then (c_mid (fun a w=>∃X:Zone,∃U:List Part,∃V:List Part,∃Y:Option Addr,∃Z:Nat,∃e7:Option Addr,∃q7:Nat,Zone.le B X∧Fr a 69 [(2,pB M 0),(4,pB O 0),(5,pB P 0),(27,sL x p z),(28,vI (p.length:Int)),(29,vI K)]∧St X (ownS PartT 53 Y Z U::ownS PartT 53 e7 q7 V::emp::box P [sL e7 V q7] 49::box O [sL Y U Z] 49::box M [sL o_x0 x0 c_x0] 49::L) w∧(F39_j1 (F39_l2 x0 p n1) K U V)=some r) ?_ ?_))
  ·skip
   refine c_block 3 ?_
   obtain ⟨o,f,t⟩:=bind_some t
   obtain ⟨f,g,k,m,rfl,l⟩:=SliceR.getI (SliceR.mono k6 q) f
   refine c_sq [.pointer (some f),vI o] [2,4,5,9,10,27,28,29] a2 (.prop g (.prop k (.cell (W.cell (l 0 _ rfl)) .nil))) fun f u=>c_sr ?_
   obtain ⟨f,g,F⟩:=bind_some t
   obtain ⟨k,l,m,q,rfl,g⟩:=SliceR.getI (SliceR.mono (zt (zt (zt k3 k4) k5) k6) hx_x0) g
   refine c_n 5 [sL o_x0 x0 c_x0, .pointer (some k),vI f.lot,vI f.mass] [2,4,5,10,27,28,29,38] u (.cell (W.bx 5 0 rfl rfl) (.prop l (.prop m (.cell (W.cell (g 0 _ rfl)) (.cell (W.cell (g 1 _ rfl)) .nil))))) fun k g=>c_box [vI 0,vI 0] 53 W g fun g m q k l=>tv (c_st 0 [vI f.lot,vI f.mass] k l rfl fun k l y m=>tv (c_dt (c_mid (fun a w=>∃D:Zone,∃A:List Part,∃G:Option Addr,∃H:Nat,Zone.le B D∧Fr a 69 [(2,pB M 0),(4,pB O 0),(5,pB P 0),(10,vI o),(11,pB g 0),(27,sL x p z),(28,vI (p.length:Int)),(29,vI K)]∧St D (box g [vI f.lot,vI f.mass] 53::ownS PartT 53 G H A::ownS PartT 53 I J C::emp::box P [sL I C J] 49::box O [sL G A H] 49::box M [sL o_x0 x0 c_x0] 49::L) w∧(F39_j2 (F39_l2 x0 p n1) C K o f A)=some r) ?_ ?_)))
   ·skip
    refine c_sq [] [2,4,5,10,11,27,28,29,40] m .nil fun g z=>c_if (decide (o > (0:Int))) z (fun x=>?_) (fun x=>?_)
    ·have t:=cond_t x F
     refine c_reg (c_n 6 [sL R Q S,vI f.lot] [2,4,5,10,11,27,28,29,42,46] z (.cell (y.bx 5 0 rfl rfl) (.cell (y.bx 0 0 rfl rfl) .nil)) fun m g=>(p_box (i:=6) (d:=(some 47)) (cs:=[vI f.lot,vI o]) (T:=53) (v:=fun k=> .slice (some ⟨k,0,none⟩) 1 1) y g (fun b=>by kernel_rfl) fun k p q l u=>tv ?_))
     have g:=l.ownBox (T:=PartT) (E:=53) (n:=1) (xs:=[⟨f.lot,o⟩]) (i:=0) rfl (Rows.cons (c:=[vI f.lot,vI o]) rfl rfl) rfl (by decide)
     obtain ⟨p,l,t⟩:=bind_some t
     refine p_append (T:=PartT) (i:=7) (j:=2) (d:=some 48) (o2:=(some ⟨k,0,none⟩)) (c2:=1) (ys:=([⟨f.lot,o⟩])) el47 g u rfl (by kernel_rfl) (g.ownSrc (j:=0) rfl) l fun k l q u m g=>tv (c_n 1 [] [2,4,5,10,11,27,28,29,48,49] g .nil fun q g=>c_st 6 [sL k p l] m g rfl fun q u g m=>tv (c_dt (⟨B,p,k,l,zr,m.to,(St.drop 1 g),t⟩)))
    have t:=cond_f x F
    refine c_skip (n_then (⟨B,Q,R,S,zr,z.to,y,t⟩))
   rintro k l ⟨D,A,G,H,B,g,m,F⟩
   refine c_sq [vI f.mass] [2,4,5,10,11,27,28,29,53] g (.cell (m.bx 0 1 rfl rfl) .nil) fun g z=>c_if (decide (o<f.mass)) z (fun y=>?_) (fun y=>?_)
   ·have t:=cond_t y F
    refine c_reg (c_n 9 [sL I C J,vI f.lot,vI f.mass] [2,4,5,27,28,29,55,62] z (.cell (m.bx 4 0 rfl rfl) (.cell (m.bx 0 0 rfl rfl) (.cell (m.bx 0 1 rfl rfl) .nil))) fun p g=>(p_box (i:=9) (d:=(some 63)) (cs:=[vI f.lot,vI (w64 (f.mass - o))]) (T:=53) (v:=fun k=> .slice (some ⟨k,0,none⟩) 1 1) m g (fun b=>by kernel_rfl) fun k q u l x=>tv ?_))
    have g:=l.ownBox (T:=PartT) (E:=53) (n:=1) (xs:=[⟨f.lot,(w64 (f.mass - o))⟩]) (i:=0) rfl (Rows.cons (c:=[vI f.lot,vI (w64 (f.mass - o))]) rfl rfl) rfl (by decide)
    obtain ⟨p,l,t⟩:=bind_some t
    refine p_append (T:=PartT) (i:=10) (j:=3) (d:=some 64) (o2:=(some ⟨k,0,none⟩)) (c2:=1) (ys:=([⟨f.lot,(w64 (f.mass - o))⟩])) el47 g x rfl (by kernel_rfl) (g.ownSrc (j:=0) rfl) l fun g k o q l f=>tv (c_n 1 [] [2,4,5,27,28,29,64,65] f .nil fun o f=>c_st 5 [sL g p k] l f rfl fun o q f l=>tv (c_done (n_block (n_then (⟨D,A,p,G,H,g,k,B,l.to,(St.drop 2 f),t⟩)))))
   have t:=cond_f y F
   refine c_skip (n_block (n_then (⟨D,A,C,G,H,I,J,B,z.to,(St.drop 1 m),t⟩)))
  rintro g k ⟨X,U,V,Y,Z,e7,q7,l,f,m,t⟩
  refine c_q [] [2,4,5,27,28,29] f .nil fun g f=>n_then (⟨n1,Nat.lt_succ_self n1,X,U,V,(w64 (K + (1:Int))),Y,Z,e7,q7,(zt k6 l),f.to,m,t⟩)
 have t:=cond_f a0 a1
 refine c_exit 2 (x_then (x_then (x_block (n_then (c_seq ?_)))))
 have g:=W.drew
 have f:=Sub.of zr g
 refine c_regD (rD 4 [2,3]) [3] _ f (c_S 2 [sL R Q S,sL I C J] [4,5,67,68] f a2 (fun _ s=>(.cell (s.bx 4 0 rfl rfl) (.cell (s.bx 3 0 rfl rfl) .nil))) .nil fun k f=>c_st 4 [sL R Q S] g f rfl fun k l f g=>⟨fun _=>Sub.of zr f,?_⟩)
 have k:=Sub.of zr f
 refine c_st 3 [sL I C J] f g rfl fun g k f m=>⟨fun e=>absurd e (by decide),?_⟩
 refine c_dt (c_ret ?_)
 obtain ⟨g,o,f,p⟩:=f.share (j:=0) rfl
 obtain ⟨k,g,f,l⟩:=f.share (j:=1) rfl
 refine c_rt [sL R Q S,sL I C J] (.tuple #[.agg #[sL R Q S], .agg #[sL I C J]]) m (.cell (f.bx 4 0 rfl rfl) (.cell (f.bx 3 0 rfl rfl) .nil)) ?_
 obtain rfl:=some_eq t
 exact ⟨_,rfl,k,R,S,I,J,(zt (zt (zt (zt (zt k3 k4) k5) k6) o) g),rfl,(St.drop 6 f),(SliceR.mono g p),l⟩
def F14 (fuel:Nat) (x0:List Part) (x1:Int):Option (List Part×List Part×Int) :=
  ((F37 fuel x0).bind fun r1=>(cond (!r1) (some ([],[],62)) (cond (decide (x1<(0:Int))) (some ([],[],1)) ((F38 fuel x0).bind fun r2=>(cond (decide (x1 > r2)) (some ([],[],63)) ((F39 fuel x0 x1).bind fun r3=>(some (r3.1,r3.2,0))))))))
set_option maxRecDepth 100000 in
theorem f14_ok (fuel:Nat) (x0:List Part) (x1:Int) (r:List Part×List Part×Int) (hr:F14 fuel x0 x1=some r) (h:Zone) (L:List Atom) (w:World) (hS:St h L w) (o_x0:Option Addr) (c_x0:Nat) (hx_x0:SliceR PartT h o_x0 c_x0 x0) :
    Calls Tryz.prog 14 #[.agg #[.slice o_x0 x0.length c_x0],vI x1] w fun e w'=>∃v,e= .returned v∧(∃h',∃o0:Option Addr,∃c0:Nat,∃o1:Option Addr,∃c1:Nat,Zone.le h h'∧v= .tuple #[.agg #[.slice o0 r.1.length c0], .agg #[.slice o1 r.2.1.length c1],vI r.2.2]∧St h' L w'∧SliceR PartT h' o0 c0 r.1∧SliceR PartT h' o1 c1 r.2.1):=by
 refine calls_intro (N:=33) Tryz.func14 (by kernel_rfl) fun a hf=>c_sr (c_box [sL o_x0 x0 c_x0] 49 hS hf fun m n o b c=>tv (c_box [N0] 49 b c fun B p q d f=>tv (c_box [N0] 49 d f fun C t u j g=>tv (c_t [] [1,2,4,5] g .nil fun x i=>(c_seq (c_block 0 (c_sr (c_n 1 [sL o_x0 x0 c_x0] [1,2,4,5,8] i (.cell (j.bx 2 0 rfl rfl) .nil) fun y k=>?_))))))))
 obtain ⟨c,b,z⟩:=bind_some hr
 refine c_call k (f37_ok fuel x0 c b h _ _ j o_x0 c_x0 hx_x0) ?_
 rintro d f g ⟨x,y,rfl,u⟩ b
 refine tv (c_t [] [1,2,4,5,7] b .nil fun b k=>c_if (!c) k (fun j=>?_) (fun j=>?_))
 ·have l:=cond_t j z
  refine c_sr (c_n 2 [] [4,5,11,12] k .nil fun m c=>(c_st 1 [N0] u c rfl fun n o d f=>tv (c_st 0 [N0] d f rfl fun p q b g=>tv (c_t [] [4,5,6] g .nil fun t i=>(c_ret (r_block (r_then (c_rt [N0,N0] (.tuple #[.agg #[N0], .agg #[N0],vI 62]) i (.cell (b.bx 1 0 rfl rfl) (.cell (b.bx 0 0 rfl rfl) .nil)) ?_))))))))
  obtain rfl:=some_eq l
  exact ⟨_,rfl,x,none,0,none,0,y,rfl,(St.drop 3 b),SliceR.nil' _ _,SliceR.nil' _ _⟩
 have z:=cond_f j z
 refine c_sq [] [1,2,4,5,13] k .nil fun b k=>c_if (decide (x1<(0:Int))) k (fun j=>?_) (fun j=>?_)
 ·have l:=cond_t j z
  refine c_sr (c_n 2 [] [4,5,16,17] k .nil fun m c=>(c_st 1 [N0] u c rfl fun n o d f=>tv (c_st 0 [N0] d f rfl fun p q b g=>tv (c_t [] [4,5,6] g .nil fun t i=>(c_ret (r_block (r_then (c_rt [N0,N0] (.tuple #[.agg #[N0], .agg #[N0],vI 1]) i (.cell (b.bx 1 0 rfl rfl) (.cell (b.bx 0 0 rfl rfl) .nil)) ?_))))))))
  obtain rfl:=some_eq l
  exact ⟨_,rfl,x,none,0,none,0,y,rfl,(St.drop 3 b),SliceR.nil' _ _,SliceR.nil' _ _⟩
 have l:=cond_f j z
 refine c_sr (c_n 2 [sL o_x0 x0 c_x0] [1,2,4,5,19,20] k (.cell (u.bx 2 0 rfl rfl) .nil) fun b c=>?_)
 obtain ⟨d,b,z⟩:=bind_some l
 refine c_call c (f38_ok fuel x0 d b x _ _ u o_x0 c_x0 (SliceR.mono y hx_x0)) ?_
 rintro c f g ⟨x,A,rfl,u⟩ b
 refine tv (c_t [] [1,2,4,5,18] b .nil fun b k=>c_if (decide (x1 > d)) k (fun j=>?_) (fun j=>?_))
 ·have l:=cond_t j z
  refine c_sr (c_n 2 [] [4,5,23,24] k .nil fun m c=>(c_st 1 [N0] u c rfl fun n o d f=>tv (c_st 0 [N0] d f rfl fun p q b g=>tv (c_t [] [4,5,6] g .nil fun t i=>(c_ret (r_block (r_then (c_rt [N0,N0] (.tuple #[.agg #[N0], .agg #[N0],vI 63]) i (.cell (b.bx 1 0 rfl rfl) (.cell (b.bx 0 0 rfl rfl) .nil)) ?_))))))))
  obtain rfl:=some_eq l
  exact ⟨_,rfl,x,none,0,none,0,(zt y A),rfl,(St.drop 3 b),SliceR.nil' _ _,SliceR.nil' _ _⟩
 have l:=cond_f j z
 refine c_skip (n_block (n_then (c_sr (c_n 2 [sL o_x0 x0 c_x0] [4,5,26,27] k (.cell (u.bx 2 0 rfl rfl) .nil) fun b d=>?_))))
 obtain ⟨c,b,l⟩:=bind_some l
 refine c_call d (f39_ok fuel x0 x1 c b x _ _ u o_x0 c_x0 (SliceR.mono (zt y A) hx_x0)) ?_
 rintro d k m ⟨o,f,g,i,j,p,rfl,n,q,t⟩ b
 refine tv (c_n 3 [] [4,5,29,30] b .nil fun d b=>c_st 1 [sL f c.1 g] n b rfl fun k m b d=>tv (c_st 0 [sL i c.2 j] b d rfl fun d k b m=>tv (c_dt (c_seq ?_))))
 have d:=b.drew
 have b:=Sub.of zr d
 refine c_regD (rD 5 [2,3]) [3] _ b (c_S 2 [sL f c.1 g,sL i c.2 j] [4,5,31,32] b m (fun _ s=>(.cell (s.bx 1 0 rfl rfl) (.cell (s.bx 0 0 rfl rfl) .nil))) .nil fun k b=>c_st 1 [sL f c.1 g] d b rfl fun k m b d=>⟨fun _=>Sub.of zr b,?_⟩)
 have k:=Sub.of zr b
 refine c_st 0 [sL i c.2 j] b d rfl fun k m b d=>⟨fun e=>absurd e (by decide),?_⟩
 refine p_qP 1 [] [(4,pB B 0),(5,pB C 0),(6,vI 0)] [] d (by kernel_rfl) (fun _=> .nil) fun k d=>c_dt (c_ret (c_rt [sL f c.1 g,sL i c.2 j] (.tuple #[.agg #[sL f c.1 g], .agg #[sL i c.2 j],vI 0]) d (.cell (b.bx 1 0 rfl rfl) (.cell (b.bx 0 0 rfl rfl) .nil)) ?_))
 obtain rfl:=some_eq l
 exact ⟨_,rfl,o,f,g,i,j,(zt (zt y A) p),rfl,(St.drop 3 b),q,t⟩
def F41_l1 (fuel:Nat) (x0:List (List Part)):Nat→Int→Int→Option (Int)
  | 0,_,_=>none
  | n1 + 1,y1,y2 =>
    let k1:Int→Int→Option (Int):=F41_l1 fuel x0 n1
    (cond (decide (y2<(x0.length:Int))) ((getI x0 y2).bind fun p1=>((F38 fuel p1).bind fun r1=>(k1 (w64 (y1 + r1)) (w64 (y2 + (1:Int)))))) (some (y1)))
def F41 (fuel:Nat) (x0:List (List Part)):Option (Int) :=
  (F41_l1 fuel x0 fuel 0 0)
set_option maxRecDepth 100000 in
theorem f41_ok (fuel:Nat) (x0:List (List Part)) (r:Int) (hr:F41 fuel x0=some r) (h:Zone) (L:List Atom) (w:World) (hS:St h L w) (o_x0:Option Addr) (c_x0:Nat) (hx_x0:SliceR (Ty.slice PartT) h o_x0 c_x0 x0) :
    Calls Tryz.prog 41 #[.slice o_x0 x0.length c_x0] w fun e w'=>∃v,e= .returned v∧(∃h',Zone.le h h'∧v=vI r∧St h' L w'):=by
 refine calls_intro (N:=18) Tryz.func41 (by kernel_rfl) fun a hf=>c_sq [] [0] hf .nil fun c b=>c_sq [] [0,3] b .nil fun c b=>c_seq (c_sq [] [3,6,7,8] b .nil fun c b=>(c_block 0 (c_loop (fun n a w=>∃q:Zone,∃o:Int,∃m:Int,Zone.le h q∧Fr a 18 [(3,vI o),(6,sL o_x0 x0 c_x0),(7,vI (x0.length:Int)),(8,vI m)]∧St q (L) w∧(F41_l1 fuel x0 n o m)=some r) fuel ⟨h,0,0,zr,b.to,hS,hr⟩ ?_)))
 rintro b c d ⟨q,o,m,x,f,y,u⟩
 cases b with
 | zero=>cases u
 | succ z =>
 refine c_sq [] [3,6,7,8,9] f .nil fun b t=>c_seq (c_if (decide (m<(x0.length:Int))) t (fun s=>?_) (fun s=>?_))
 ·have i:=cond_t s u
  refine c_skip (n_then (c_seq (c_block 1 (c_sr ?_))))
  obtain ⟨g,b,i⟩:=bind_some i
  obtain ⟨d,f,j,c,b,k⟩:=SliceR.getI (SliceR.mono x hx_x0) b
  obtain ⟨b,c,rfl,p⟩:=b
  refine c_n 2 [.pointer (some d),sL b g c] [3,6,7,8,11] t (.prop f (.prop j (.cell (y.cell (k 0 _ rfl)) .nil))) fun f d=>c_box [N0] 49 y d fun j k l d f=>tv (c_st 0 [sL b g c] d f rfl fun j k d f=>tv (c_dt (c_reg (c_n 2 [sL b g c] [6,7,8,12,13] f (.cell (d.bx 0 0 rfl rfl) .nil) fun f j=>?_))))
  obtain ⟨k,f,i⟩:=bind_some i
  refine c_call j (f38_ok fuel g k f q _ _ d b c p) ?_
  rintro c d f ⟨g,j,rfl,l⟩ b
  refine tv (c_z [] [3,6,7,8] b .nil fun c b=>n_block (n_then (c_q [] [3,6,7,8] b .nil fun c b=>(n_then (⟨z,Nat.lt_succ_self z,g,(w64 (o + k)),(w64 (m + (1:Int))),(zt x j),b.to,(St.drop 1 l),i⟩)))))
 have i:=cond_f s u
 refine c_exit 0 (x_then (x_then (x_block (n_then (c_sq [] [2] t .nil fun c b=>(c_ret (c_rt [] (vI o) b .nil ?_)))))))
 obtain rfl:=some_eq i
 exact ⟨_,rfl,q,x,rfl,y⟩
def F74 (fuel:Nat) (x0i:Int) (x0w:Int) (x0g:Int) (x0e:Int) (x1:Int):Option (Int) :=
  ((F75 fuel x0i x1).bind fun r1=>(some (r1)))
set_option maxRecDepth 100000 in
theorem f74_ok (fuel:Nat) (x0i:Int) (x0w:Int) (x0g:Int) (x0e:Int) (x1:Int) (r:Int) (hr:F74 fuel x0i x0w x0g x0e x1=some r) (h:Zone) (L:List Atom) (w:World) (hS:St h L w)  :
    Calls Tryz.prog 74 #[.agg #[vI x0i,vI x0w,vI x0g,vI x0e],vI x1] w fun e w'=>∃v,e= .returned v∧(v=vI r∧St h L w'):=by
 refine calls_intro (N:=9) Tryz.func74 (by kernel_rfl) fun a hf=>c_sr (c_box [vI x0i,vI x0w,vI x0g,vI x0e] 43 hS hf fun g i j d b=>tv (c_t [] [1,2] b .nil fun k c=>(c_sr (c_n 3 [vI x0i] [6,7] c (.cell (d.bx 0 0 rfl rfl) .nil) fun l f=>?_))))
 obtain ⟨c,b,m⟩:=bind_some hr
 refine c_call f (f75_ok fuel x0i x1 c b h _ _ d ) ?_
 rintro d f g ⟨rfl,i⟩ b
 refine tv (c_t [] [4] b .nil fun d b=>c_ret (c_rt [] (vI c) b .nil ?_))
 obtain rfl:=some_eq m
 exact ⟨_,rfl,rfl,(St.drop 1 i)⟩
def F42_j1 (y1:Int) (y2:Bool):Option (Int×Bool) :=
  (some (y1,y2))
def F42_l1 (fuel:Nat) (x0:List Lot) (x1:Int):Nat→Int→Int→Option (Int×Bool)
  | 0,_,_=>none
  | n1 + 1,y1,y3 =>
    let k1:Int→Int→Option (Int×Bool):=F42_l1 fuel x0 x1 n1
    (cond (decide (y1<y3)) ((getI x0 (w64 (Int.fdiv (IntKind.wrap .u64 (w64 (y1 + y3))) 2))).bind fun p1=>((F74 fuel p1.id p1.owner p1.grade p1.wet x1).bind fun r1=>(cond (decide (r1<(0:Int))) (k1 (w64 ((w64 (Int.fdiv (IntKind.wrap .u64 (w64 (y1 + y3))) 2)) + (1:Int))) y3) (k1 y1 (w64 (Int.fdiv (IntKind.wrap .u64 (w64 (y1 + y3))) 2)))))) (cond (decide (y1<(x0.length:Int))) ((getI x0 y1).bind fun p2=>((F74 fuel p2.id p2.owner p2.grade p2.wet x1).bind fun r2=>(F42_j1 y1 (r2 == (0:Int))))) (F42_j1 y1 false)))
def F42 (fuel:Nat) (x0:List Lot) (x1:Int):Option (Int×Bool) :=
  (F42_l1 fuel x0 x1 fuel 0 (x0.length:Int))
set_option maxRecDepth 100000 in
theorem f42_ok (fuel:Nat) (x0:List Lot) (x1:Int) (r:Int×Bool) (hr:F42 fuel x0 x1=some r) (h:Zone) (L:List Atom) (w:World) (hS:St h L w) (o_x0:Option Addr) (c_x0:Nat) (hx_x0:SliceR LotT h o_x0 c_x0 x0) :
    Calls Tryz.prog 42 #[.slice o_x0 x0.length c_x0,vI x1] w fun e w'=>∃v,e= .returned v∧(∃h',Zone.le h h'∧v= .tuple #[vI r.1, .bool r.2]∧St h' L w'):=by
 refine calls_intro (N:=11) Tryz.func42 (by kernel_rfl) fun a hf=>c_sq [] [0,1] hf .nil fun c b=>c_sr (c_n 2 [] [6,7] b .nil fun m b=>(p_inl (i:=2) (d:=some 8) (f:=73) (args:= #[sL o_x0 x0 c_x0,vI x1, .func (.func 74) #[] #[]]) (N':=49) b (by kernel_rfl) Tryz.func73 (by kernel_rfl) fun o c=>(c_sq [] [0,1,2] c .nil fun p g=>(c_sq [] [0,1,2,8] g .nil fun q j=>(c_sq [] [0,1,2,8,9,10] j .nil fun s k=>(c_seq (c_block 0 (c_loop (fun n a w=>∃x:Zone,∃u:Int,∃t:Int,Zone.le h x∧Fr a 49 [(0,sL o_x0 x0 c_x0),(1,vI x1),(2, .func (.func 74) #[] #[]),(8,vI (x0.length:Int)),(9,vI u),(10,vI t)]∧St x (L) w∧(F42_l1 fuel x0 x1 n u t)=some r) fuel ⟨h,0,(x0.length:Int),zr,k.to,hS,hr⟩ ?_))))))))
 rintro b c g ⟨x,u,t,B,j,q,A⟩
 cases b with
 | zero=>cases A
 | succ p =>
 refine c_seq (c_sq [] [0,1,2,8,9,10,17] j .nil fun b z=>(c_if (decide (u<t)) z (fun s=>?_) (fun s=>?_)))
 ·have l:=cond_t s A
  refine c_skip (n_then (c_block 1 (c_sq [] [0,1,2,8,9,10,11] z .nil fun b m=>(c_sr ?_))))
  obtain ⟨b,c,l⟩:=bind_some l
  obtain ⟨g,j,k,o,rfl,c⟩:=SliceR.getI (SliceR.mono B hx_x0) c
  refine c_n 6 [.pointer (some g),vI b.id,vI b.owner,vI b.grade,vI b.wet] [0,1,2,8,9,10,11,24,28,29] m (.prop j (.prop k (.cell (q.cell (c 0 _ rfl)) (.cell (q.cell (c 1 _ rfl)) (.cell (q.cell (c 2 _ rfl)) (.cell (q.cell (c 3 _ rfl)) .nil)))))) fun c g=>?_
  obtain ⟨j,c,y⟩:=bind_some l
  refine c_call g (f74_ok fuel b.id b.owner b.grade b.wet x1 j c x _ _ q ) ?_
  rintro c g k ⟨rfl,m⟩ b
  refine tv (c_t [] [0,1,2,8,9,10,11,31] b .nil fun b c=>c_if (decide (j<(0:Int))) c (fun b=>?_) (fun b=>?_))
  ·have l:=cond_t b y
   refine c_q [] [0,1,2,8,9,10] c .nil fun j g=>n_block (n_then (⟨p,Nat.lt_succ_self p,x,(w64 ((w64 (Int.fdiv (IntKind.wrap .u64 (w64 (u + t))) 2)) + (1:Int))),t,B,g.to,m,l⟩))
  have l:=cond_f b y
  refine c_q [] [0,1,2,8,9,10] c .nil fun c b=>n_block (n_then (⟨p,Nat.lt_succ_self p,x,u,(w64 (Int.fdiv (IntKind.wrap .u64 (w64 (u + t))) 2)),B,b.to,m,l⟩))
 have y:=cond_f s A
 refine c_exit 0 (x_then (x_then (x_block (n_then (c_mid (fun a w=>∃t:Zone,∃s:Bool,Zone.le x t∧Fr a 49 [(6,vI u),(7, .bool s)]∧St t (L) w∧(F42_j1 u s)=some r) ?_ ?_)))))
 ·skip
  refine c_reg (c_n 5 [] [0,1,2,9,35,39] z .nil fun b z=>?_)
  rcases bft (decide (u<(x0.length:Int))) with m | m
  ·have l:=cond_t m y
   have o:=z.lit 39 m
   obtain ⟨b,c,l⟩:=bind_some l
   obtain ⟨g,j,k,p,rfl,c⟩:=SliceR.getI (SliceR.mono B hx_x0) c
   refine c_n 6 [.pointer (some g),vI b.id,vI b.owner,vI b.grade,vI b.wet] [35,39,40,44,45] o (.prop j (.prop k (.cell (q.cell (c 0 _ rfl)) (.cell (q.cell (c 1 _ rfl)) (.cell (q.cell (c 2 _ rfl)) (.cell (q.cell (c 3 _ rfl)) .nil)))))) fun c g=>?_
   obtain ⟨j,c,l⟩:=bind_some l
   refine c_call g (f74_ok fuel b.id b.owner b.grade b.wet x1 j c x _ _ q ) ?_
   rintro c g k ⟨rfl,o⟩ b
   refine tv (c_t [] [6,7] b .nil fun c b=>⟨x,(j == (0:Int)),zr,b.to,o,l⟩)
  have l:=cond_f m y
  have b:=z.lit 39 m
  refine c_t [] [6,7] b .nil fun c b=>⟨x,false,zr,b.to,q,l⟩
 rintro c g ⟨t,s,j,b,k,l⟩
 refine c_ret (c_rt [] (.tuple #[vI u, .bool s]) b .nil (⟨_,rfl,fun c b=>?_⟩))
 refine tv (c_t [] [4,5] b .nil fun c b=>c_ret (c_rt [] (.tuple #[vI u, .bool s]) b .nil ?_))
 obtain rfl:=some_eq l
 exact ⟨_,rfl,t,(zt B j),rfl,k⟩
def F17_j1 (y1:Bool):Option (Int) :=
  (cond y1 (some (60)) (some (0)))
def F17 (fuel:Nat) (x0i:Int) (x0w:Int) (x0g:Int) (x0e:Int):Option (Int) :=
  ((F48 fuel x0i 1 9999).bind fun r1=>(cond (!r1) (F17_j1 true) ((F48 fuel x0w 1 9).bind fun r2=>(cond (!r2) (F17_j1 true) ((F48 fuel x0g 1 9).bind fun r3=>(cond (!r3) (F17_j1 true) ((F48 fuel x0e 0 10000).bind fun r4=>(F17_j1 (!r4)))))))))
set_option maxRecDepth 100000 in
theorem f17_ok (fuel:Nat) (x0i:Int) (x0w:Int) (x0g:Int) (x0e:Int) (r:Int) (hr:F17 fuel x0i x0w x0g x0e=some r) (h:Zone) (L:List Atom) (w:World) (hS:St h L w)  :
    Calls Tryz.prog 17 #[.agg #[vI x0i,vI x0w,vI x0g,vI x0e]] w fun e w'=>∃v,e= .returned v∧(∃h',Zone.le h h'∧v=vI r∧St h' L w'):=by
 refine calls_intro (N:=25) Tryz.func17 (by kernel_rfl) fun a hf=>c_sr (c_box [vI x0i,vI x0w,vI x0g,vI x0e] 43 hS hf fun b i j d c=>tv (c_t [] [1] c .nil fun k f=>(c_seq (c_mid (fun a w=>∃q:Zone,∃s:Bool,Zone.le h q∧Fr a 25 [(24, .bool s)]∧St q (box b [vI x0i,vI x0w,vI x0g,vI x0e] 43::L) w∧(F17_j1 s)=some r) ?_ ?_))))
 ·skip
  refine c_reg (c_n 2 [vI x0i] [1,4] f (.cell (d.bx 0 0 rfl rfl) .nil) fun b c=>?_)
  obtain ⟨f,b,m⟩:=bind_some hr
  refine c_call c (f48_ok fuel x0i 1 9999 f b h _ _ d ) ?_
  rintro c d i ⟨k,p,rfl,j⟩ b
  refine tv (c_n 2 [] [1,7] b .nil fun b i=>?_)
  rcases bft (!f) with b | b
  ·have g:=cond_t b m
   have c:=i.lit 7 b
   refine c_t [] [24] c .nil fun d c=>⟨k,true,p,c.to,j,g⟩
  have g:=cond_f b m
  have b:=i.lit 7 b
  refine c_n 2 [vI x0w] [1,7,9] b (.cell (j.bx 0 1 rfl rfl) .nil) fun b c=>?_
  obtain ⟨d,b,m⟩:=bind_some g
  refine c_call c (f48_ok fuel x0w 1 9 d b k _ _ j ) ?_
  rintro c f i ⟨k,o,rfl,j⟩ b
  refine tv (c_n 3 [] [1,13] b .nil fun b f=>?_)
  rcases bft (!d) with b | b
  ·have g:=cond_t b m
   have c:=f.lit 13 b
   refine c_t [] [24] c .nil fun d c=>⟨k,true,(zt p o),c.to,j,g⟩
  have g:=cond_f b m
  have b:=f.lit 13 b
  refine c_n 2 [vI x0g] [1,13,15] b (.cell (j.bx 0 2 rfl rfl) .nil) fun b c=>?_
  obtain ⟨d,b,m⟩:=bind_some g
  refine c_call c (f48_ok fuel x0g 1 9 d b k _ _ j ) ?_
  rintro c f i ⟨k,n,rfl,j⟩ b
  refine tv (c_n 3 [] [1,19] b .nil fun b f=>?_)
  rcases bft (!d) with b | b
  ·have g:=cond_t b m
   have c:=f.lit 19 b
   refine c_t [] [24] c .nil fun d c=>⟨k,true,(zt (zt p o) n),c.to,j,g⟩
  have g:=cond_f b m
  have b:=f.lit 19 b
  refine c_n 2 [vI x0e] [19,21] b (.cell (j.bx 0 3 rfl rfl) .nil) fun b c=>?_
  obtain ⟨d,b,g⟩:=bind_some g
  refine c_call c (f48_ok fuel x0e 0 10000 d b k _ _ j ) ?_
  rintro c f i ⟨j,k,rfl,l⟩ b
  refine tv (c_t [] [24] b .nil fun c b=>⟨j,(!d),(zt (zt (zt p o) n) k),b.to,l,g⟩)
 rintro b c ⟨q,s,i,d,j,m⟩
 refine c_if s d (fun c=>?_) (fun c=>?_)
 ·have g:=cond_t c m
  refine c_sq [] [2] d .nil fun f b=>c_ret (r_then (c_rt [] (vI 60) b .nil ?_))
  obtain rfl:=some_eq g
  exact ⟨_,rfl,q,i,rfl,(St.drop 1 j)⟩
 have g:=cond_f c m
 refine c_skip (n_then (c_sq [] [2] d .nil fun c b=>(c_ret (c_rt [] (vI 0) b .nil ?_))))
 obtain rfl:=some_eq g
 exact ⟨_,rfl,q,i,rfl,(St.drop 1 j)⟩
def F77_j1 (k1:Int→Option (Int)) (y1:Int) (y2:Bool):Option (Int) :=
  (cond y2 (some (60)) (k1 (w64 (y1 + (1:Int)))))
def F77_l1 (fuel:Nat) (x0:List Lot):Nat→Int→Option (Int)
  | 0,_=>none
  | n1 + 1,y1 =>
    let k1:Int→Option (Int):=F77_l1 fuel x0 n1
    (cond (decide (y1<(x0.length:Int))) ((getI x0 y1).bind fun p1=>((F17 fuel p1.id p1.owner p1.grade p1.wet).bind fun r1=>(cond (r1 != (0:Int)) (F77_j1 k1 y1 true) (cond (decide (y1 > (0:Int))) ((getI x0 (w64 (y1 - (1:Int)))).bind fun p2=>(F77_j1 k1 y1 (decide (p2.id≥p1.id)))) (F77_j1 k1 y1 false))))) (some (0)))
def F77 (fuel:Nat) (x0:List Lot):Option (Int) :=
  (cond (decide ((x0.length:Int) > (40:Int))) (some (60)) (F77_l1 fuel x0 fuel 0))
set_option maxRecDepth 100000 in
theorem f77_ok (fuel:Nat) (x0:List Lot) (r:Int) (hr:F77 fuel x0=some r) (h:Zone) (L:List Atom) (w:World) (hS:St h L w) (o_x0:Option Addr) (c_x0:Nat) (hx_x0:SliceR LotT h o_x0 c_x0 x0) :
    Calls Tryz.prog 77 #[.slice o_x0 x0.length c_x0] w fun e w'=>∃v,e= .returned v∧(∃h',Zone.le h h'∧v=vI r∧St h' L w'):=by
 refine calls_intro (N:=34) Tryz.func77 (by kernel_rfl) fun a hf=>c_sq [] [0] hf .nil fun c b=>c_seq (c_sq [] [0,7] b .nil fun b f=>(c_if (decide ((x0.length:Int) > (40:Int))) f (fun c=>?_) (fun c=>?_)))
 ·have d:=cond_t c hr
  refine c_sq [] [2] f .nil fun g b=>c_ret (r_then (c_rt [] (vI 60) b .nil ?_))
  obtain rfl:=some_eq d
  exact ⟨_,rfl,h,zr,rfl,hS⟩
 have d:=cond_f c hr
 refine c_skip (n_then (c_seq (c_sq [] [0,8,9,10] f .nil fun c b=>(c_block 0 (c_loop (fun n a w=>∃C:Zone,∃x:Int,Zone.le h C∧Fr a 34 [(0,sL o_x0 x0 c_x0),(8,sL o_x0 x0 c_x0),(9,vI (x0.length:Int)),(10,vI x)]∧St C (L) w∧(F77_l1 fuel x0 n x)=some r) fuel ⟨h,0,zr,b.to,hS,d⟩ ?_)))))
 rintro b c f ⟨C,x,D,g,B,H⟩
 cases b with
 | zero=>cases H
 | succ F =>
 refine c_sq [] [0,8,9,10,11] g .nil fun b G=>c_seq (c_if (decide (x<(x0.length:Int))) G (fun E=>?_) (fun E=>?_))
 ·have d:=cond_t E H
  refine c_skip (n_then (c_seq (c_block 1 (c_sr ?_))))
  obtain ⟨c,b,d⟩:=bind_some d
  obtain ⟨f,g,i,j,rfl,b⟩:=SliceR.getI (SliceR.mono D hx_x0) b
  refine c_n 3 [.pointer (some f),vI c.id,vI c.owner,vI c.grade,vI c.wet] [0,8,9,10,12,14] G (.prop g (.prop i (.cell (B.cell (b 0 _ rfl)) (.cell (B.cell (b 1 _ rfl)) (.cell (B.cell (b 2 _ rfl)) (.cell (B.cell (b 3 _ rfl)) .nil)))))) fun f b=>c_box [vI 0,vI 0,vI 0,vI 0] 43 B b fun g i j f b=>tv (c_n 1 [] [0,3,4,8,9,10,14] b .nil fun i b=>c_st 0 [vI c.id,vI c.owner,vI c.grade,vI c.wet] f b rfl fun b f i j=>tv (c_dt (c_mid (fun a w=>∃A:Zone,∃z:Bool,Zone.le C A∧Fr a 34 [(0,sL o_x0 x0 c_x0),(8,sL o_x0 x0 c_x0),(9,vI (x0.length:Int)),(10,vI x),(32, .bool z)]∧St A (box g [vI c.id,vI c.owner,vI c.grade,vI c.wet] 43::L) w∧(F77_j1 (F77_l1 fuel x0 F) x z)=some r) ?_ ?_)))
  ·skip
   have g:=i.drew
   have b:=Sub.of zr g
   refine c_regD (rD 18 [1]) [] _ b (c_S 1 [vI c.id,vI c.owner,vI c.grade,vI c.wet] [0,3,4,8,9,10,15] b j (fun _ s=>(.cell (s.bx 0 0 rfl rfl) (.cell (s.bx 0 1 rfl rfl) (.cell (s.bx 0 2 rfl rfl) (.cell (s.bx 0 3 rfl rfl) .nil))))) .nil fun b f=>?_)
   obtain ⟨i,b,o⟩:=bind_some d
   refine c_call f (f17_ok fuel c.id c.owner c.grade c.wet i b C _ _ g ) ?_
   rintro b f g ⟨y,t,rfl,u⟩ j
   refine ⟨fun _=>Sub.of t u,?_⟩
   have p:=Sub.of t u
   refine c_S 2 [] [0,3,4,8,9,10,18] p j (fun _ s=> .nil) .nil fun b j=>?_
   rcases bft (i != (0:Int)) with b | b
   ·have d:=cond_t b o
    have f:=j.lit 18 b
    refine c_S 14 [] [0,8,9,10,32] p f (fun _ s=> .nil) .nil fun g f=>c_dt (⟨y,true,t,f.to,u,d⟩)
   have o:=cond_f b o
   have b:=j.lit 18 b
   refine c_S 3 [] [0,3,4,8,9,10,18,21] p b (fun _ s=> .nil) .nil fun b q=>?_
   rcases bft (decide (x > (0:Int))) with b | b
   ·have d:=cond_t b o
    have l:=q.lit 21 b
    obtain ⟨k,f,d⟩:=bind_some d
    obtain ⟨f,g,i,m,rfl,j⟩:=SliceR.getI (SliceR.mono D hx_x0) f
    refine c_S 11 [.pointer (some f),vI k.id,vI c.id] [0,8,9,10,32] p l (fun _ s=>(.prop g (.prop i (.cell (s.cell (j 0 _ rfl)) (.cell (s.bx 0 0 rfl rfl) .nil))))) .nil fun g f=>c_dt (⟨y,(decide (k.id≥c.id)),t,f.to,u,d⟩)
   have d:=cond_f b o
   have b:=q.lit 21 b
   refine c_S 11 [] [0,8,9,10,32] p b (fun _ s=> .nil) .nil fun c b=>c_dt (⟨y,false,t,b.to,u,d⟩)
  rintro b c ⟨A,z,i,f,j,o⟩
  refine c_if z f (fun c=>?_) (fun c=>?_)
  ·have d:=cond_t c o
   refine c_sq [] [2] f .nil fun g b=>c_ret (r_block (r_then (r_then (r_block (r_then (c_rt [] (vI 60) b .nil ?_))))))
   obtain rfl:=some_eq d
   exact ⟨_,rfl,A,(zt D i),rfl,(St.drop 1 j)⟩
  have d:=cond_f c o
  refine c_skip (n_block (n_then (c_q [] [0,8,9,10] f .nil fun c b=>(n_then (⟨F,Nat.lt_succ_self F,A,(w64 (x + (1:Int))),(zt D i),b.to,(St.drop 1 j),d⟩)))))
 have d:=cond_f E H
 refine c_exit 0 (x_then (x_then (x_block (n_then (c_sq [] [2] G .nil fun c b=>(c_ret (c_rt [] (vI 0) b .nil ?_)))))))
 obtain rfl:=some_eq d
 exact ⟨_,rfl,C,D,rfl,B⟩
def F71_l3 (fuel:Nat) (k1:Int→Option (Int)) (x0l:List Lot) (y1:Int) (p1:List Part):Nat→Int→Option (Int)
  | 0,_=>none
  | n1 + 1,y2 =>
    let k2:Int→Option (Int):=F71_l3 fuel k1 x0l y1 p1 n1
    (cond (decide (y2<(p1.length:Int))) ((getI p1 y2).bind fun p2=>((F42 fuel x0l p2.lot).bind fun r1=>(cond (!r1.2) (some (62)) (k2 (w64 (y2 + (1:Int))))))) (k1 (w64 (y1 + (1:Int)))))
def F71_j1 (fuel:Nat) (k1:Int→Option (Int)) (x0l:List Lot) (y1:Int) (p1:List Part) (y3:Bool):Option (Int) :=
  (cond y3 (some (62)) (F71_l3 fuel k1 x0l y1 p1 fuel 0))
def F71_l2 (fuel:Nat) (k3:Int→Option (Int)) (x0l:List Lot) (y4:Int) (p3:List (List Part)):Nat→Int→Option (Int)
  | 0,_=>none
  | n2 + 1,y1 =>
    let k1:Int→Option (Int):=F71_l2 fuel k3 x0l y4 p3 n2
    (cond (decide (y1<(p3.length:Int))) ((getI p3 y1).bind fun p1=>((F37 fuel p1).bind fun r2=>(cond (!r2) (F71_j1 fuel k1 x0l y1 p1 true) (F71_j1 fuel k1 x0l y1 p1 ((p1.length:Int) == (0:Int)))))) ((F41 fuel p3).bind fun r3=>(cond (decide (r3 > (100000000:Int))) (some (62)) (k3 (w64 (y4 + (1:Int)))))))
def F71_l1 (fuel:Nat) (x0l:List Lot) (x0h:List (List (List Part))):Nat→Int→Option (Int)
  | 0,_=>none
  | n3 + 1,y4 =>
    let k3:Int→Option (Int):=F71_l1 fuel x0l x0h n3
    (cond (decide (y4<(9:Int))) ((getI x0h y4).bind fun p3=>(cond (decide ((p3.length:Int) > (4:Int))) (some (62)) (F71_l2 fuel k3 x0l y4 p3 fuel 0))) (some (0)))
def F71 (fuel:Nat) (x0l:List Lot) (x0h:List (List (List Part))):Option (Int) :=
  ((F77 fuel x0l).bind fun r4=>(cond (r4 != (0:Int)) (some (62)) (F71_l1 fuel x0l x0h fuel 0)))
set_option maxRecDepth 100000 in
theorem f71_ok (fuel:Nat) (x0l:List Lot) (x0h:List (List (List Part))) (r:Int) (hr:F71 fuel x0l x0h=some r) (h:Zone) (L:List Atom) (w:World) (hS:St h L w) (o_x0l:Option Addr) (c_x0l:Nat) (hx_x0l:SliceR LotT h o_x0l c_x0l x0l) (V00 V01 V02 V03 V04 V05 V06 V07 V08:Value) (hx_x0h:(Ty.arr 9 (Ty.slice (Ty.slice PartT))).rep h [V00,V01,V02,V03,V04,V05,V06,V07,V08] x0h) :
    Calls Tryz.prog 71 #[.agg #[.slice o_x0l x0l.length c_x0l,V00,V01,V02,V03,V04,V05,V06,V07,V08]] w fun e w'=>∃v,e= .returned v∧(∃h',Zone.le h h'∧v=vI r∧St h' L w'):=by
 refine calls_intro (N:=61) Tryz.func71 (by kernel_rfl) fun a hf=>c_sr (c_box [sL o_x0l x0l c_x0l,V00,V01,V02,V03,V04,V05,V06,V07,V08] 29 hS hf fun B i j d b=>tv (c_t [] [1] b .nil fun k c=>(c_seq (c_sr (c_n 2 [sL o_x0l x0l c_x0l] [1,12] c (.cell (d.bx 0 0 rfl rfl) .nil) fun l g=>?_)))))
 obtain ⟨i,b,m⟩:=bind_some hr
 refine c_call g (f77_ok fuel x0l i b h _ _ d o_x0l c_x0l hx_x0l) ?_
 rintro d g j ⟨k,I,rfl,b⟩ c
 refine tv (c_t [] [1,14] c .nil fun c g=>c_if (i != (0:Int)) g (fun d=>?_) (fun d=>?_))
 ·have f:=cond_t d m
  refine c_sq [] [2] g .nil fun i c=>c_ret (r_then (c_rt [] (vI 62) c .nil ?_))
  obtain rfl:=some_eq f
  exact ⟨_,rfl,k,I,rfl,(St.drop 1 b)⟩
 have f:=cond_f d m
 refine c_skip (n_then (c_seq (c_sq [V00,V01,V02,V03,V04,V05,V06,V07,V08] [1,16,17] g (.cell (b.bx 0 1 rfl rfl) (.cell (b.bx 0 2 rfl rfl) (.cell (b.bx 0 3 rfl rfl) (.cell (b.bx 0 4 rfl rfl) (.cell (b.bx 0 5 rfl rfl) (.cell (b.bx 0 6 rfl rfl) (.cell (b.bx 0 7 rfl rfl) (.cell (b.bx 0 8 rfl rfl) (.cell (b.bx 0 9 rfl rfl) .nil))))))))) fun d c=>(c_block 0 (c_loop (fun n a w=>∃M:Zone,∃C:Int,Zone.le k M∧Fr a 61 [(1,pB B 0),(16, .agg #[V00,V01,V02,V03,V04,V05,V06,V07,V08]),(17,vI C)]∧St M (box B [sL o_x0l x0l c_x0l,V00,V01,V02,V03,V04,V05,V06,V07,V08] 29::L) w∧(F71_l1 fuel x0l x0h n C)=some r) fuel ⟨k,0,zr,c.to,b,f⟩ ?_)))))
 rintro b c d ⟨M,C,H,g,W,V⟩
 cases b with
 | zero=>cases V
 | succ P =>
 refine c_sq [] [1,16,17,18] g .nil fun b U=>c_seq (c_if (decide (C<(9:Int))) U (fun T=>?_) (fun T=>?_))
 ·have f:=cond_t T V
  refine c_skip (n_then (c_seq (c_block 1 ?_)))
  obtain ⟨u,b,m⟩:=bind_some f
  obtain ⟨c,_,b,D,E,hehv154289,X⟩:=arrGet (Ty.mono _ (zt I H) hx_x0h) rfl b
  obtain rfl:=List.head_eq_of_cons_eq hehv154289
  have b:=arrIdx b
  refine c_sq [sL D u E] [1,4,16,17] U (.prop c (.prop b .nil)) fun c b=>c_seq (c_sq [] [1,4,16,17,22] b .nil fun b d=>(c_if (decide ((u.length:Int) > (4:Int))) d (fun c=>?_) (fun c=>?_)))
  ·have f:=cond_t c m
   refine c_sq [] [2] d .nil fun g b=>c_ret (r_then (r_block (r_then (r_then (r_block (r_then (c_rt [] (vI 62) b .nil ?_)))))))
   obtain rfl:=some_eq f
   exact ⟨_,rfl,M,(zt I H),rfl,(St.drop 1 W)⟩
  have f:=cond_f c m
  refine c_skip (n_then (c_seq (c_sq [] [1,4,16,17,23,24,25] d .nil fun c b=>(c_block 2 (c_loop (fun n a w=>∃G:Zone,∃z:Int,Zone.le M G∧Fr a 61 [(1,pB B 0),(4,sL D u E),(16, .agg #[V00,V01,V02,V03,V04,V05,V06,V07,V08]),(17,vI C),(23,sL D u E),(24,vI (u.length:Int)),(25,vI z)]∧St G (box B [sL o_x0l x0l c_x0l,V00,V01,V02,V03,V04,V05,V06,V07,V08] 29::L) w∧(F71_l2 fuel (F71_l1 fuel x0l x0h P) x0l C u n z)=some r) fuel ⟨M,0,zr,b.to,W,f⟩ ?_)))))
  rintro b c d ⟨G,z,F,g,S,R⟩
  cases b with
  | zero=>cases R
  | succ K =>
  refine c_sq [] [1,4,16,17,23,24,25,26] g .nil fun b Q=>c_seq (c_if (decide (z<(u.length:Int))) Q (fun O=>?_) (fun O=>?_))
  ·have f:=cond_t O R
   refine c_skip (n_then (c_seq (c_block 3 (c_sr ?_))))
   obtain ⟨j,b,f⟩:=bind_some f
   obtain ⟨c,d,g,k,b,i⟩:=SliceR.getI (SliceR.mono F X) b
   obtain ⟨k,l,rfl,J⟩:=b
   refine c_n 2 [.pointer (some c),sL k j l] [1,4,16,17,23,24,25,28] Q (.prop d (.prop g (.cell (S.cell (i 0 _ rfl)) .nil))) fun c b=>c_box [N0] 49 S b fun y d g b c=>tv (c_st 0 [sL k j l] b c rfl fun b c d g=>tv (c_dt (c_seq (c_mid (fun a w=>∃p:Zone,∃q:Bool,Zone.le G p∧Fr a 61 [(1,pB B 0),(4,sL D u E),(6,pB y 0),(16, .agg #[V00,V01,V02,V03,V04,V05,V06,V07,V08]),(17,vI C),(23,sL D u E),(24,vI (u.length:Int)),(25,vI z),(37, .bool q)]∧St p (box y [sL k j l] 49::box B [sL o_x0l x0l c_x0l,V00,V01,V02,V03,V04,V05,V06,V07,V08] 29::L) w∧(F71_j1 fuel (F71_l2 fuel (F71_l1 fuel x0l x0h P) x0l C u K) x0l z j q)=some r) ?_ ?_))))
   ·skip
    refine c_reg (c_n 1 [sL k j l] [1,4,6,16,17,23,24,25,29] g (.cell (d.bx 0 0 rfl rfl) .nil) fun b c=>?_)
    obtain ⟨g,b,m⟩:=bind_some f
    refine c_call c (f37_ok fuel j g b G _ _ d k l J) ?_
    rintro c d i ⟨s,t,rfl,o⟩ b
    refine tv (c_n 2 [] [1,4,6,16,17,23,24,25,32] b .nil fun b i=>?_)
    rcases bft (!g) with b | b
    ·have f:=cond_t b m
     have c:=i.lit 32 b
     refine c_t [] [1,4,6,16,17,23,24,25,37] c .nil fun d c=>⟨s,true,t,c.to,o,f⟩
    have f:=cond_f b m
    have b:=i.lit 32 b
    refine c_t [sL k j l] [1,4,6,16,17,23,24,25,37] b (.cell (o.bx 0 0 rfl rfl) .nil) fun c b=>⟨s,((j.length:Int) == (0:Int)),t,b.to,o,f⟩
   rintro b c ⟨p,q,x,d,g,m⟩
   refine c_if q d (fun c=>?_) (fun c=>?_)
   ·have f:=cond_t c m
    refine c_sq [] [2] d .nil fun i b=>c_ret (r_then (r_block (r_then (r_then (r_block (r_then (r_block (r_then (r_then (r_block (r_then (c_rt [] (vI 62) b .nil ?_))))))))))))
    obtain rfl:=some_eq f
    exact ⟨_,rfl,p,(zt (zt (zt I H) F) x),rfl,(St.drop 2 g)⟩
   have f:=cond_f c m
   refine c_skip (n_then (c_sq [sL k j l] [1,4,16,17,23,24,25,39,40,41] d (.cell (g.bx 0 0 rfl rfl) .nil) fun c b=>(c_block 4 (c_loop (fun n a w=>∃q:Zone,∃o:Int,Zone.le p q∧Fr a 61 [(1,pB B 0),(4,sL D u E),(16, .agg #[V00,V01,V02,V03,V04,V05,V06,V07,V08]),(17,vI C),(23,sL D u E),(24,vI (u.length:Int)),(25,vI z),(39,sL k j l),(40,vI (j.length:Int)),(41,vI o)]∧St q (box y [sL k j l] 49::box B [sL o_x0l x0l c_x0l,V00,V01,V02,V03,V04,V05,V06,V07,V08] 29::L) w∧(F71_l3 fuel (F71_l2 fuel (F71_l1 fuel x0l x0h P) x0l C u K) x0l z j n o)=some r) fuel ⟨p,0,zr,b.to,g,f⟩ ?_))))
   rintro b c d ⟨q,o,p,g,t,A⟩
   cases b with
   | zero=>cases A
   | succ B =>
   refine c_sq [] [1,4,16,17,23,24,25,39,40,41,42] g .nil fun b y=>c_seq (c_if (decide (o<(j.length:Int))) y (fun s=>?_) (fun s=>?_))
   ·have f:=cond_t s A
    refine c_skip (n_then (c_seq (c_block 5 (c_sr ?_))))
    obtain ⟨c,b,f⟩:=bind_some f
    obtain ⟨d,g,i,j,rfl,b⟩:=SliceR.getI (SliceR.mono (zt x p) J) b
    refine c_n 2 [.pointer (some d),vI c.lot,vI c.mass] [1,4,16,17,23,24,25,39,40,41,44] y (.prop g (.prop i (.cell (t.cell (b 0 _ rfl)) (.cell (t.cell (b 1 _ rfl)) .nil)))) fun d b=>c_box [vI 0,vI 0] 53 t b fun g i j b d=>tv (c_st 0 [vI c.lot,vI c.mass] b d rfl fun g i b d=>tv (c_dt (c_sr (c_n 4 [sL o_x0l x0l c_x0l,vI c.lot] [1,4,16,17,23,24,25,39,40,41,47,49] d (.cell (b.bx 2 0 rfl rfl) (.cell (b.bx 0 0 rfl rfl) .nil)) fun d g=>?_))))
    obtain ⟨i,d,m⟩:=bind_some f
    refine c_call g (f42_ok fuel x0l c.lot i d q _ _ b o_x0l c_x0l (SliceR.mono (zt (zt (zt (zt I H) F) x) p) hx_x0l)) ?_
    rintro c d g ⟨j,k,rfl,l⟩ b
    refine tv (c_t [] [1,4,10,16,17,23,24,25,39,40,41] b .nil fun c b=>c_sq [] [1,4,16,17,23,24,25,39,40,41,54] b .nil fun b d=>c_if (!i.2) d (fun c=>?_) (fun c=>?_))
    ·have f:=cond_t c m
     refine c_sq [] [2] d .nil fun g b=>c_ret (r_block (r_then (r_then (r_block (r_block (r_then (r_then (r_block (r_then (r_block (r_then (r_then (r_block (r_then (c_rt [] (vI 62) b .nil ?_)))))))))))))))
     obtain rfl:=some_eq f
     exact ⟨_,rfl,j,(zt (zt (zt (zt (zt I H) F) x) p) k),rfl,(St.drop 3 l)⟩
    have f:=cond_f c m
    refine c_skip (n_block (n_then (c_q [] [1,4,16,17,23,24,25,39,40,41] d .nil fun c b=>(n_then (⟨B,Nat.lt_succ_self B,j,(w64 (o + (1:Int))),(zt p k),b.to,(St.drop 1 l),f⟩)))))
   have f:=cond_f s A
   refine c_exit 4 (x_then (x_then (x_block (n_block (n_then (c_q [] [1,4,16,17,23,24,25] y .nil fun c b=>(n_then (⟨K,Nat.lt_succ_self K,q,(w64 (z + (1:Int))),(zt (zt F x) p),b.to,(St.drop 1 t),f⟩))))))))
  have f:=cond_f O R
  refine c_exit 2 (x_then (x_then (x_block (n_then (c_sr (c_n 1 [] [1,16,17,57] Q .nil fun b c=>?_))))))
  obtain ⟨d,b,m⟩:=bind_some f
  refine c_call c (f41_ok fuel u d b G _ _ S D E (SliceR.mono F X)) ?_
  rintro c g i ⟨j,k,rfl,l⟩ b
  refine tv (c_t [] [1,16,17,59] b .nil fun b g=>c_if (decide (d > (100000000:Int))) g (fun c=>?_) (fun c=>?_))
  ·have f:=cond_t c m
   refine c_sq [] [2] g .nil fun d b=>c_ret (r_block (r_then (r_then (r_block (r_then (c_rt [] (vI 62) b .nil ?_))))))
   obtain rfl:=some_eq f
   exact ⟨_,rfl,j,(zt (zt (zt I H) F) k),rfl,(St.drop 1 l)⟩
  have f:=cond_f c m
  refine c_skip (n_block (n_then (c_q [] [1,16,17] g .nil fun c b=>(n_then (⟨P,Nat.lt_succ_self P,j,(w64 (C + (1:Int))),(zt (zt H F) k),b.to,l,f⟩)))))
 have f:=cond_f T V
 refine c_exit 0 (x_then (x_then (x_block (n_then (c_sq [] [2] U .nil fun c b=>(c_ret (c_rt [] (vI 0) b .nil ?_)))))))
 obtain rfl:=some_eq f
 exact ⟨_,rfl,M,(zt I H),rfl,(St.drop 1 W)⟩
def F72 (fuel:Nat) (x0:Int):Option (Bool) :=
  ((F48 fuel x0 0 8).bind fun r1=>(some (r1)))
set_option maxRecDepth 100000 in
theorem f72_ok (fuel:Nat) (x0:Int) (r:Bool) (hr:F72 fuel x0=some r) (h:Zone) (L:List Atom) (w:World) (hS:St h L w)  :
    Calls Tryz.prog 72 #[vI x0] w fun e w'=>∃v,e= .returned v∧(∃h',Zone.le h h'∧v= .bool r∧St h' L w'):=by
 refine calls_intro (N:=5) Tryz.func72 (by kernel_rfl) fun a hf=>c_sq [] [0] hf .nil fun c b=>c_sr (c_n 1 [] [3] b .nil fun b c=>?_)
 obtain ⟨d,b,l⟩:=bind_some hr
 refine c_call c (f48_ok fuel x0 0 8 d b h _ _ hS ) ?_
 rintro c f g ⟨i,j,rfl,k⟩ b
 refine tv (c_t [] [2] b .nil fun c b=>c_ret (c_rt [] (.bool d) b .nil ?_))
 obtain rfl:=some_eq l
 exact ⟨_,rfl,i,j,rfl,k⟩
def F40 (fuel:Nat) (x0l:List Lot) (x0h:List (List (List Part))) (x1:Int):Option (Int) :=
  ((F71 fuel x0l x0h).bind fun r1=>(cond (r1 != (0:Int)) (some (r1)) ((F72 fuel x1).bind fun r2=>(cond (!r2) (some (1)) (some (0))))))
set_option maxRecDepth 100000 in
theorem f40_ok (fuel:Nat) (x0l:List Lot) (x0h:List (List (List Part))) (x1:Int) (r:Int) (hr:F40 fuel x0l x0h x1=some r) (h:Zone) (L:List Atom) (w:World) (hS:St h L w) (o_x0l:Option Addr) (c_x0l:Nat) (hx_x0l:SliceR LotT h o_x0l c_x0l x0l) (V00 V01 V02 V03 V04 V05 V06 V07 V08:Value) (hx_x0h:(Ty.arr 9 (Ty.slice (Ty.slice PartT))).rep h [V00,V01,V02,V03,V04,V05,V06,V07,V08] x0h) :
    Calls Tryz.prog 40 #[.agg #[.slice o_x0l x0l.length c_x0l,V00,V01,V02,V03,V04,V05,V06,V07,V08],vI x1] w fun e w'=>∃v,e= .returned v∧(∃h',Zone.le h h'∧v=vI r∧St h' L w'):=by
 refine calls_intro (N:=14) Tryz.func40 (by kernel_rfl) fun a hf=>c_sr (c_box [sL o_x0l x0l c_x0l,V00,V01,V02,V03,V04,V05,V06,V07,V08] 29 hS hf fun i j k b c=>tv (c_t [] [1,2] c .nil fun l d=>(c_seq (c_sr (c_n 1 [sL o_x0l x0l c_x0l,V00,V01,V02,V03,V04,V05,V06,V07,V08] [1,6] d (.cell (b.bx 0 0 rfl rfl) (.cell (b.bx 0 1 rfl rfl) (.cell (b.bx 0 2 rfl rfl) (.cell (b.bx 0 3 rfl rfl) (.cell (b.bx 0 4 rfl rfl) (.cell (b.bx 0 5 rfl rfl) (.cell (b.bx 0 6 rfl rfl) (.cell (b.bx 0 7 rfl rfl) (.cell (b.bx 0 8 rfl rfl) (.cell (b.bx 0 9 rfl rfl) .nil)))))))))) fun m f=>?_)))))
 obtain ⟨i,c,n⟩:=bind_some hr
 refine c_call f (f71_ok fuel x0l x0h i c h _ _ b o_x0l c_x0l hx_x0l V00 V01 V02 V03 V04 V05 V06 V07 V08 (Ty.mono _ zr hx_x0h)) ?_
 rintro c d f ⟨j,m,rfl,k⟩ b
 refine tv (c_t [] [1,5] b .nil fun c b=>c_sq [] [1,5,9] b .nil fun b d=>c_if (i != (0:Int)) d (fun c=>?_) (fun c=>?_))
 ·have g:=cond_t c n
  refine c_sq [] [4] d .nil fun f b=>c_ret (r_then (c_rt [] (vI i) b .nil ?_))
  obtain rfl:=some_eq g
  exact ⟨_,rfl,j,m,rfl,(St.drop 1 k)⟩
 have g:=cond_f c n
 refine c_skip (n_then (c_seq (c_sr (c_n 1 [] [11] d .nil fun b c=>?_))))
 obtain ⟨d,b,n⟩:=bind_some g
 refine c_call c (f72_ok fuel x1 d b j _ _ k ) ?_
 rintro c f i ⟨j,k,rfl,l⟩ b
 refine tv (c_t [] [13] b .nil fun b f=>c_if (!d) f (fun c=>?_) (fun c=>?_))
 ·have g:=cond_t c n
  refine c_sq [] [4] f .nil fun d b=>c_ret (r_then (c_rt [] (vI 1) b .nil ?_))
  obtain rfl:=some_eq g
  exact ⟨_,rfl,j,(zt m k),rfl,(St.drop 1 l)⟩
 have g:=cond_f c n
 refine c_skip (n_then (c_sq [] [4] f .nil fun c b=>(c_ret (c_rt [] (vI 0) b .nil ?_))))
 obtain rfl:=some_eq g
 exact ⟨_,rfl,j,(zt m k),rfl,(St.drop 1 l)⟩
def F43_l1 (x0:Int) (x1:Int):Nat→Int→Int→Option (Int×Int)
  | 0,_,_=>none
  | n1 + 1,y1,y2 =>
    let k1:Int→Int→Option (Int×Int):=F43_l1 x0 x1 n1
    (cond (decide (y2 > (0:Int))) ((nz y2).bind fun _=>(k1 y2 (Int.tmod y1 y2))) ((nz y1).bind fun _=>((nz y1).bind fun _=>(some ((w64 (Int.tdiv x0 y1)),(w64 (Int.tdiv x1 y1)))))))
def F43 (fuel:Nat) (x0:Int) (x1:Int):Option (Int×Int) :=
  (F43_l1 x0 x1 fuel x0 x1)
set_option maxRecDepth 100000 in
theorem f43_ok (fuel:Nat) (x0:Int) (x1:Int) (r:Int×Int) (hr:F43 fuel x0 x1=some r) (h:Zone) (L:List Atom) (w:World) (hS:St h L w)  :
    Calls Tryz.prog 43 #[vI x0,vI x1] w fun e w'=>∃v,e= .returned v∧(∃h',Zone.le h h'∧v= .agg #[vI r.1,vI r.2]∧St h' L w'):=by
 refine calls_intro (N:=22) Tryz.func43 (by kernel_rfl) fun a hf=>c_sr (c_box [vI 0,vI 0] 55 hS hf fun b k l c d=>tv (c_dt (c_sq [] [0,1,4,5,6] d .nil fun m f=>(c_seq (c_block 0 (c_loop (fun n a w=>∃p:Zone,∃j:Int,∃i:Int,Zone.le h p∧Fr a 22 [(0,vI x0),(1,vI x1),(4,pB b 0),(5,vI j),(6,vI i)]∧St p (box b [vI 0,vI 0] 55::L) w∧(F43_l1 x0 x1 n j i)=some r) fuel ⟨h,x0,x1,zr,f.to,c,hr⟩ ?_))))))
 rintro b c s ⟨p,j,i,q,d,m,o⟩
 cases b with
 | zero=>cases o
 | succ k =>
 refine c_seq (c_sq [] [0,1,4,5,6,10] d .nil fun b l=>(c_if (decide (i > (0:Int))) l (fun c=>?_) (fun c=>?_)))
 ·have g:=cond_t c o
  refine c_skip (n_then (c_block 1 ?_))
  have f:=m.drew
  obtain ⟨d,b,g⟩:=bind_some g
  refine c_qD [(0,true),(1,true),(2,true),(3,true),(4,true),(5,true)] [] [] [0,1,4,5,6] l (.prop (nz_spec b) .nil) .nil fun d b=>n_block (n_then (⟨k,Nat.lt_succ_self k,p,i,(Int.tmod j i),q,b.to,f,g⟩))
 have g:=cond_f c o
 refine c_exit 0 (x_then (x_then (x_block (n_then (c_seq ?_)))))
 have f:=m.drew
 refine c_regD (rD 8 [7]) [7] (fun x=>x=s.drew) rfl ?_
 obtain ⟨b,c,g⟩:=bind_some g
 obtain ⟨d,b,g⟩:=bind_some g
 refine c_E 7 [] [4,21] l (.prop (nz_spec c) (.prop (nz_spec b) .nil)) .nil fun c b=>c_st 0 [vI (w64 (Int.tdiv x0 j)),vI (w64 (Int.tdiv x1 j))] f b rfl fun d f b c=>⟨fun e=>absurd e (by decide),?_⟩
 refine c_dt (c_ret (c_rt [vI (w64 (Int.tdiv x0 j)),vI (w64 (Int.tdiv x1 j))] (.agg #[vI (w64 (Int.tdiv x0 j)),vI (w64 (Int.tdiv x1 j))]) c (.cell (b.bx 0 0 rfl rfl) (.cell (b.bx 0 1 rfl rfl) .nil)) ?_))
 obtain rfl:=some_eq g
 exact ⟨_,rfl,p,q,rfl,(St.drop 1 b)⟩
def F15_l2 (fuel:Nat) (k1:Int→Int→Option (Int×Int×Int)) (x0l:List Lot) (y1:Int) (p1:List Part):Nat→Int→Int→Option (Int×Int×Int)
  | 0,_,_=>none
  | n1 + 1,y2,y3 =>
    let k2:Int→Int→Option (Int×Int×Int):=F15_l2 fuel k1 x0l y1 p1 n1
    (cond (decide (y3<(p1.length:Int))) ((getI p1 y3).bind fun p2=>((F42 fuel x0l p2.lot).bind fun r1=>((getI x0l r1.1).bind fun p3=>(k2 (w64 (y2 + (w64 (p2.mass * p3.wet)))) (w64 (y3 + (1:Int))))))) (k1 y2 (w64 (y1 + (1:Int)))))
def F15_l1 (fuel:Nat) (x0l:List Lot) (r2:Int) (p4:List (List Part)):Nat→Int→Int→Option (Int×Int×Int)
  | 0,_,_=>none
  | n2 + 1,y4,y1 =>
    let k1:Int→Int→Option (Int×Int×Int):=F15_l1 fuel x0l r2 p4 n2
    (cond (decide (y1<(p4.length:Int))) ((getI p4 y1).bind fun p1=>(F15_l2 fuel k1 x0l y1 p1 fuel y4 0)) ((F43 fuel y4 r2).bind fun r3=>(some (r3.1,r3.2,0))))
def F15 (fuel:Nat) (x0l:List Lot) (x0h:List (List (List Part))) (x1:Int):Option (Int×Int×Int) :=
  ((F40 fuel x0l x0h x1).bind fun r4=>(cond (r4 != (0:Int)) (some (0,0,r4)) ((getI x0h x1).bind fun p5=>((F41 fuel p5).bind fun r2=>(cond (r2 == (0:Int)) (some (0,0,3)) ((getI x0h x1).bind fun p4=>(F15_l1 fuel x0l r2 p4 fuel 0 0)))))))
set_option maxRecDepth 100000 in
theorem f15_ok (fuel:Nat) (x0l:List Lot) (x0h:List (List (List Part))) (x1:Int) (r:Int×Int×Int) (hr:F15 fuel x0l x0h x1=some r) (h:Zone) (L:List Atom) (w:World) (hS:St h L w) (o_x0l:Option Addr) (c_x0l:Nat) (hx_x0l:SliceR LotT h o_x0l c_x0l x0l) (V00 V01 V02 V03 V04 V05 V06 V07 V08:Value) (hx_x0h:(Ty.arr 9 (Ty.slice (Ty.slice PartT))).rep h [V00,V01,V02,V03,V04,V05,V06,V07,V08] x0h) :
    Calls Tryz.prog 15 #[.agg #[.slice o_x0l x0l.length c_x0l,V00,V01,V02,V03,V04,V05,V06,V07,V08],vI x1] w fun e w'=>∃v,e= .returned v∧(∃h',Zone.le h h'∧v= .tuple #[.agg #[vI r.1,vI r.2.1],vI r.2.2]∧St h' L w'):=by
 refine calls_intro (N:=70) Tryz.func15 (by kernel_rfl) fun a hf=>c_sr (c_box [sL o_x0l x0l c_x0l,V00,V01,V02,V03,V04,V05,V06,V07,V08] 29 hS hf fun B k m c d=>tv (c_box [vI 0,vI 0] 55 c d fun C o p b f=>tv (c_t [] [1,2,4] f .nil fun q g=>(c_seq (c_sr (c_n 2 [sL o_x0l x0l c_x0l,V00,V01,V02,V03,V04,V05,V06,V07,V08] [1,2,4,15,16] g (.cell (b.bx 1 0 rfl rfl) (.cell (b.bx 1 1 rfl rfl) (.cell (b.bx 1 2 rfl rfl) (.cell (b.bx 1 3 rfl rfl) (.cell (b.bx 1 4 rfl rfl) (.cell (b.bx 1 5 rfl rfl) (.cell (b.bx 1 6 rfl rfl) (.cell (b.bx 1 7 rfl rfl) (.cell (b.bx 1 8 rfl rfl) (.cell (b.bx 1 9 rfl rfl) .nil)))))))))) fun s j=>?_))))))
 obtain ⟨k,c,t⟩:=bind_some hr
 refine c_call j (f40_ok fuel x0l x0h x1 k c h _ _ b o_x0l c_x0l hx_x0l V00 V01 V02 V03 V04 V05 V06 V07 V08 (Ty.mono _ zr hx_x0h)) ?_
 rintro c d f ⟨u,M,rfl,s⟩ b
 refine tv (c_t [] [1,2,4,6] b .nil fun c b=>c_sq [] [1,2,4,6,19] b .nil fun b q=>c_if (k != (0:Int)) q (fun g=>?_) (fun g=>?_))
 ·have l:=cond_t g t
  refine c_sr (c_n 2 [] [4,20,21] q .nil fun j c=>(c_st 0 [vI 0,vI 0] s c rfl fun m o b d=>tv (c_t [] [4,5] d .nil fun p f=>(c_ret (r_then (c_rt [vI 0,vI 0] (.tuple #[.agg #[vI 0,vI 0],vI k]) f (.cell (b.bx 0 0 rfl rfl) (.cell (b.bx 0 1 rfl rfl) .nil)) ?_))))))
  obtain rfl:=some_eq l
  exact ⟨_,rfl,u,M,rfl,(St.drop 2 b)⟩
 have l:=cond_f g t
 refine c_skip (n_then (c_sr ?_))
 obtain ⟨g,b,l⟩:=bind_some l
 obtain ⟨b,_,f,c,d,hehv83,j⟩:=arrGet (Ty.mono _ M hx_x0h) rfl b
 obtain rfl:=List.head_eq_of_cons_eq hehv83
 refine c_n 4 [sL c g d] [1,2,4,25] q (.prop b (.cell ((arrAddr B 1 x1.toNat) ▸ (s.box (i:=1) rfl (getElem?_app_right [sL o_x0l x0l c_x0l] _ _ f []))) .nil)) fun b f=>?_
 obtain ⟨F,b,t⟩:=bind_some l
 refine c_call f (f41_ok fuel g F b u _ _ s c d j) ?_
 rintro c d f ⟨q,P,rfl,s⟩ b
 refine tv (c_t [] [1,2,4,7,8] b .nil fun c b=>c_seq (c_sq [] [1,2,4,7,8,28] b .nil fun b p=>(c_if (F == (0:Int)) p (fun g=>?_) (fun g=>?_))))
 ·have l:=cond_t g t
  refine c_sr (c_n 1 [] [4,29] p .nil fun j c=>(c_st 0 [vI 0,vI 0] s c rfl fun k m b d=>tv (c_t [] [4,5] d .nil fun o f=>(c_ret (r_then (c_rt [vI 0,vI 0] (.tuple #[.agg #[vI 0,vI 0],vI 3]) f (.cell (b.bx 0 0 rfl rfl) (.cell (b.bx 0 1 rfl rfl) .nil)) ?_))))))
  obtain rfl:=some_eq l
  exact ⟨_,rfl,q,(zt M P),rfl,(St.drop 2 b)⟩
 have l:=cond_f g t
 refine c_skip (n_then (c_seq ?_))
 obtain ⟨j,b,l⟩:=bind_some l
 obtain ⟨b,_,c,y,z,hehv4136,k⟩:=arrGet (Ty.mono _ (zt M P) hx_x0h) rfl b
 obtain rfl:=List.head_eq_of_cons_eq hehv4136
 refine c_sq [sL y j z] [2,4,7,8,33,34,35] p (.prop b (.cell ((arrAddr B 1 x1.toNat) ▸ (s.box (i:=1) rfl (getElem?_app_right [sL o_x0l x0l c_x0l] _ _ c []))) .nil)) fun c b=>?_
 refine c_block 0 (c_loop (fun n a w=>∃D:Zone,∃G:Int,∃A:Int,Zone.le q D∧Fr a 70 [(2,pB B 0),(4,pB C 0),(7,vI F),(8,vI G),(33,sL y j z),(34,vI (j.length:Int)),(35,vI A)]∧St D (box C [vI 0,vI 0] 55::box B [sL o_x0l x0l c_x0l,V00,V01,V02,V03,V04,V05,V06,V07,V08] 29::L) w∧(F15_l1 fuel x0l F j n G A)=some r) fuel ⟨q,0,0,zr,b.to,s,l⟩ ?_)
 rintro b c d ⟨D,G,A,H,f,Q,O⟩
 cases b with
 | zero=>cases O
 | succ J =>
 refine c_sq [] [2,4,7,8,33,34,35,36] f .nil fun b K=>c_seq (c_if (decide (A<(j.length:Int))) K (fun I=>?_) (fun I=>?_))
 ·have l:=cond_t I O
  refine c_skip (n_then (c_seq (c_block 1 (c_sr ?_))))
  obtain ⟨g,b,l⟩:=bind_some l
  obtain ⟨d,f,k,c,b,m⟩:=SliceR.getI (SliceR.mono H k) b
  obtain ⟨b,c,rfl,p⟩:=b
  refine c_n 2 [.pointer (some d),sL b g c] [2,4,7,8,33,34,35,38] K (.prop f (.prop k (.cell (Q.cell (m 0 _ rfl)) .nil))) fun f d=>c_box [N0] 49 Q d fun k m o d f=>tv (c_st 0 [sL b g c] d f rfl fun m o d f=>tv (c_dt (c_sq [sL b g c] [2,4,7,8,33,34,35,40,41,42] f (.cell (d.bx 0 0 rfl rfl) .nil) fun m f=>(c_block 2 (c_loop (fun n a w=>∃u:Zone,∃x:Int,∃q:Int,Zone.le D u∧Fr a 70 [(2,pB B 0),(4,pB C 0),(7,vI F),(8,vI x),(33,sL y j z),(34,vI (j.length:Int)),(35,vI A),(40,sL b g c),(41,vI (g.length:Int)),(42,vI q)]∧St u (box k [sL b g c] 49::box C [vI 0,vI 0] 55::box B [sL o_x0l x0l c_x0l,V00,V01,V02,V03,V04,V05,V06,V07,V08] 29::L) w∧(F15_l2 fuel (F15_l1 fuel x0l F j J) x0l A g n x q)=some r) fuel ⟨D,G,0,zr,f.to,d,l⟩ ?_)))))
  rintro b c d ⟨u,x,q,s,f,B,t⟩
  cases b with
  | zero=>cases t
  | succ E =>
  refine c_sq [] [2,4,7,8,33,34,35,40,41,42,43] f .nil fun b C=>c_seq (c_if (decide (q<(g.length:Int))) C (fun z=>?_) (fun z=>?_))
  ·have l:=cond_t z t
   refine c_skip (n_then (c_seq (c_block 3 (c_sr ?_))))
   obtain ⟨j,b,l⟩:=bind_some l
   obtain ⟨c,d,f,g,rfl,b⟩:=SliceR.getI (SliceR.mono s p) b
   refine c_n 2 [.pointer (some c),vI j.lot,vI j.mass] [2,4,7,8,33,34,35,40,41,42,45] C (.prop d (.prop f (.cell (B.cell (b 0 _ rfl)) (.cell (B.cell (b 1 _ rfl)) .nil)))) fun c b=>c_box [vI 0,vI 0] 53 B b fun d f g b c=>tv (c_st 0 [vI j.lot,vI j.mass] b c rfl fun d f b c=>tv (c_dt (c_sr (c_n 4 [sL o_x0l x0l c_x0l,vI j.lot] [2,4,7,8,12,33,34,35,40,41,42,48,50] c (.cell (b.bx 3 0 rfl rfl) (.cell (b.bx 0 0 rfl rfl) .nil)) fun c f=>?_))))
   obtain ⟨c,d,l⟩:=bind_some l
   refine c_call f (f42_ok fuel x0l j.lot c d u _ _ b o_x0l c_x0l (SliceR.mono (zt (zt (zt M P) H) s) hx_x0l)) ?_
   rintro c d f ⟨y,p,rfl,g⟩ b
   refine tv (c_t [] [2,4,7,8,12,13,33,34,35,40,41,42] b .nil fun b o=>?_)
   have b:=g.drew
   obtain ⟨k,c,l⟩:=bind_some l
   obtain ⟨c,d,f,m,rfl,g⟩:=SliceR.getI (SliceR.mono (zt (zt (zt (zt M P) H) s) p) hx_x0l) c
   refine c_qD [(0,true),(1,true),(2,true),(3,true),(4,true),(5,true),(6,true),(7,true),(8,true),(9,true),(10,true),(11,true)] [] [vI j.mass,sL o_x0l x0l c_x0l, .pointer (some c),vI k.wet] [2,4,7,8,33,34,35,40,41,42] o (.cell (b.bx 0 1 rfl rfl) (.cell (b.bx 3 0 rfl rfl) (.prop d (.prop f (.cell (b.cell (g 3 _ rfl)) .nil))))) .nil fun d c=>n_block (n_then (c_q [] [2,4,7,8,33,34,35,40,41,42] c .nil fun d c=>(n_then (⟨E,Nat.lt_succ_self E,y,(w64 (x + (w64 (j.mass * k.wet)))),(w64 (q + (1:Int))),(zt s p),c.to,(St.drop 1 b),l⟩))))
  have l:=cond_f z t
  refine c_exit 2 (x_then (x_then (x_block (n_block (n_then (c_q [] [2,4,7,8,33,34,35] C .nil fun c b=>(n_then (⟨J,Nat.lt_succ_self J,u,x,(w64 (A + (1:Int))),(zt H s),b.to,(St.drop 1 B),l⟩))))))))
 have l:=cond_f I O
 refine c_exit 0 (x_then (x_then (x_block (n_then (c_sr (c_n 2 [] [4,67,68] K .nil fun b d=>?_))))))
 obtain ⟨b,c,l⟩:=bind_some l
 refine c_call d (f43_ok fuel G F b c D _ _ Q ) ?_
 rintro f g j ⟨k,m,rfl,c⟩ d
 refine tv (c_st 0 [vI b.1,vI b.2] c d rfl fun f g c d=>tv (c_t [] [4,5] d .nil fun f d=>c_ret (c_rt [vI b.1,vI b.2] (.tuple #[.agg #[vI b.1,vI b.2],vI 0]) d (.cell (c.bx 0 0 rfl rfl) (.cell (c.bx 0 1 rfl rfl) .nil)) ?_)))
 obtain rfl:=some_eq l
 exact ⟨_,rfl,k,(zt (zt (zt M P) H) m),rfl,(St.drop 2 c)⟩
def F47_l1 (fuel:Nat) (x0:List Lot) (x1:List Int):Nat→Int→Option (Int)
  | 0,_=>none
  | n1 + 1,y1 =>
    let k1:Int→Option (Int):=F47_l1 fuel x0 x1 n1
    (cond (decide (y1<(x1.length:Int))) ((getI x1 y1).bind fun p1=>((F42 fuel x0 p1).bind fun r1=>(cond (!r1.2) (some (60)) (k1 (w64 (y1 + (1:Int))))))) (some (0)))
def F47 (fuel:Nat) (x0:List Lot) (x1:List Int):Option (Int) :=
  (F47_l1 fuel x0 x1 fuel 0)
set_option maxRecDepth 100000 in
theorem f47_ok (fuel:Nat) (x0:List Lot) (x1:List Int) (r:Int) (hr:F47 fuel x0 x1=some r) (h:Zone) (L:List Atom) (w:World) (hS:St h L w) (o_x0:Option Addr) (c_x0:Nat) (hx_x0:SliceR LotT h o_x0 c_x0 x0) (o_x1:Option Addr) (c_x1:Nat) (hx_x1:SliceR Ty.int h o_x1 c_x1 x1) :
    Calls Tryz.prog 47 #[.slice o_x0 x0.length c_x0, .slice o_x1 x1.length c_x1] w fun e w'=>∃v,e= .returned v∧(∃h',Zone.le h h'∧v=vI r∧St h' L w'):=by
 refine calls_intro (N:=24) Tryz.func47 (by kernel_rfl) fun a hf=>c_sq [] [0,1] hf .nil fun c b=>c_seq (c_sq [] [0,9,10,11] b .nil fun c b=>(c_block 0 (c_loop (fun n a w=>∃q:Zone,∃k:Int,Zone.le h q∧Fr a 24 [(0,sL o_x0 x0 c_x0),(9,sL o_x1 x1 c_x1),(10,vI (x1.length:Int)),(11,vI k)]∧St q (L) w∧(F47_l1 fuel x0 x1 n k)=some r) fuel ⟨h,0,zr,b.to,hS,hr⟩ ?_)))
 rintro b c d ⟨q,k,p,f,x,u⟩
 cases b with
 | zero=>cases u
 | succ y =>
 refine c_sq [] [0,9,10,11,12] f .nil fun b t=>c_seq (c_if (decide (k<(x1.length:Int))) t (fun s=>?_) (fun s=>?_))
 ·have g:=cond_t s u
  refine c_skip (n_then (c_seq (c_block 1 ?_)))
  obtain ⟨i,b,g⟩:=bind_some g
  obtain ⟨b,c,d,j,rfl,f⟩:=SliceR.getI (SliceR.mono p hx_x1) b
  refine c_sq [.pointer (some b),vI i] [0,6,9,10,11] t (.prop c (.prop d (.cell (x.cell (f 0 _ rfl)) .nil))) fun c b=>c_sr (c_n 2 [] [0,9,10,11,16,17] b .nil fun b c=>?_)
  obtain ⟨f,b,l⟩:=bind_some g
  refine c_call c (f42_ok fuel x0 i f b q _ _ x o_x0 c_x0 (SliceR.mono p hx_x0)) ?_
  rintro c d i ⟨j,m,rfl,o⟩ b
  refine tv (c_t [] [0,8,9,10,11] b .nil fun c b=>c_sq [] [0,9,10,11,22] b .nil fun b d=>c_if (!f.2) d (fun c=>?_) (fun c=>?_))
  ·have g:=cond_t c l
   refine c_sq [] [4] d .nil fun f b=>c_ret (r_block (r_then (r_then (r_block (r_then (c_rt [] (vI 60) b .nil ?_))))))
   obtain rfl:=some_eq g
   exact ⟨_,rfl,j,(zt p m),rfl,o⟩
  have g:=cond_f c l
  refine c_skip (n_block (n_then (c_q [] [0,9,10,11] d .nil fun c b=>(n_then (⟨y,Nat.lt_succ_self y,j,(w64 (k + (1:Int))),(zt p m),b.to,o,g⟩)))))
 have g:=cond_f s u
 refine c_exit 0 (x_then (x_then (x_block (n_then (c_sq [] [4] t .nil fun c b=>(c_ret (c_rt [] (vI 0) b .nil ?_)))))))
 obtain rfl:=some_eq g
 exact ⟨_,rfl,q,p,rfl,x⟩
def F49 (fuel:Nat) (x0:List Lot) (x1:List Deed):Option (Int) :=
  ((F77 fuel x0).bind fun r1=>(cond (r1 != (0:Int)) (some (r1)) (cond (decide ((x1.length:Int) > (60:Int))) (some (2)) (some (0)))))
set_option maxRecDepth 100000 in
theorem f49_ok (fuel:Nat) (x0:List Lot) (x1:List Deed) (r:Int) (hr:F49 fuel x0 x1=some r) (h:Zone) (L:List Atom) (w:World) (hS:St h L w) (o_x0:Option Addr) (c_x0:Nat) (hx_x0:SliceR LotT h o_x0 c_x0 x0) (o_x1:Option Addr) (c_x1:Nat) (hx_x1:SliceR DeedT h o_x1 c_x1 x1) :
    Calls Tryz.prog 49 #[.slice o_x0 x0.length c_x0, .slice o_x1 x1.length c_x1] w fun e w'=>∃v,e= .returned v∧(∃h',Zone.le h h'∧v=vI r∧St h' L w'):=by
 refine calls_intro (N:=14) Tryz.func49 (by kernel_rfl) fun a hf=>c_sq [] [0,1] hf .nil fun c b=>c_seq (c_sr (c_n 1 [] [1,6] b .nil fun b c=>?_))
 obtain ⟨g,b,j⟩:=bind_some hr
 refine c_call c (f77_ok fuel x0 g b h _ _ hS o_x0 c_x0 hx_x0) ?_
 rintro c d i ⟨k,l,rfl,m⟩ b
 refine tv (c_t [] [1,5] b .nil fun c b=>c_sq [] [1,5,9] b .nil fun b d=>c_if (g != (0:Int)) d (fun c=>?_) (fun c=>?_))
 ·have f:=cond_t c j
  refine c_sq [] [4] d .nil fun i b=>c_ret (r_then (c_rt [] (vI g) b .nil ?_))
  obtain rfl:=some_eq f
  exact ⟨_,rfl,k,l,rfl,m⟩
 have j:=cond_f c j
 refine c_skip (n_then (c_seq (c_sq [] [13] d .nil fun b d=>(c_if (decide ((x1.length:Int) > (60:Int))) d (fun c=>?_) (fun c=>?_)))))
 ·have f:=cond_t c j
  refine c_sq [] [4] d .nil fun g b=>c_ret (r_then (c_rt [] (vI 2) b .nil ?_))
  obtain rfl:=some_eq f
  exact ⟨_,rfl,k,l,rfl,m⟩
 have f:=cond_f c j
 refine c_skip (n_then (c_sq [] [4] d .nil fun c b=>(c_ret (c_rt [] (vI 0) b .nil ?_))))
 obtain rfl:=some_eq f
 exact ⟨_,rfl,k,l,rfl,m⟩
def F52 (fuel:Nat) (x0:List Part):Option (List Part) :=
  ((appC ([]) x0).bind fun d1=>(some (d1)))
set_option maxRecDepth 100000 in
theorem f52_ok (fuel:Nat) (x0:List Part) (r:List Part) (hr:F52 fuel x0=some r) (h:Zone) (L:List Atom) (w:World) (hS:St h L w) (o_x0:Option Addr) (c_x0:Nat) (hx_x0:SliceR PartT h o_x0 c_x0 x0) :
    Calls Tryz.prog 52 #[.slice o_x0 x0.length c_x0] w fun e w'=>∃v,e= .returned v∧(∃h',∃o0:Option Addr,∃c0:Nat,Zone.le h h'∧v= .slice o0 r.length c0∧St h' L w'∧SliceR PartT h' o0 c0 r):=by
 cases o_x0 with
 | none =>
  obtain ⟨c,f⟩:=hx_x0.hnil rfl
  subst c f
  have hr:some ([]:List Part)=some r:=by simpa [F52,appC] using hr
  refine calls_intro (N:=8) Tryz.func52 (by kernel_rfl) fun a hf=>c_sq [] [0] hf .nil fun k c=>c_seq (c_sq [] [0,4] c .nil fun l f=>(w_if_true f (by kernel_rfl) (c_sq [] [2] f .nil fun m g=>(c_ret (r_then (c_rt [] (N0) g .nil ?_))))))
  obtain rfl:=some_eq hr
  exact ⟨_,rfl,h,none,0,zr,rfl,hS,SliceR.nil' _ _⟩
 | some oa =>
  refine calls_intro (N:=8) Tryz.func52 (by kernel_rfl) fun a hf=>c_sq [] [0] hf .nil fun k c=>c_seq (c_sq [] [0,4] c .nil fun l f=>(w_if_false f (by kernel_rfl) (c_skip (n_then (c_sr (p_box (i:=0) (d:=(some 5)) (cs:=[]) (T:=53) (v:=fun c=> .slice (some ⟨c,0,none⟩) 0 0) hS f (fun b=>by kernel_rfl) fun c k m f g=>tv ?_))))))
  have c:=f.ownBox (T:=PartT) (E:=53) (n:=0) (xs:=[]) (i:=0) rfl rfl rfl (by decide)
  refine c_n 1 [] [5,6] g .nil fun f g=>?_
  obtain ⟨p,f,q⟩:=bind_some hr
  refine p_append (T:=PartT) (i:=2) (j:=0) (d:=some 7) (o2:=(some oa)) (c2:=c_x0) (ys:=x0) el47 c g rfl (by kernel_rfl) (SliceR.src hx_x0 c) f fun f g k l m c=>tv (c_t [] [2] c .nil fun c k=>c_ret ?_)
  obtain ⟨c,l,m,o⟩:=m.share (j:=0) rfl
  refine c_rt [] (sL f p g) k .nil ?_
  obtain rfl:=some_eq q
  exact ⟨_,rfl,c,f,g,l,rfl,(St.drop 1 m),o⟩
def F20_l2 (fuel:Nat) (k1:(List (Option (List (List Part))))→Int→Option (List Lot×List (List (List Part)))) (y1:Int) (p1:List (List Part)):Nat→(List (Option (List (List Part))))→Int→Option (List Lot×List (List (List Part)))
  | 0,_,_=>none
  | n1 + 1,y2,y3 =>
    let k2:(List (Option (List (List Part))))→Int→Option (List Lot×List (List (List Part))):=F20_l2 fuel k1 y1 p1 n1
    (cond (decide (y3<(p1.length:Int))) ((getI p1 y3).bind fun p2=>((getO y2 y1).bind fun p3=>((F52 fuel p2).bind fun r1=>((appC p3 ([r1])).bind fun d1=>(k2 (y2.set (Int.toNat y1) (some d1)) (w64 (y3 + (1:Int)))))))) (k1 y2 (w64 (y1 + (1:Int)))))
def F20_l1 (fuel:Nat) (x0l:List Lot) (x0h:List (List (List Part))):Nat→(List (Option (List (List Part))))→Int→Option (List Lot×List (List (List Part)))
  | 0,_,_=>none
  | n2 + 1,y4,y1 =>
    let k1:(List (Option (List (List Part))))→Int→Option (List Lot×List (List (List Part))):=F20_l1 fuel x0l x0h n2
    (cond (decide (y1<(9:Int))) ((getI x0h y1).bind fun p1=>((getI y4 y1).bind fun p4=>(F20_l2 fuel k1 y1 p1 fuel (y4.set (Int.toNat y1) (some ([]))) 0))) ((allS y4).bind fun d2=>(some (x0l,d2))))
def F20 (fuel:Nat) (x0l:List Lot) (x0h:List (List (List Part))):Option (List Lot×List (List (List Part))) :=
  ((mkC (x0l.length:Int) (⟨0,0,0,0⟩:Lot)).bind fun d3=>((cpC d3 x0l).bind fun _=>(F20_l1 fuel x0l x0h fuel (List.replicate 9 none) 0)))
set_option maxRecDepth 100000 in
theorem f20_ok (fuel:Nat) (x0l:List Lot) (x0h:List (List (List Part))) (r:List Lot×List (List (List Part))) (hr:F20 fuel x0l x0h=some r) (h:Zone) (L:List Atom) (w:World) (hS:St h L w) (o_x0l:Option Addr) (c_x0l:Nat) (hx_x0l:SliceR LotT h o_x0l c_x0l x0l) (V00 V01 V02 V03 V04 V05 V06 V07 V08:Value) (hx_x0h:(Ty.arr 9 (Ty.slice (Ty.slice PartT))).rep h [V00,V01,V02,V03,V04,V05,V06,V07,V08] x0h) :
    Calls Tryz.prog 20 #[.agg #[.slice o_x0l x0l.length c_x0l,V00,V01,V02,V03,V04,V05,V06,V07,V08]] w fun e w'=>∃v,e= .returned v∧(∃h',∃o0:Option Addr,∃c0:Nat,∃v1_0:Value,∃v1_1:Value,∃v1_2:Value,∃v1_3:Value,∃v1_4:Value,∃v1_5:Value,∃v1_6:Value,∃v1_7:Value,∃v1_8:Value,Zone.le h h'∧v= .agg #[.slice o0 r.1.length c0,v1_0,v1_1,v1_2,v1_3,v1_4,v1_5,v1_6,v1_7,v1_8]∧St h' (ownA (Ty.slice PartT) 49 [v1_0,v1_1,v1_2,v1_3,v1_4,v1_5,v1_6,v1_7,v1_8] r.2::L) w'∧SliceR LotT h' o0 c0 r.1):=by
 refine calls_intro (N:=49) Tryz.func20 (by kernel_rfl) fun a hf=>c_sr (c_box [sL o_x0l x0l c_x0l,V00,V01,V02,V03,V04,V05,V06,V07,V08] 29 hS hf fun P q t f g=>tv (c_box [N0,N0,N0,N0,N0,N0,N0,N0,N0,N0] 29 f g fun b2 u x m l=>tv (c_dt (c_sr (c_n 3 [sL o_x0l x0l c_x0l] [1,2,10] l (.cell (m.bx 1 0 rfl rfl) .nil) fun y o=>?_)))))
 obtain ⟨K,f,p⟩:=bind_some hr
 refine p_make (T:=LotT) (i:=3) (d:=some 11) (x0:=(⟨0,0,0,0⟩:Lot)) el22 m o (by kernel_rfl) rfl f fun J l m g f=>tv (c_t [] [1,2,3] f .nil fun l f=>c_sr (c_n 3 [sL o_x0l x0l c_x0l] [1,2,3,12,14] f (.cell (g.bx 2 0 rfl rfl) .nil) fun f l=>?_))
 obtain ⟨m,f,p⟩:=bind_some p
 refine p_copy (T:=LotT) (i:=3) (j:=0) (d:=some 15) (o2:=o_x0l) (c2:=c_x0l) (ys:=x0l) el22 g l rfl (by kernel_rfl) (SliceR.src hx_x0l g) f fun l m o g=>?_
 have f:=cpC_spec f
 have f:=Fr.conv (fl':=[(15,vI (x0l.length:Int)),(1,pB P 0),(2,pB b2 0),(3,sL (some J) x0l K.length),(12,sL (some J) x0l K.length),(14,sL o_x0l x0l c_x0l)]) g (by (try unfold sL); rw [f] <;> kernel_rfl)
 refine tv (c_dt (c_sr (c_n 2 [] [1,2,16,17] f .nil fun m g=>(c_st 2 [sL (some J) x0l K.length,V00,V01,V02,V03,V04,V05,V06,V07,V08] o g rfl fun o q f l=>tv (c_dt (c_seq (c_sq [V00,V01,V02,V03,V04,V05,V06,V07,V08] [1,2,19,20] l (.cell (f.bx 2 1 rfl rfl) (.cell (f.bx 2 2 rfl rfl) (.cell (f.bx 2 3 rfl rfl) (.cell (f.bx 2 4 rfl rfl) (.cell (f.bx 2 5 rfl rfl) (.cell (f.bx 2 6 rfl rfl) (.cell (f.bx 2 7 rfl rfl) (.cell (f.bx 2 8 rfl rfl) (.cell (f.bx 2 9 rfl rfl) .nil))))))))) fun t u=>(c_block 0 ?_))))))))
 have f:=f.ownNewO (Ty.slice PartT) 49 (n:=9) (vs:=[V00,V01,V02,V03,V04,V05,V06,V07,V08]) rfl (oneCells_of (Ty.one _ (Ty.mono _ zr hx_x0h)))
 have f:=f
 refine c_loop (fun n a w=>∃D:Zone,∃F:List (Option (List (List Part))),∃y:Int,∃v1:Value,∃v2:Value,∃v3:Value,∃v4:Value,∃v5:Value,∃v6:Value,∃v7:Value,∃v8:Value,∃v9:Value,Zone.le h D∧Fr a 49 [(1,pB P 0),(2,pB b2 0),(19, .agg #[V00,V01,V02,V03,V04,V05,V06,V07,V08]),(20,vI y)]∧St D (ownO (Ty.slice PartT) 49 [v1,v2,v3,v4,v5,v6,v7,v8,v9] F::ownS LotT 43 (some J) K.length x0l::box b2 [N0,N0,N0,N0,N0,N0,N0,N0,N0,N0] 29::box P [sL (some J) x0l K.length,v1,v2,v3,v4,v5,v6,v7,v8,v9] 29::L) w∧(F20_l1 fuel x0l x0h n F y)=some r) fuel ⟨h,(List.replicate 9 none),0,V00,V01,V02,V03,V04,V05,V06,V07,V08,zr,u.to,f,p⟩ ?_
 rintro f g l ⟨D,F,y,v1,v2,v3,v4,v5,v6,v7,v8,v9,k3,m,I,a7⟩
 cases f with
 | zero=>cases a7
 | succ n2 =>
 refine c_sq [] [1,2,19,20,21] m .nil fun f a6=>c_seq (c_if (decide (y<(9:Int))) a6 (fun a5=>?_) (fun a5=>?_))
 ·have p:=cond_t a5 a7
  refine c_skip (n_then (c_seq (c_block 1 ?_)))
  obtain ⟨H,f,p⟩:=bind_some p
  obtain ⟨g,_,f,e2,q1,hehv17337,a0⟩:=arrGet (Ty.mono _ k3 hx_x0h) rfl f
  obtain rfl:=List.head_eq_of_cons_eq hehv17337
  have f:=arrIdx f
  refine c_sq [sL e2 H q1] [1,2,4,5,19,20] a6 (.prop g (.prop f .nil)) fun f l=>?_
  obtain ⟨f,C,p⟩:=bind_some p
  obtain ⟨f,g⟩:=I.ownOpenS (j:=0) rfl C
  refine c_sr (c_n 3 [] [1,2,4,5,19,20,26] l (.prop f .nil) fun m l=>?_)
  have g:=g.ownNil (Ty.slice PartT) 49
  refine p_storeA (i:=3) (j:=4) (b:=P) (ix:=y) (pre:=[sL (some J) x0l K.length]) (vs:=[v1,v2,v3,v4,v5,v6,v7,v8,v9]) (post:=[]) (v:=N0) g l rfl (by have z2:=f.1; have M:=f.2; simp at M ⊢; omega) (by kernel_rfl) rfl fun l m g G=>tv ?_
  obtain ⟨m,o,q,t,u,x,z,A,B,l⟩:=nine (vs:=[v1,v2,v3,v4,v5,v6,v7,v8,v9].set (Int.toNat y) (N0)) (by simp)
  rw [l] at g
  have f:[m,o,q,t,u,x,z,A,B][Int.toNat y]? =some (N0):=by rw [← l]; exact List.getElem?_set_self (by have z2:=f.1; have M:=f.2; simp at M ⊢; omega)
  have f:=g
  refine c_done ?_
  have f:=f.ownCloseO (j:=1) (k:=0) rfl rfl (by decide) (List.getElem?_eq_some_iff.1 (getI_spec C).2).1
  simp only [List.length_nil] at f
  rw [l] at f
  refine n_then (c_sq [] [1,2,4,19,20,27,28,29] G .nil fun l g=>(c_block 2 (c_loop (fun n a w=>∃z4:Zone,∃y2:List (Option (List (List Part))),∃O:Int,∃Q:Value,∃R:Value,∃S:Value,∃U:Value,∃V:Value,∃W:Value,∃X:Value,∃Y:Value,∃Z:Value,Zone.le D z4∧Fr a 49 [(1,pB P 0),(2,pB b2 0),(4,vI y),(19, .agg #[V00,V01,V02,V03,V04,V05,V06,V07,V08]),(20,vI y),(27,sL e2 H q1),(28,vI (H.length:Int)),(29,vI O)]∧St z4 (emp::ownO (Ty.slice PartT) 49 [Q,R,S,U,V,W,X,Y,Z] y2::ownS LotT 43 (some J) K.length x0l::box b2 [N0,N0,N0,N0,N0,N0,N0,N0,N0,N0] 29::box P [sL (some J) x0l K.length,Q,R,S,U,V,W,X,Y,Z] 29::L) w∧(F20_l2 fuel (F20_l1 fuel x0l x0h n2) y H n y2 O)=some r) fuel ⟨D,(F.set (Int.toNat y) (some ([]))),0,m,o,q,t,u,x,z,A,B,zr,g.to,f,p⟩ ?_)))
  rintro f g l ⟨z4,y2,O,Q,R,S,U,V,W,X,Y,Z,k4,m,a4,a3⟩
  cases f with
  | zero=>cases a3
  | succ n1 =>
  refine c_sq [] [1,2,4,19,20,27,28,29,30] m .nil fun f a2=>c_seq (c_if (decide (O<(H.length:Int))) a2 (fun a1=>?_) (fun a1=>?_))
  ·have p:=cond_t a1 a3
   refine c_skip (n_then (c_seq (c_block 3 (c_sr ?_))))
   obtain ⟨u,f,p⟩:=bind_some p
   obtain ⟨g,l,m,q,f,o⟩:=SliceR.getI (SliceR.mono k4 a0) f
   obtain ⟨q,t,rfl,B⟩:=f
   refine c_n 2 [.pointer (some g),sL q u t] [1,2,4,19,20,27,28,29,32] a2 (.prop l (.prop m (.cell (a4.cell (o 0 _ rfl)) .nil))) fun g f=>c_box [N0] 49 a4 f fun l m o f g=>tv (c_st 0 [sL q u t] f g rfl fun f g l A=>tv (c_dt ?_))
   obtain ⟨z,a0,p⟩:=bind_some p
   obtain ⟨g,m,o,x,f⟩:=l.ownOpenO (j:=2) rfl a0
   have l:=f.drew
   have f:=Sub.of zr l
   refine c_regD [(0,true),(1,true),(2,true),(3,true),(4,true),(5,true),(6,true),(11,true),(7,false),(8,true),(9,false),(10,false),(12,true),(13,false)] [10,13] _ f (c_S 8 [sL g z m,sL q u t] [1,2,4,19,20,27,28,29,33,37,39,44] f A (fun _ s=>(.prop x (.cell ((arrAddr P 1 (Int.toNat y)) ▸ (s.box (i:=6) rfl (getElem?_app_right [sL (some J) x0l K.length] _ _ o []))) (.cell (s.bx 1 0 rfl rfl) .nil)))) .nil fun f g=>?_)
   obtain ⟨m,f,p⟩:=bind_some p
   refine c_call g (f52_ok fuel u m f z4 _ _ l q t B) ?_
   rintro g l t ⟨z5,o,q,z,rfl,f,A⟩ u
   refine ⟨fun _=>Sub.of z f,?_⟩
   have g:=Sub.of z f
   refine c_S 1 [] [1,2,4,19,20,27,28,29,33,37,41,44] g u (fun _ s=> .nil) .nil fun g l=>p_box (i:=9) (d:=(some 42)) (cs:=[sL o m q]) (T:=49) (v:=fun g=> .slice (some ⟨g,0,none⟩) 1 1) f l (fun b=>by kernel_rfl) fun g l t f u=>⟨fun _=>Sub.of z (St.drop 1 f),?_⟩
   have f:=f.ownBox (T:=(Ty.slice PartT)) (E:=49) (n:=1) (xs:=[m]) (i:=0) rfl (Rows.cons (c:=[sL o m q]) (sliceRep (A)) rfl) rfl (by decide)
   have l:=Sub.of z (St.drop 1 f)
   obtain ⟨o,l,p⟩:=bind_some p
   refine p_append (T:=(Ty.slice PartT)) (i:=10) (j:=1) (d:=some 43) (o2:=(some ⟨g,0,none⟩)) (c2:=1) (ys:=([m])) el26 f u rfl (by kernel_rfl) (f.ownSrc (j:=0) rfl) l fun f g q t m l=>⟨fun e=>absurd e (by decide),?_⟩
   refine p_qP 1 [] [(1,pB P 0),(2,pB b2 0),(4,vI y),(19, .agg #[V00,V01,V02,V03,V04,V05,V06,V07,V08]),(20,vI y),(27,sL e2 H q1),(28,vI (H.length:Int)),(29,vI O),(43,sL f o g),(45, .pointer (some ((⟨P,1,none⟩:Addr).add (Int.toNat y * 1))))] [.prop (0≤y∧y<(9:Nat))] l (by kernel_rfl) (fun _=>(.prop x .nil)) fun q l=>p_storeA (i:=13) (j:=7) (b:=P) (ix:=y) (pre:=[sL (some J) x0l K.length]) (vs:=[Q,R,S,U,V,W,X,Y,Z]) (post:=[]) (v:=sL f o g) m l rfl (by have z2:=x.1; have M:=x.2; simp at M ⊢; omega) (by kernel_rfl) rfl fun l q m H=>⟨fun e=>absurd e (by decide),?_⟩
   obtain ⟨q,t,u,A,B,C,D,F,G,l⟩:=nine (vs:=[Q,R,S,U,V,W,X,Y,Z].set (Int.toNat y) (sL f o g)) (by simp)
   rw [l] at m
   have f:[q,t,u,A,B,C,D,F,G][Int.toNat y]? =some (sL f o g):=by rw [← l]; exact List.getElem?_set_self (by have z2:=x.1; have M:=x.2; simp at M ⊢; omega)
   have f:=m
   refine c_done ?_
   have f:=f.ownCloseO (j:=4) (k:=1) rfl rfl (by decide) (getO_spec a0).1
   rw [l] at f
   refine n_block (n_then (c_q [] [1,2,4,19,20,27,28,29] H .nil fun l g=>(n_then (⟨n1,Nat.lt_succ_self n1,z5,(y2.set (Int.toNat y) (some o)),(w64 (O + (1:Int))),q,t,u,A,B,C,D,F,G,(zt k4 z),g.to,(St.drop 3 f),p⟩))))
  have p:=cond_f a1 a3
  refine c_exit 2 (x_then (x_then (x_block (n_block (n_then (c_q [] [1,2,19,20] a2 .nil fun g f=>(n_then (⟨n2,Nat.lt_succ_self n2,z4,y2,(w64 (y + (1:Int))),Q,R,S,U,V,W,X,Y,Z,(zt k3 k4),f.to,(St.drop 1 a4),p⟩))))))))
 have p:=cond_f a5 a7
 refine c_exit 0 (x_then (x_then (x_block (n_then (c_sr (c_n 1 [sL (some J) x0l K.length,v1,v2,v3,v4,v5,v6,v7,v8,v9] [2,48] a6 (.cell (I.bx 3 0 rfl rfl) (.cell (I.bx 3 1 rfl rfl) (.cell (I.bx 3 2 rfl rfl) (.cell (I.bx 3 3 rfl rfl) (.cell (I.bx 3 4 rfl rfl) (.cell (I.bx 3 5 rfl rfl) (.cell (I.bx 3 6 rfl rfl) (.cell (I.bx 3 7 rfl rfl) (.cell (I.bx 3 8 rfl rfl) (.cell (I.bx 3 9 rfl rfl) .nil)))))))))) fun f g=>?_))))))
 have f:=I.ownOnesO (j:=0) rfl
 refine p_store_eq (i:=1) (j:=2) (b:=b2) (off:=0) (vs:=[sL (some J) x0l K.length,v1,v2,v3,v4,v5,v6,v7,v8,v9]) (cs':=[sL (some J) x0l K.length,v1,v2,v3,v4,v5,v6,v7,v8,v9]) I g rfl (by kernel_rfl) f rfl fun g l f m=>tv (c_dt (c_ret ?_))
 obtain ⟨o,q,g,t⟩:=f.share (j:=1) rfl
 obtain ⟨l,f,p⟩:=bind_some p
 have f:=g.ownAll (j:=0) rfl f
 refine c_rt [sL (some J) x0l K.length,v1,v2,v3,v4,v5,v6,v7,v8,v9] (.agg #[sL (some J) x0l K.length,v1,v2,v3,v4,v5,v6,v7,v8,v9]) m (.cell (f.bx 2 0 rfl rfl) (.cell (f.bx 2 1 rfl rfl) (.cell (f.bx 2 2 rfl rfl) (.cell (f.bx 2 3 rfl rfl) (.cell (f.bx 2 4 rfl rfl) (.cell (f.bx 2 5 rfl rfl) (.cell (f.bx 2 6 rfl rfl) (.cell (f.bx 2 7 rfl rfl) (.cell (f.bx 2 8 rfl rfl) (.cell (f.bx 2 9 rfl rfl) .nil)))))))))) ?_
 obtain rfl:=some_eq p
 exact ⟨_,rfl,o,(some J),K.length,v1,v2,v3,v4,v5,v6,v7,v8,v9,(zt k3 q),rfl,(St.pick 4 [0] f (by kernel_rfl)),t⟩
def F50_l3 (k1:Pl→Int→Option (Pl)) (y1:Int) (y2:Pl) (y3:Int) (p1:List Part):Nat→(List (Int×Bool))→Int→Option (Pl)
  | 0,_,_=>none
  | n1 + 1,y4,y5 =>
    let k2:(List (Int×Bool))→Int→Option (Pl):=F50_l3 k1 y1 y2 y3 p1 n1
    (cond (decide (y5<(p1.length:Int))) ((getI p1 y5).bind fun p2=>(k2 (putK y4 p2.lot true) (w64 (y5 + (1:Int))))) ((getI y2.may y1).bind fun p3=>((appC p3 ([y4])).bind fun d1=>(k1 (⟨y2.lots,y2.holds,(y2.may.set (Int.toNat y1) d1)⟩:Pl) (w64 (y3 + (1:Int)))))))
def F50_l2 (fuel:Nat) (k3:Pl→Int→Option (Pl)) (y1:Int) (p4:List (List Part)):Nat→Pl→Int→Option (Pl)
  | 0,_,_=>none
  | n2 + 1,y2,y3 =>
    let k1:Pl→Int→Option (Pl):=F50_l2 fuel k3 y1 p4 n2
    (cond (decide (y3<(p4.length:Int))) ((getI p4 y3).bind fun p1=>(F50_l3 k1 y1 y2 y3 p1 fuel ([]) 0)) (k3 y2 (w64 (y1 + (1:Int)))))
def F50_l1 (fuel:Nat) (x0h:List (List (List Part))):Nat→Pl→Int→Option (Pl)
  | 0,_,_=>none
  | n3 + 1,y6,y1 =>
    let k3:Pl→Int→Option (Pl):=F50_l1 fuel x0h n3
    (cond (decide (y1<(9:Int))) ((getI x0h y1).bind fun p4=>(F50_l2 fuel k3 y1 p4 fuel y6 0)) (some (y6)))
def F50 (fuel:Nat) (x0l:List Lot) (x0h:List (List (List Part))):Option (Pl) :=
  ((F20 fuel x0l x0h).bind fun r1=>(F50_l1 fuel x0h fuel (⟨r1.1,r1.2,[[],[],[],[],[],[],[],[],[]]⟩:Pl) 0))
set_option maxRecDepth 100000 in
theorem f50_ok (fuel:Nat) (x0l:List Lot) (x0h:List (List (List Part))) (r:Pl) (hr:F50 fuel x0l x0h=some r) (h:Zone) (L:List Atom) (w:World) (hS:St h L w) (o_x0l:Option Addr) (c_x0l:Nat) (hx_x0l:SliceR LotT h o_x0l c_x0l x0l) (V00 V01 V02 V03 V04 V05 V06 V07 V08:Value) (hx_x0h:(Ty.arr 9 (Ty.slice (Ty.slice PartT))).rep h [V00,V01,V02,V03,V04,V05,V06,V07,V08] x0h) :
    Calls Tryz.prog 50 #[.agg #[.slice o_x0l x0l.length c_x0l,V00,V01,V02,V03,V04,V05,V06,V07,V08]] w fun e w'=>∃v,e= .returned v∧(∃h',∃b1:Nat,Zone.le h h'∧v=pB b1 0∧St h' (plA 69 49 101 b1 r::L) w'):=by
 refine calls_intro (N:=56) Tryz.func50 (by kernel_rfl) fun a hf=>c_sr (c_box [sL o_x0l x0l c_x0l,V00,V01,V02,V03,V04,V05,V06,V07,V08] 29 hS hf fun P o p f g=>tv (c_t [] [1] g .nil fun q l=>(c_sr (c_n 1 [sL o_x0l x0l c_x0l,V00,V01,V02,V03,V04,V05,V06,V07,V08] [1,11] l (.cell (f.bx 0 0 rfl rfl) (.cell (f.bx 0 1 rfl rfl) (.cell (f.bx 0 2 rfl rfl) (.cell (f.bx 0 3 rfl rfl) (.cell (f.bx 0 4 rfl rfl) (.cell (f.bx 0 5 rfl rfl) (.cell (f.bx 0 6 rfl rfl) (.cell (f.bx 0 7 rfl rfl) (.cell (f.bx 0 8 rfl rfl) (.cell (f.bx 0 9 rfl rfl) .nil)))))))))) fun x m=>?_))))
 obtain ⟨l,g,u⟩:=bind_some hr
 refine c_call m (f20_ok fuel x0l x0h l g h _ _ f o_x0l c_x0l hx_x0l V00 V01 V02 V03 V04 V05 V06 V07 V08 (Ty.mono _ zr hx_x0h)) ?_
 rintro g m o ⟨J,p,q,x,y,z,A,B,C,D,F,G,k4,rfl,H,I⟩ f
 refine tv (c_n 1 [] [1,13] f .nil fun g f=>c_box [sL p l.1 q,x,y,z,A,B,C,D,F,G,N0,N0,N0,N0,N0,N0,N0,N0,N0] 69 H f fun b3 m o g f=>tv (c_z [] [1,3] f .nil fun f m=>?_))
 have f:=g.ownNew (Ty.map Value.bool) 101 9
 have f:=f
 have f:=f.plClose (i:=1) (j:=2) (k:=0) rfl I rfl rfl (by decide) (by decide) (by decide)
 refine n_then (c_seq (c_sq [V00,V01,V02,V03,V04,V05,V06,V07,V08] [3,16,17] m (.cell (f.bx 3 1 rfl rfl) (.cell (f.bx 3 2 rfl rfl) (.cell (f.bx 3 3 rfl rfl) (.cell (f.bx 3 4 rfl rfl) (.cell (f.bx 3 5 rfl rfl) (.cell (f.bx 3 6 rfl rfl) (.cell (f.bx 3 7 rfl rfl) (.cell (f.bx 3 8 rfl rfl) (.cell (f.bx 3 9 rfl rfl) .nil))))))))) fun m g=>(c_block 0 (c_loop (fun n a w=>∃z2:Zone,∃o:Pl,∃I:Int,Zone.le J z2∧Fr a 56 [(3,pB b3 0),(16, .agg #[V00,V01,V02,V03,V04,V05,V06,V07,V08]),(17,vI I)]∧St z2 (emp::plA 69 49 101 b3 o::emp::box P [sL o_x0l x0l c_x0l,V00,V01,V02,V03,V04,V05,V06,V07,V08] 29::L) w∧(F50_l1 fuel x0h n o I)=some r) fuel ⟨J,(⟨l.1,l.2,[[],[],[],[],[],[],[],[],[]]⟩:Pl),0,zr,g.to,f,u⟩ ?_))))
 rintro f g l ⟨z2,o,I,k5,m,ab,aa⟩
 cases f with
 | zero=>cases aa
 | succ n3 =>
 refine c_sq [] [3,16,17,18] m .nil fun f a9=>c_seq (c_if (decide (I<(9:Int))) a9 (fun a8=>?_) (fun a8=>?_))
 ·have u:=cond_t a8 aa
  refine c_skip (n_then (c_seq (c_block 1 ?_)))
  obtain ⟨M,f,u⟩:=bind_some u
  obtain ⟨g,_,f,e2,q2,hehv87269,p⟩:=arrGet (Ty.mono _ (zt k4 k5) hx_x0h) rfl f
  obtain rfl:=List.head_eq_of_cons_eq hehv87269
  have f:=arrIdx f
  refine c_sq [sL e2 M q2] [3,4,5,16,17] a9 (.prop g (.prop f .nil)) fun g f=>c_sq [] [3,4,16,17,21,22,23] f .nil fun g f=>c_block 2 (c_loop (fun n a w=>∃z3:Zone,∃O:Pl,∃y3:Int,Zone.le z2 z3∧Fr a 56 [(3,pB b3 0),(4,vI I),(16, .agg #[V00,V01,V02,V03,V04,V05,V06,V07,V08]),(17,vI I),(21,sL e2 M q2),(22,vI (M.length:Int)),(23,vI y3)]∧St z3 (emp::plA 69 49 101 b3 O::emp::box P [sL o_x0l x0l c_x0l,V00,V01,V02,V03,V04,V05,V06,V07,V08] 29::L) w∧(F50_l2 fuel (F50_l1 fuel x0h n3) I M n O y3)=some r) fuel ⟨z2,o,0,zr,f.to,ab,u⟩ ?_)
  rintro f g l ⟨z3,O,y3,k6,m,a7,a6⟩
  cases f with
  | zero=>cases a6
  | succ n2 =>
  refine c_sq [] [3,4,16,17,21,22,23,24] m .nil fun f a5=>c_seq (c_if (decide (y3<(M.length:Int))) a5 (fun a4=>?_) (fun a4=>?_))
  ·have u:=cond_t a4 a6
   refine c_skip (n_then (c_seq (c_block 3 (c_sr ?_))))
   obtain ⟨q,f,u⟩:=bind_some u
   obtain ⟨m,o,p,g,f,x⟩:=SliceR.getI (SliceR.mono k6 p) f
   obtain ⟨g,l,rfl,F⟩:=f
   refine c_n 2 [.pointer (some m),sL g q l] [3,4,16,17,21,22,23,26] a5 (.prop o (.prop p (.cell (a7.cell (x 0 _ rfl)) .nil))) fun m f=>c_box [N0] 49 a7 f fun x o p f m=>tv (c_st 0 [sL g q l] f m rfl fun o p f m=>tv (c_dt (c_sr (p_makeMap (i:=0) (d:=(some 27)) Value.bool f m (fun b=>by kernel_rfl) fun G y z f m=>tv (c_t [] [3,4,7,8,16,17,21,22,23] m .nil fun A o=>(c_seq (c_sq [sL g q l] [3,4,8,16,17,21,22,23,29,30,31] o (.cell (f.bx 1 0 rfl rfl) .nil) fun B p=>(c_block 4 (c_loop (fun n a w=>∃D:Zone,∃H:List (Int×Bool),∃C:Int,Zone.le z3 D∧Fr a 56 [(3,pB b3 0),(4,vI I),(8, .map (some G)),(16, .agg #[V00,V01,V02,V03,V04,V05,V06,V07,V08]),(17,vI I),(21,sL e2 M q2),(22,vI (M.length:Int)),(23,vI y3),(29,sL g q l),(30,vI (q.length:Int)),(31,vI C)]∧St D (mapA Value.bool G H::box x [sL g q l] 49::emp::plA 69 49 101 b3 O::emp::box P [sL o_x0l x0l c_x0l,V00,V01,V02,V03,V04,V05,V06,V07,V08] 29::L) w∧(F50_l3 (F50_l2 fuel (F50_l1 fuel x0h n3) I M n2) I O y3 q n H C)=some r) fuel ⟨z3,[],0,zr,p.to,f,u⟩ ?_)))))))))
   rintro f g l ⟨D,H,C,k7,m,A,K⟩
   cases f with
   | zero=>cases K
   | succ B =>
   refine c_sq [] [3,4,8,16,17,21,22,23,29,30,31,32] m .nil fun f J=>c_seq (c_if (decide (C<(q.length:Int))) J (fun z=>?_) (fun z=>?_))
   ·have u:=cond_t z K
    refine c_skip (n_then (c_seq (c_block 5 (c_sr ?_))))
    obtain ⟨f,g,u⟩:=bind_some u
    obtain ⟨l,m,o,p,rfl,g⟩:=SliceR.getI (SliceR.mono k7 F) g
    refine c_n 2 [.pointer (some l),vI f.lot,vI f.mass] [3,4,8,16,17,21,22,23,29,30,31,34] J (.prop m (.prop o (.cell (A.cell (g 0 _ rfl)) (.cell (A.cell (g 1 _ rfl)) .nil)))) fun l g=>c_box [vI 0,vI 0] 53 A g fun m o p g l=>tv (c_st 0 [vI f.lot,vI f.mass] g l rfl fun m o g l=>tv (c_dt (c_reg (c_n 3 [vI f.lot] [3,4,8,16,17,21,22,23,29,30,31,35,37] l (.cell (g.bx 0 0 rfl rfl) .nil) fun p l=>(p_put (i:=3) (j:=1) (t:=101) (r:=G) (k:=f.lot) (v:=true) g l rfl (by kernel_rfl) mp101 fun q x m g=>tv (c_done (n_block (n_then (c_q [] [3,4,8,16,17,21,22,23,29,30,31] g .nil fun y o=>(n_then (⟨B,Nat.lt_succ_self B,D,(putK H f.lot true),(w64 (C + (1:Int))),k7,o.to,(St.drop 1 m),u⟩)))))))))))
   have u:=cond_f z K
   refine c_exit 4 (x_then (x_then (x_block (n_then ?_))))
   obtain ⟨q,x,y,z,A,B,C,D,P,Q,R,S,U,V,W,X,Y,Z,a0,a1,a3,f⟩:=A.plOpen (i:=3) rfl
   obtain ⟨p,a2,u⟩:=bind_some u
   obtain ⟨l,m,o,F,f⟩:=f.ownOpen (j:=1) rfl a2
   have g:=f.drew
   have f:=Sub.of zr (g.mask (i:=3) rfl)
   refine c_regD [(0,true),(1,true),(2,true),(3,true),(4,true),(5,true),(6,true),(7,true),(8,true),(11,true),(12,true),(9,false),(10,false),(13,true),(14,false)] [10,14] _ f (c_S 11 [sL l p m] [3,4,16,17,21,22,23,40,46,47,51] f J (fun _ s=>(.prop F (.cell ((arrAddr b3 10 (Int.toNat I)) ▸ (s.box (i:=6) rfl (getElem?_app_right [sL q O.lots x,y,z,A,B,C,D,P,Q,R] _ _ o []))) .nil))) .nil fun f l=>?_)
   obtain ⟨z5,J,f,m⟩:=g.mapShare (j:=3) rfl
   refine p_box (i:=9) (d:=(some 48)) (cs:=[.map (some G)]) (T:=101) (v:=fun g=> .slice (some ⟨g,0,none⟩) 1 1) f l (fun b=>by kernel_rfl) fun g l o f p=>⟨fun _=>Sub.of J ((St.drop 1 f).mask (i:=3) rfl),?_⟩
   have f:=f.ownBox (T:=(Ty.map Value.bool)) (E:=101) (n:=1) (xs:=[H]) (i:=0) rfl (Rows.cons (c:=[.map (some G)]) (mapRep m) rfl) rfl (by decide)
   have l:=Sub.of J ((St.drop 1 f).mask (i:=3) rfl)
   obtain ⟨G,l,u⟩:=bind_some u
   refine p_append (T:=(Ty.map Value.bool)) (i:=10) (j:=1) (d:=some 49) (o2:=(some ⟨g,0,none⟩)) (c2:=1) (ys:=([H])) el66 f p rfl (by kernel_rfl) (f.ownSrc (j:=0) rfl) l fun g l o p m f=>⟨fun e=>absurd e (by decide),?_⟩
   refine p_qP 1 [] [(3,pB b3 0),(4,vI I),(16, .agg #[V00,V01,V02,V03,V04,V05,V06,V07,V08]),(17,vI I),(21,sL e2 M q2),(22,vI (M.length:Int)),(23,vI y3),(49,sL g G l),(52, .pointer (some ((⟨b3,10,none⟩:Addr).add (Int.toNat I * 1))))] [.prop (0≤I∧I<(9:Nat))] f (by kernel_rfl) (fun _=>(.prop F .nil)) fun o f=>p_storeA (i:=14) (j:=7) (b:=b3) (ix:=I) (pre:=[sL q O.lots x,y,z,A,B,C,D,P,Q,R]) (vs:=[S,U,V,W,X,Y,Z,a0,a1]) (post:=[]) (v:=sL g G l) m f rfl (by have H:=F.1; have f:=F.2; simp at f ⊢; omega) (by kernel_rfl) rfl fun m p o M=>⟨fun e=>absurd e (by decide),?_⟩
   obtain ⟨p,q,x,y,z,A,B,C,D,m⟩:=nine (vs:=[S,U,V,W,X,Y,Z,a0,a1].set (Int.toNat I) (sL g G l)) (by simp)
   rw [m] at o
   have f:[p,q,x,y,z,A,B,C,D][Int.toNat I]? =some (sL g G l):=by rw [← m]; exact List.getElem?_set_self (by have H:=F.1; have f:=F.2; simp at f ⊢; omega)
   have f:=o
   refine c_done ?_
   have f:=f.ownClose (j:=3) (k:=1) rfl rfl (by decide) (List.getElem?_eq_some_iff.1 (getI_spec a2).2).1
   rw [m] at f
   have g:=f.plClose (i:=7) (j:=2) (k:=3) rfl (SliceR.mono J a3) rfl rfl (by decide) (by decide) (by decide)
   refine n_block (n_then (c_q [] [3,4,16,17,21,22,23] M .nil fun l f=>(n_then (⟨n2,Nat.lt_succ_self n2,z5,(⟨O.lots,O.holds,(O.may.set (Int.toNat I) G)⟩:Pl),(w64 (y3 + (1:Int))),(zt (zt k6 k7) J),f.to,(St.drop 6 g),u⟩))))
  have u:=cond_f a4 a6
  refine c_exit 2 (x_then (x_then (x_block (n_block (n_then (c_q [] [3,16,17] a5 .nil fun g f=>(n_then (⟨n3,Nat.lt_succ_self n3,z3,O,(w64 (I + (1:Int))),(zt k5 k6),f.to,a7,u⟩))))))))
 have u:=cond_f a8 aa
 refine c_exit 0 (x_then (x_then (x_block (n_then (c_sq [] [2] a9 .nil fun g f=>(c_ret (c_rt [] (pB b3 0) f .nil ?_)))))))
 obtain rfl:=some_eq u
 exact ⟨_,rfl,z2,b3,(zt k4 k5),rfl,(St.pick 4 [1] ab (by kernel_rfl))⟩
def F79 (fuel:Nat):Option (List (Int×DRow)) :=
  (some ((putK (putK (putK (putK (putK (putK ([]) 1 (⟨true,false,true,true,(some 94)⟩:DRow)) 2 (⟨true,false,true,true,(some 95)⟩:DRow)) 3 (⟨false,true,false,true,(some 96)⟩:DRow)) 4 (⟨false,true,true,true,(some 97)⟩:DRow)) 5 (⟨false,true,false,true,(some 98)⟩:DRow)) 6 (⟨false,true,false,false,(some 99)⟩:DRow))))
set_option maxRecDepth 100000 in
theorem f79_ok (fuel:Nat)  (r:List (Int×DRow)) (hr:F79 fuel=some r) (h:Zone) (L:List Atom) (w:World) (hS:St h L w)  :
    Calls Tryz.prog 79 #[] w fun e w'=>∃v,e= .returned v∧(∃h',∃o0:Option Nat,Zone.le h h'∧v= .map o0∧St h' L w'∧MapR rowV h' o0 r):=by
 refine calls_intro (N:=15) Tryz.func79 (by kernel_rfl) fun a hf=>c_sq [] [] hf .nil fun f c=>c_sr (p_makeMap (i:=0) (d:=(some 1)) rowV hS c (fun b=>by kernel_rfl) fun c I J f g=>tv (c_n 2 [] [1,3] g .nil fun K l=>(p_put (i:=3) (j:=0) (t:=142) (r:=c) (k:=1) (v:=(⟨true,false,true,true,(some 94)⟩:DRow)) f l rfl (by kernel_rfl) mp142 fun M O m n=>tv (c_n 2 [] [1,5] n .nil fun P o=>(p_put (i:=6) (j:=0) (t:=142) (r:=c) (k:=2) (v:=(⟨true,false,true,true,(some 95)⟩:DRow)) m o rfl (by kernel_rfl) mp142 fun Q R p q=>tv (c_n 2 [] [1,7] q .nil fun S s=>(p_put (i:=9) (j:=0) (t:=142) (r:=c) (k:=3) (v:=(⟨false,true,false,true,(some 96)⟩:DRow)) p s rfl (by kernel_rfl) mp142 fun T U u x=>tv (c_n 2 [] [1,9] x .nil fun V y=>(p_put (i:=12) (j:=0) (t:=142) (r:=c) (k:=4) (v:=(⟨false,true,true,true,(some 97)⟩:DRow)) u y rfl (by kernel_rfl) mp142 fun W X z A=>tv (c_n 2 [] [1,11] A .nil fun Y B=>(p_put (i:=15) (j:=0) (t:=142) (r:=c) (k:=5) (v:=(⟨false,true,false,true,(some 98)⟩:DRow)) z B rfl (by kernel_rfl) mp142 fun Z a0 C D=>tv (c_n 2 [] [1,13] D .nil fun a1 E=>(p_put (i:=18) (j:=0) (t:=142) (r:=c) (k:=6) (v:=(⟨false,true,false,false,(some 99)⟩:DRow)) C E rfl (by kernel_rfl) mp142 fun a2 a3 G F=>tv (c_t [] [0] F .nil fun a4 H=>(c_ret ?_)))))))))))))))
 obtain ⟨f,g,l,m⟩:=G.mapShare (j:=0) rfl
 refine c_rt [] (.map (some c)) H .nil ?_
 obtain rfl:=some_eq hr
 exact ⟨_,rfl,f,(some c),g,rfl,(St.drop 1 l),m⟩
end Go.Proofs.YtlmgjjmighajdaaGreat
