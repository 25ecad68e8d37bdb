/-
  A part of the walk and of the plain law of one given statement. No condition.
-/
import Derived.WalkKit
import Derived.Maps.AppendAt
import Derived.OrdersHeld
import Derived.OrdersIn
import Derived.RangeFuncLeaves
import Derived.RangeFuncRecord
import Derived.Laws.OwnMore
import Derived.Laws.MakeOwn
import Derived.Maps.RangeRun
namespace Go.Sl
abbrev Hp:=Nat→Option Obj
def Hp.nil:Hp:=fun _=>none
def Hp.one (b:Nat) (o:Obj):Hp:=fun k=>if k=b then some o else none
def Hp.add (x y:Hp):Hp:=fun k=>match x k with | some o=>some o | none=>y k
def Hp.le (x y:Hp):Prop:=∀b o,x b=some o→y b=some o
def Hp.apart (x y:Hp):Prop:=∀b,x b=none∨y b=none
theorem Hp.le_refl (x:Hp):x.le x:=fun _ _ h=>h
theorem Hp.le_trans {x y z:Hp} (h:x.le y) (k:y.le z):x.le z:=fun b o e=>k b o (h b o e)
theorem Hp.nil_le (x:Hp):Hp.nil.le x:=fun _ _ h=>by simp [Hp.nil] at h
theorem Hp.le_add_left (x y:Hp):x.le (x.add y):=fun b o h=>by simp [Hp.add,h]
theorem Hp.le_add_right {x y:Hp} (d:x.apart y):y.le (x.add y):=fun b o h=>by
  rcases d b with e | e
  · simp [Hp.add,e,h]
  · rw [h] at e; cases e
theorem Hp.add_le {x y z:Hp} (h:x.le z) (k:y.le z):(x.add y).le z:=fun b o e=>by
  unfold Hp.add at e
  cases hx:x b with
  | some u=>rw [hx] at e; simp only [Option.some.injEq] at e; subst e; exact h _ _ hx
  | none=>rw [hx] at e; exact k _ _ e
theorem Hp.apart_comm {x y:Hp} (h:x.apart y):y.apart x:=fun b=>(h b).symm
theorem Hp.apart_nil (x:Hp):x.apart Hp.nil:=fun _=> .inr rfl
theorem Hp.apart_add {x y z:Hp}:x.apart (y.add z)↔x.apart y∧x.apart z:=by
  constructor
  · intro h
    refine ⟨fun b=>?_,fun b=>?_⟩
    · rcases h b with e | e
      · exact .inl e
      · right; unfold Hp.add at e; cases hy:y b with
        | none=>rfl
        | some o=>rw [hy] at e; cases e
    · rcases h b with e | e
      · exact .inl e
      · right; unfold Hp.add at e; cases hy:y b with
        | none=>rw [hy] at e; exact e
        | some o=>rw [hy] at e; cases e
  · rintro ⟨h,k⟩ b
    rcases h b with e | e
    · exact .inl e
    · rcases k b with e' | e'
      · exact .inl e'
      · right; simp [Hp.add,e,e']
theorem Hp.add_apart {x y z:Hp}:(x.add y).apart z↔x.apart z∧y.apart z :=
  ⟨fun h=>let ⟨a,b⟩:=Hp.apart_add.1 (Hp.apart_comm h); ⟨Hp.apart_comm a,Hp.apart_comm b⟩,fun ⟨a,b⟩=>Hp.apart_comm (Hp.apart_add.2 ⟨Hp.apart_comm a,Hp.apart_comm b⟩)⟩
theorem Hp.add_comm {x y:Hp} (d:x.apart y):x.add y=y.add x:=by
  funext b
  unfold Hp.add
  rcases d b with e | e
  · rw [e]; cases y b <;> rfl
  · rw [e]; cases x b <;> rfl
theorem Hp.add_assoc (x y z:Hp):(x.add y).add z=x.add (y.add z):=by
  funext b
  unfold Hp.add
  cases x b <;> rfl
theorem Hp.nil_add (x:Hp):Hp.nil.add x=x:=rfl
theorem Hp.add_nil (x:Hp):x.add Hp.nil=x:=by funext b; unfold Hp.add Hp.nil; cases x b <;> rfl
theorem Hp.one_at (b:Nat) (o:Obj):Hp.one b o b=some o:=by simp [Hp.one]
theorem Hp.one_le {b:Nat} {o:Obj} {z:Hp}:(Hp.one b o).le z↔z b=some o :=
  ⟨fun h=>h b o (Hp.one_at b o),fun h k u e=>by unfold Hp.one at e; split at e <;> simp_all⟩
theorem Hp.one_apart {b:Nat} {o:Obj} {z:Hp}:(Hp.one b o).apart z↔z b=none :=
  ⟨fun h=>(h b).resolve_left (by simp [Hp.one]),fun h k=>by
    by_cases e:k=b
    · subst e; exact .inr h
    · left; simp [Hp.one,e]⟩
structure Zone where
  blk:Hp
  os:Os
  tape:Nat→Question→Nat
  output:Array (Nat×ByteArray)
structure Zone.le (h h':Zone):Prop where
  blk:h.blk.le h'.blk
  os:h'.os=h.os
  tape:h'.tape=h.tape
  output:h'.output=h.output
theorem Zone.le_refl (h:Zone):h.le h:=⟨Hp.le_refl _,rfl,rfl,rfl⟩
theorem Zone.le_trans {a b c:Zone} (h:a.le b) (k:b.le c):a.le c :=
  ⟨Hp.le_trans h.blk k.blk,k.os.trans h.os,k.tape.trans h.tape,k.output.trans h.output⟩
def Zone.cell? (h:Zone) (a:Addr):Option Value :=
  match h.blk a.block with
  | some (.cells c _ _)=>if a.spot.isSome then none else c[a.off]?
  | _=>none
theorem Zone.le.cell {h h':Zone} (k:h.le h') {a:Addr} {v:Value} (e:h.cell? a=some v):h'.cell? a=some v:=by
  unfold Zone.cell? at *
  cases hb:h.blk a.block with
  | none=>rw [hb] at e; cases e
  | some o=>rw [hb] at e; rw [k.blk _ _ hb]; exact e
structure Atom where
  P:Zone→Hp→Prop
  mono:∀h h' z,h.le h'→P h z→P h' z
def emp:Atom:=⟨fun _ z=>z=Hp.nil,fun _ _ _ _ h=>h⟩
instance:Inhabited Atom:=⟨emp⟩
def Sep (h:Zone):List Atom→Hp→Prop
  | [],z=>z=Hp.nil
  | A::L,z=>∃x y,A.P h x∧Sep h L y∧x.apart y∧z=x.add y
theorem Sep.mono {h h':Zone} (k:h.le h'):∀ {L:List Atom} {z:Hp},Sep h L z→Sep h' L z
  | [],_,e=>e
  | A::_,_,⟨x,y,hx,hy,d,e⟩=>⟨x,y,A.mono _ _ _ k hx,Sep.mono k hy,d,e⟩
theorem Sep.focus {h:Zone}:∀ {L:List Atom} {z:Hp} {i:Nat} {A:Atom},Sep h L z→L[i]? =some A →
    ∃x y,A.P h x∧x.apart y∧z=x.add y∧∀(h':Zone) (B:Atom) (x':Hp),h.le h'→B.P h' x'→x'.apart y→Sep h' (L.set i B) (x'.add y)
  | A::L,z,0,A',⟨x,y,hx,hy,d,e⟩,hi=>by
    simp only [List.getElem?_cons_zero,Option.some.injEq] at hi
    subst hi
    exact ⟨x,y,hx,d,e,fun h' B x' k hB d'=>⟨x',y,hB,hy.mono k,d',rfl⟩⟩
  | A::L,z,i + 1,A',⟨x,y,hx,hy,d,e⟩,hi=>by
    simp only [List.getElem?_cons_succ] at hi
    obtain ⟨u,v,hu,duv,ey,hset⟩:=Sep.focus hy hi
    subst ey
    have ⟨d1,d2⟩:=Hp.apart_add.1 d
    refine ⟨u,x.add v,hu,Hp.apart_add.2 ⟨Hp.apart_comm d1,duv⟩,?_,fun h' B x' k hB d'=>?_⟩
    · rw [e, ← Hp.add_assoc,Hp.add_comm d1,Hp.add_assoc]
    · have ⟨d3,d4⟩:=Hp.apart_add.1 d'
      refine ⟨x,x'.add v,A.mono _ _ _ k hx,hset h' B x' k hB d4,Hp.apart_add.2 ⟨Hp.apart_comm d3,d2⟩,?_⟩
      rw [← Hp.add_assoc,Hp.add_comm d3,Hp.add_assoc]
theorem Sep.append {h:Zone}:∀ {L M:List Atom} {z:Hp},Sep h (L ++ M) z↔∃x y,Sep h L x∧Sep h M y∧x.apart y∧z=x.add y
  | [],M,z=>⟨fun h=>⟨Hp.nil,z,rfl,h,Hp.apart_comm (Hp.apart_nil _),rfl⟩,fun ⟨x,y,hx,hy,_,e⟩=>by
      simp only [Sep] at hx; subst hx; rw [e,Hp.nil_add]; exact hy⟩
  | A::L,M,z=>by
    constructor
    · rintro ⟨x,y,hx,hy,d,e⟩
      obtain ⟨u,v,hu,hv,duv,ey⟩:=(Sep.append (L:=L)).1 hy
      subst ey
      have ⟨d1,d2⟩:=Hp.apart_add.1 d
      exact ⟨x.add u,v,⟨x,u,hx,hu,d1,rfl⟩,hv,Hp.add_apart.2 ⟨d2,duv⟩,by rw [e,Hp.add_assoc]⟩
    · rintro ⟨_,v,⟨x,u,hx,hu,d1,rfl⟩,hv,d,e⟩
      have ⟨d2,d3⟩:=Hp.add_apart.1 d
      exact ⟨x,u.add v,hx,(Sep.append (L:=L)).2 ⟨u,v,hu,hv,d3,rfl⟩,Hp.apart_add.2 ⟨d1,d2⟩,by rw [e,Hp.add_assoc]⟩
structure St (h:Zone) (L:List Atom) (w:World):Prop where
  sep:∃z,Sep h L z∧h.blk.apart z∧h.blk.le (fun b=>w.heap[b]?)∧z.le (fun b=>w.heap[b]?)
  os:w.os=h.os
  tape:w.tape=h.tape
  output:w.output=h.output
variable {h : Zone} {L : List Atom} {w : World}
theorem World.cell_eq (w:World) (a:Addr):w.cell? a=(match w.heap[a.block]? with | some (.cells c _ _)=>if a.spot.isSome then none else c[a.off]? | _=>none):=rfl
theorem St.cell (s:St h L w) {a:Addr} {v:Value} (e:h.cell? a=some v):w.cell? a=some v:=by
  obtain ⟨z,_,_,hb,_⟩:=s.sep
  unfold Zone.cell? at e
  rw [World.cell_eq]
  cases hbl:h.blk a.block with
  | none=>rw [hbl] at e; cases e
  | some o=>rw [hbl] at e; have h1:w.heap[a.block]? =some o:=hb _ _ hbl; rw [h1]; exact e
theorem St.focus (s:St h L w) {i:Nat} {A:Atom} (hi:L[i]? =some A) :
    ∃x,A.P h x∧x.le (fun b=>w.heap[b]?)∧h.blk.apart x ∧
      ∀(w':World) (B:Atom) (x':Hp),B.P h x'→x'.le (fun b=>w'.heap[b]?)→(∀b,b<w.heap.size→x b=none→w'.heap[b]? =w.heap[b]?) →
        (∀b o,x' b=some o→w.heap.size≤b∨(x b).isSome)→w'.os=w.os→w'.tape=w.tape→w'.output=w.output→St h (L.set i B) w':=by
  obtain ⟨z,hz,hd,hb,hzw⟩:=s.sep
  obtain ⟨x,y,hx,dxy,e,hset⟩:=hz.focus hi
  subst e
  have ⟨d1,d2⟩:=Hp.apart_add.1 hd
  refine ⟨x,hx,Hp.le_trans (Hp.le_add_left _ _) hzw,d1,fun w' B x' hB hx' hsame hnew e1 e2 e3=>?_⟩
  have hy:y.le (fun b=>w.heap[b]?):=Hp.le_trans (Hp.le_add_right dxy) hzw
  have old:∀ {u:Hp},u.apart x→u.le (fun b=>w.heap[b]?)→u.le (fun b=>w'.heap[b]?):=fun {u} du hu b o hub=>by
    have h1:=hu b o hub
    have hlt:b<w.heap.size:=(Array.getElem?_eq_some_iff.1 h1).1
    rcases du b with e | e
    · rw [e] at hub; cases hub
    · exact (hsame b hlt e).trans h1
  have away:∀ {u:Hp},u.apart x→u.le (fun b=>w.heap[b]?)→u.apart x':=fun {u} du hu b=>by
    cases hub:u b with
    | none=>exact .inl rfl
    | some o =>
      right
      cases hxb:x' b with
      | none=>rfl
      | some o' =>
        rcases hnew b o' hxb with hge | hsome
        · have h1:=hu b o hub
          have hlt:b<w.heap.size:=(Array.getElem?_eq_some_iff.1 h1).1
          omega
        · rcases du b with e | e
          · rw [e] at hub; cases hub
          · rw [e] at hsome; cases hsome
  have dx'y:x'.apart y:=Hp.apart_comm (away (Hp.apart_comm dxy) hy)
  have dh:h.blk.apart x':=away d1 hb
  exact ⟨⟨x'.add y,hset h B x' (Zone.le_refl h) hB dx'y,Hp.apart_add.2 ⟨dh,d2⟩,old d1 hb,Hp.add_le hx' (old (Hp.apart_comm dxy) hy)⟩,
    e1.trans s.os,e2.trans s.tape,e3.trans s.output⟩
theorem St.of_heap (s:St h L w) {w':World} (e0:w'.heap=w.heap) (e1:w'.os=w.os) (e2:w'.tape=w.tape) (e3:w'.output=w.output):St h L w':=by
  obtain ⟨z,hz,hd,hb,hzw⟩:=s.sep
  exact ⟨⟨z,hz,hd,by rw [e0]; exact hb,by rw [e0]; exact hzw⟩,e1.trans s.os,e2.trans s.tape,e3.trans s.output⟩
theorem St.drew (s:St h L w):St h L w.drew:=s.of_heap rfl rfl rfl rfl
theorem St.new (s:St h L w) (A:Atom) (o:Obj) (hA:A.P h (Hp.one w.heap.size o)):St h (A::L) (w.alloc o):=by
  obtain ⟨z,hz,hd,hb,hzw⟩:=s.sep
  have old:∀ {u:Hp},u.le (fun b=>w.heap[b]?)→u.le (fun b=>(w.alloc o).heap[b]?)∧u w.heap.size=none:=fun {u} hu=>by
    refine ⟨fun b v hub=>?_,?_⟩
    · have h1:=hu b v hub
      have hlt:b<w.heap.size:=(Array.getElem?_eq_some_iff.1 h1).1
      exact (Go.RowKit.Below.heap_alloc w o b hlt).trans h1
    · cases hub:u w.heap.size with
      | none=>rfl
      | some v=>have h1:=hu _ v hub; simp at h1
  have hz':=old hzw
  have hb':=old hb
  have dn:(Hp.one w.heap.size o).apart z:=Hp.one_apart.2 hz'.2
  refine ⟨⟨(Hp.one w.heap.size o).add z,⟨_,z,hA,hz,dn,rfl⟩,Hp.apart_add.2 ⟨Hp.apart_comm (Hp.one_apart.2 hb'.2),hd⟩,hb'.1,Hp.add_le (Hp.one_le.2 (heap_alloc_new w o)) hz'.1⟩,s.os,s.tape,s.output⟩
theorem St.dropAt (s:St h L w) {i:Nat} {A:Atom} (hi:L[i]? =some A):St h (L.set i emp) w:=by
  obtain ⟨x,hx,hxw,dx,k⟩:=s.focus hi
  exact k w emp Hp.nil rfl (Hp.nil_le _) (fun _ _ _=>rfl) (fun b o e=>by simp [Hp.nil] at e) rfl rfl rfl
theorem Sep.tail {A:Atom} {z:Hp} (hz:Sep h (A::L) z):∃y,Sep h L y∧y.le z:=by
  obtain ⟨x,y,_,hy,d,e⟩:=hz
  exact ⟨y,hy,e ▸ Hp.le_add_right d⟩
theorem Hp.apart_of_le {x y z:Hp} (d:x.apart z) (k:y.le z):x.apart y:=fun b=>by
  rcases d b with e | e
  · exact .inl e
  · right
    cases hy:y b with
    | none=>rfl
    | some o=>have h1:=k _ _ hy; rw [e] at h1; cases h1
theorem St.tail {A:Atom} (s:St h (A::L) w):St h L w:=by
  obtain ⟨z,hz,hd,hb,hzw⟩:=s.sep
  obtain ⟨y,hy,hle⟩:=hz.tail
  exact ⟨⟨y,hy,Hp.apart_of_le hd hle,hb,Hp.le_trans hle hzw⟩,s.os,s.tape,s.output⟩
theorem St.drop:∀(n:Nat) {L:List Atom},St h L w→St h (L.drop n) w
  | 0,_,s=>by simpa using s
  | _ + 1,[],s=>by simpa using s
  | n + 1,_::_,s=>by simpa using St.drop n s.tail
theorem St.freeze (s:St h L w) {i:Nat} {A:Atom} (hi:L[i]? =some A) :
    ∃h' x,h.le h'∧A.P h' x∧x.le h'.blk∧St h' (L.set i emp) w:=by
  obtain ⟨z,hz,hd,hb,hzw⟩:=s.sep
  obtain ⟨x,y,hx,dxy,e,hset⟩:=hz.focus hi
  subst e
  have ⟨d1,d2⟩:=Hp.apart_add.1 hd
  have hx':x.le (fun b=>w.heap[b]?):=Hp.le_trans (Hp.le_add_left _ _) hzw
  have hy':y.le (fun b=>w.heap[b]?):=Hp.le_trans (Hp.le_add_right dxy) hzw
  let h':Zone:=⟨h.blk.add x,h.os,h.tape,h.output⟩
  have hle:h.le h':=⟨Hp.le_add_left _ _,rfl,rfl,rfl⟩
  refine ⟨h',x,hle,A.mono _ _ _ hle hx,Hp.le_add_right d1,⟨⟨y,?_,?_,Hp.add_le hb hx',hy'⟩,s.os,s.tape,s.output⟩⟩
  · have:=hset h' emp Hp.nil hle rfl (Hp.apart_comm (Hp.apart_nil _))
    rwa [Hp.nil_add] at this
  · exact Hp.add_apart.2 ⟨d2,dxy⟩
def Zone.all (w:World):Zone:=⟨fun b=>w.heap[b]?,w.os,w.tape,w.output⟩
theorem St.all (w:World):St (Zone.all w) [] w:=⟨⟨Hp.nil,rfl,Hp.apart_nil _,Hp.le_refl _,Hp.nil_le _⟩,rfl,rfl,rfl⟩
open Go.RowKit in
theorem St.below {w0:World} {h':Zone} (k:(Zone.all w0).le h') (s:St h' L w) (hsz:w0.heap.size≤w.heap.size):Below w0.heap.size w0 w:=by
  obtain ⟨z,hz,hd,hb,hzw⟩:=s.sep
  refine ⟨s.os.trans k.os,s.tape.trans k.tape,s.output.trans k.output,hsz,fun b hlt=>?_⟩
  have h1:w0.heap[b]? =some w0.heap[b]:=Array.getElem?_eq_getElem hlt
  rw [h1]
  exact hb _ _ (k.blk _ _ h1)
theorem St.size {w0:World} {h':Zone} (k:(Zone.all w0).le h') (s:St h' L w):w0.heap.size≤w.heap.size:=by
  obtain ⟨z,hz,hd,hb,hzw⟩:=s.sep
  rcases Nat.eq_zero_or_pos w0.heap.size with e | e
  · omega
  · have hlt:w0.heap.size - 1<w0.heap.size:=by omega
    have h1:w0.heap[w0.heap.size - 1]? =some w0.heap[w0.heap.size - 1]:=Array.getElem?_eq_getElem hlt
    have h2:=hb _ _ (k.blk _ _ h1)
    have h3:w0.heap.size - 1<w.heap.size:=(Array.getElem?_eq_some_iff.1 h2).1
    omega
end Go.Sl
set_option linter.unusedVariables false
namespace Go.Sx
open Go.Sl
def runO {α:Type} (P:Program):Sem α→List Value→Option (α×List (Addr×Value)×List Value)
  | .pure a,os=>some (a,[],os)
  | .load _ a k,os=>match os with
    | []=>none
    | v::os=>match runO P (k v) os with
      | some (x,rs,os')=>some (x,(a,v)::rs,os')
      | none=>none
  | .program k,os=>runO P (k P) os
  | .mark _ k,os=>runO P k os
  | _,_=>none
theorem runO_sound {α:Type} {P:Program} {w:World}:∀(s:Sem α) {os:List Value} {x:α} {rs:List (Addr×Value)} {os':List Value},
    runO P s os=some (x,rs,os')→(∀p∈rs,w.cell? p.1=some p.2)→s.run P w= .ok x w:=by
  intro s
  induction s with
  | pure a=>intro os x rs os' h _; simp only [runO,Option.some.injEq,Prod.mk.injEq] at h; rw [h.1.symm]; rfl
  | load m a k ih =>
    intro os x rs os' h hr
    cases os with
    | nil=>simp [runO] at h
    | cons v os =>
      simp only [runO] at h
      cases hk:runO P (k v) os with
      | none=>rw [hk] at h; simp at h
      | some t =>
        obtain ⟨x',rs',os''⟩:=t
        rw [hk] at h
        simp only [Option.some.injEq,Prod.mk.injEq] at h
        obtain ⟨rfl,rfl,rfl⟩:=h
        have h1:w.cell? a=some v:=hr (a,v) (by simp)
        show Sem.run P (.load m a k) w=_
        simp only [Sem.run,h1]
        exact ih v hk fun p hp=>hr p (by simp [hp])
  | program k ih=>intro os x rs os' h hr; exact ih P h hr
  | mark m k ih=>intro os x rs os' h hr; exact ih h hr
  | _=>intro os x rs os' h; simp [runO] at h
abbrev FL:=List (Nat×Value)
def look:FL→Nat→Option Value
  | [],_=>none
  | (k,v)::r,n=>bif Nat.beq k n then some v else look r n
def ev (fl:FL):Operand→Value
  | .tmp t=>(look fl t).getD undef
  | .const v=>v
  | .global g=> .pointer (some ⟨g,0,none⟩)
  | .func f=> .func (.func f) #[] #[]
def putF (fl:FL):Option Nat→Value→FL
  | none,_=>fl
  | some d,v=>(d,v)::fl
def keepF (fl:FL):List Nat→Option FL
  | []=>some []
  | k::ks=>match look fl k,keepF fl ks with
    | some v,some r=>some ((k,v)::r)
    | _,_=>none
def marks (ds:List Nat):List Deferred:=ds.map fun D=>{ target:= .collected D,args:= #[] }
structure Fr (a:Act) (N:Nat) (fl:FL) (ds:List Nat:=[]):Prop where
  size:a.tmps.size=N
  defers:a.defers=marks ds
  look:∀t v,look fl t=some v→a.tmps[t]? =some v
variable {a : Act} {N : Nat} {fl : FL} {ds : List Nat}
theorem Fr.getD (hf:Fr a N fl ds) {t:Nat} {v:Value} (h:Sx.look fl t=some v):a.tmps.getD t undef=v:=by
  have:=hf.look t v h
  rw [Array.getD_eq_getD_getElem?,this]
  rfl
theorem look_keep {fl:FL}:∀ {ks:List Nat} {r:FL},keepF fl ks=some r→∀t v,look r t=some v→look fl t=some v
  | [],r,h,t,v,hl=>by simp only [keepF,Option.some.injEq] at h; subst h; simp [look] at hl
  | k::ks,r,h,t,v,hl=>by
    simp only [keepF] at h
    cases h1:look fl k with
    | none=>rw [h1] at h; simp at h
    | some u =>
      cases h2:keepF fl ks with
      | none=>rw [h1,h2] at h; simp at h
      | some r' =>
        rw [h1,h2] at h
        simp only [Option.some.injEq] at h
        subst h
        simp only [look] at hl
        cases hb:Nat.beq k t with
        | true=>rw [hb] at hl; simp only [cond_true,Option.some.injEq] at hl; have:=Nat.eq_of_beq_eq_true hb; subst this; rw [h1,hl]
        | false=>rw [hb] at hl; exact look_keep h2 t v hl
theorem Fr.keep (hf:Fr a N fl ds) {ks:List Nat} {r:FL} (h:keepF fl ks=some r):Fr a N r ds :=
  ⟨hf.size,hf.defers,fun t v hl=>hf.look t v (look_keep h t v hl)⟩
theorem Fr.put (hf:Fr a N fl ds) {d:Option Nat} (hd:(match d with | some d=>Nat.blt d N | none=>true)=true) (v:Value):Fr (a.put d v) N (putF fl d v) ds:=by
  cases d with
  | none=>exact hf
  | some d =>
    have hlt:d<N:=by simpa [Nat.blt_eq] using hd
    refine ⟨by simp [Act.put,hf.size],by simp [Act.put,hf.defers],fun t u hl=>?_⟩
    simp only [putF,Sx.look] at hl
    simp only [Act.put]
    cases hb:Nat.beq d t with
    | true =>
      rw [hb] at hl
      have:=Nat.eq_of_beq_eq_true hb
      subst this
      simp only [cond_true,Option.some.injEq] at hl
      subst hl
      simp [hf.size,hlt]
    | false =>
      rw [hb] at hl
      have hne:d≠t:=Nat.ne_of_beq_eq_false hb
      rw [Array.getElem?_setIfInBounds_ne hne]
      exact hf.look t u hl
def knownX (fl:FL):Operand→Bool
  | .tmp t=>(look fl t).isSome
  | _=>true
def known (fl:FL) (o:Oper):Bool:=o.op.operands.toList.all (knownX fl) && (match o.op with | .select .. =>false | _=>true)
theorem Fr.eval (hf:Fr a N fl ds) {x:Operand} (h:knownX fl x=true):a.eval x=ev fl x:=by
  cases x with
  | tmp t =>
    simp only [knownX] at h
    cases hl:Sx.look fl t with
    | none=>rw [hl] at h; cases h
    | some v=>simp only [Act.eval,ev,hl,Option.getD_some]; exact hf.getD hl
  | _=>rfl
theorem known_noSelect {o:Oper} (h:known fl o=true):∀cs b,o.op≠ .select cs b:=by
  intro cs b e
  simp [known,e] at h
theorem Fr.exec (hf:Fr a N fl ds) {o:Oper} (h:known fl o=true):execOp a.eval o=execOp (ev fl) o:=by
  refine execOp_congr o (known_noSelect h) fun x hx=>hf.eval ?_
  simp only [known,Bool.and_eq_true,List.all_eq_true] at h
  exact h.1 x (by simpa using hx)
def wantedF (ops:Array Oper) (fl:FL) (o:Oper):Option Bool :=
  match o.guard with
  | none=>some true
  | some (j,b)=>match (ops[j]?).bind (·.dst) with
    | none=>none
    | some d=>match look fl d with
      | none=>none
      | some (.bool c)=>some (some c == some b)
      | some _=>some false
theorem wantedF_sound (hf:Fr a N fl ds) {ops:Array Oper} {o:Oper} {b:Bool} (h:wantedF ops fl o=some b):Region.wanted o (yielded ops a.tmps)=b:=by
  unfold wantedF at h
  unfold Region.wanted
  cases hg:o.guard with
  | none=>rw [hg] at h; simpa using h
  | some g =>
    obtain ⟨j,c⟩:=g
    rw [hg] at h
    simp only at h ⊢
    unfold yielded
    cases hd:(ops[j]?).bind (·.dst) with
    | none=>rw [hd] at h; simp at h
    | some d =>
      rw [hd] at h
      simp only at h
      cases hl:Sx.look fl d with
      | none=>rw [hl] at h; simp at h
      | some v =>
        rw [hl] at h
        have:=hf.look d v hl
        simp only [Option.bind_some,this]
        cases v <;> simp_all
inductive Obl where
  | cell (a:Addr) (v:Value)
  | prop (p:Prop)
inductive HA (w:World):List Obl→Prop
  | nil:HA w []
  | cell {a:Addr} {v:Value} {l:List Obl}:w.cell? a=some v→HA w l→HA w (.cell a v::l)
  | prop {p:Prop} {l:List Obl}:p→HA w l→HA w (.prop p::l)
theorem HA.left {w:World}:∀ {l m:List Obl},HA w (l ++ m)→HA w l
  | [],_,_=> .nil
  | .cell _ _::_,_,h=>by cases h with | cell e h=>exact .cell e (HA.left h)
  | .prop _::_,_,h=>by cases h with | prop e h=>exact .prop e (HA.left h)
theorem HA.right {w:World}:∀ {l m:List Obl},HA w (l ++ m)→HA w m
  | [],_,h=>h
  | .cell _ _::_,_,h=>by cases h with | cell _ h=>exact HA.right h
  | .prop _::_,_,h=>by cases h with | prop _ h=>exact HA.right h
theorem HA.app {w:World}:∀ {l m:List Obl},HA w l→HA w m→HA w (l ++ m)
  | [],_,_,k=>k
  | .cell _ _::_,_,h,k=>by cases h with | cell e h=>exact .cell e (HA.app h k)
  | .prop _::_,_,h,k=>by cases h with | prop e h=>exact .prop e (HA.app h k)
def cellsObl:List (Addr×Value)→List Obl
  | []=>[]
  | (a,v)::l=> .cell a v::cellsObl l
theorem cellsObl_sound {w:World}:∀ {rs:List (Addr×Value)},HA w (cellsObl rs)→∀p∈rs,w.cell? p.1=some p.2
  | [],_,p,hp=>by cases hp
  | (a,v)::l,h,p,hp=>by
    simp only [cellsObl] at h
    cases h with
    | cell e h =>
      cases hp with
      | head=>exact e
      | tail _ hp=>exact cellsObl_sound h p hp
def eqFl (P:Program) (xs ys:Array Value):List Field→Option Bool
  | []=>some true
  | f::fs=>if f.name≠ "_" then
      match P.underlying f.type,xs[f.offset]?,ys[f.offset]?,eqFl P xs ys fs with
      | some (.int .i64),some (.int .i64 a),some (.int .i64 b),some r=>some ((a == b) && r)
      | some .bool,some (.bool a),some (.bool b),some r=>some ((a == b) && r)
      | _,_,_,_=>none
    else none
def eqAgg (P:Program) (t:TypeId) (xs ys:Array Value):Option Bool :=
  match P.underlying t with
  | some (.struct fs)=>bif (!P.stoodInHeld t && !P.eqGuardType P.depth t) then eqFl P xs ys fs.toList else none
  | _=>none
theorem eqFl_sound {P:Program} {w:World} {xs ys:Array Value}:∀ {fs:List Field} {b:Bool},eqFl P xs ys fs=some b→(Op.eqFields 9999 xs ys fs).run P w= .ok b w
  | [],b,h=>by simp only [eqFl,Option.some.injEq] at h; subst h; rfl
  | f::fs,b,h=>by
    simp only [eqFl] at h
    split at h
    · rename_i hn
      split at h
      · rename_i a c r hu hx hy hr
        simp only [Option.some.injEq] at h
        subst h
        have h1:=run_equalIn_int (P:=P) w 9998 f.type .i64 .i64 a c hu
        simp only [Nat.reduceAdd] at h1
        simp only [Op.eqFields,hn,ne_eq,not_false_eq_true,if_true,part,isAgg,Sem.run_bind,run_underlying hu,Result.andThen_ok,Sem.run_pure,hx,hy,h1,Bool.false_eq_true,if_false]
        cases hac:(a == c)
        · simp
        · simp [eqFl_sound hr]
      · rename_i a c r hu hx hy hr
        simp only [Option.some.injEq] at h
        subst h
        have h1:=run_equalIn_bool' (P:=P) w 9998 f.type a c hu
        simp only [Nat.reduceAdd] at h1
        simp only [Op.eqFields,hn,ne_eq,not_false_eq_true,if_true,part,isAgg,Sem.run_bind,run_underlying hu,Result.andThen_ok,Sem.run_pure,hx,hy,h1,Bool.false_eq_true,if_false]
        cases hac:(a == c)
        · simp
        · simp [eqFl_sound hr]
      · cases h
    · cases h
theorem eqAgg_sound {P:Program} {w:World} {t:TypeId} {xs ys:Array Value} {b:Bool} (h:eqAgg P t xs ys=some b) :
    P.eqGuardType P.depth t=false∧(Op.equalIn 10000 t (.agg xs) (.agg ys)).run P w= .ok b w:=by
  unfold eqAgg at h
  split at h
  · rename_i fs hu
    cases hc:(!P.stoodInHeld t && !P.eqGuardType P.depth t) with
    | false=>rw [hc] at h; simp at h
    | true =>
      rw [hc] at h
      simp only [cond_true] at h
      simp only [Bool.and_eq_true,Bool.not_eq_true'] at hc
      have hf:P.fieldsOf t=fs:=by simp [Program.fieldsOf,hu]
      have h1:=run_equalIn_struct (P:=P) w 9999 t xs ys (by rw [hf]; exact hu) hc.1
      refine ⟨hc.2,?_⟩
      simp only [Nat.reduceAdd] at h1
      rw [h1,hf]
      exact eqFl_sound h
  · cases h
def opG (P:Program) (ρ:Operand→Value) (o:Oper) (os:List Value):Option (Value×List Obl×List Value) :=
  match runO P (execOp ρ o) os with
  | some (.value v,rs,os')=>some (v,cellsObl rs,os')
  | _=>none
def subO (o:Option Addr) (cap lo size:Nat):Option Addr:=if cap=lo then o else o.map (·.add (lo * size))
def bndV (d:Nat):Option Value→Option Int
  | none=>some d
  | some (.int _ i)=>some i
  | _=>none
theorem run_subO {P:Program} {w:World} {t elem:TypeId} {inf:TypeInfo} {o:Option Addr} {len cap:Nat} {lo hi:Option Value} {l h:Int}
    (hu:P.underlying t=some (.slice elem)) (hi':P.info? elem=some inf) (hl:bndV 0 lo=some l) (hh:bndV len hi=some h) (hb:0≤l∧l≤h∧h≤(cap:Int)∧len≤cap) :
    (Instr.sliceAt t (.slice o len cap) lo hi none).run P w= .ok (.slice (subO o cap l.toNat inf.size) (h.toNat - l.toNat) (cap - l.toNat)) w:=by
  obtain ⟨h0,h1,h2,h3⟩:=hb
  have he:P.elem t=elem:=by simp [Program.elem,hu]
  have hu':P.underlying t=some (.slice (P.elem t)):=by rw [he]; exact hu
  have hs:(sizeOf (P.elem t)).run P w= .ok inf.size w:=by rw [he]; simp [sizeOf,typeInfo,hi']
  rw [run_sliceAt_slice w t _ lo hi none hu']
  have eh:(h.toNat:Int)=h:=Int.toNat_of_nonneg (by omega)
  cases lo with
  | none =>
    simp only [bndV,Option.some.injEq] at hl
    subst hl
    cases hi with
    | none =>
      simp only [bndV,Option.some.injEq] at hh
      subst hh
      rw [run_slice_all w t o len cap hu',hs]
      simp [sliced,subO,Result.andThen]
    | some v =>
      cases v with
      | int k i =>
        simp only [bndV,Option.some.injEq] at hh
        subst hh
        rw [run_slice_h w t o len cap hu' k i (by omega) h2,hs]
        simp [sliced,subO,Result.andThen]
      | _=>simp [bndV] at hh
  | some u =>
    cases u with
    | int k' j =>
      simp only [bndV,Option.some.injEq] at hl
      subst hl
      cases hi with
      | none =>
        simp only [bndV,Option.some.injEq] at hh
        subst hh
        rw [run_slice_l w t o len cap hu' k' j h0 h1,hs]
        simp [sliced,subO,Result.andThen]
      | some v =>
        cases v with
        | int k i =>
          simp only [bndV,Option.some.injEq] at hh
          subst hh
          rw [run_slice_lh w t o len cap hu' k' k j i h0 h1 h2,hs]
          simp [sliced,subO,Result.andThen]
        | _=>simp [bndV] at hh
    | _=>simp [bndV] at hl
def opQ (P:Program) (ρ:Operand→Value) (o:Oper) (os:List Value):Option (Value×List Obl×List Value) :=
  match o.op with
  | .indexAddr t x ix=>match ρ ix,P.underlying t,ρ x with
    | .int _ i,some (.array len elem), .pointer (some a)=>match P.info? elem with
      | some inf=>some (.pointer (some (a.add (i.toNat * inf.size))),[.prop (0≤i∧i<len)],os)
      | none=>none
    | .int _ i,some (.slice elem), .slice o len _=>match P.info? elem,os with
      | some inf, .pointer (some a)::os'=>some (.pointer (some (a.add (i.toNat * inf.size))),[.prop (o=some a), .prop (0≤i∧i<len)],os')
      | _,_=>none
    | _,_,_=>none
  | .slice t x lo hi none=>match P.underlying t,ρ x,bndV 0 (lo.map ρ),os with
    | some (.slice elem), .slice o len cap,some l,v::os'=>match P.info? elem,bndV len (hi.map ρ) with
      | some inf,some h=>some (v,[.prop (v= .slice (subO o cap l.toNat inf.size) (h.toNat - l.toNat) (cap - l.toNat)), .prop (0≤l∧l≤h∧h≤(cap:Int)∧len≤cap)],os')
      | _,_=>none
    | _,_,_,_=>none
  | .index t x ix=>match ρ ix,P.underlying t,ρ x,os with
    | .int _ i,some (.array len elem), .agg cs,v::os'=>match P.info? elem,runO P (isAgg elem) [] with
      | some inf,some (false,[],[])=>some (v,[.prop (0≤i∧i<len), .prop (cs[i.toNat * inf.size]? =some v)],os')
      | _,_=>none
    | _,_,_,_=>none
  | .binOp .quo _ x y _=>match ρ x,ρ y with
    | .int .i64 m, .int .i64 n=>some (.int .i64 (IntKind.i64.wrap (m.tdiv n)),[.prop (n≠0)],os)
    | _,_=>none
  | .binOp .rem _ x y _=>match ρ x,ρ y with
    | .int .i64 m, .int .i64 n=>some (.int .i64 (m.tmod n),[.prop (n≠0)],os)
    | _,_=>none
  | .binOp .eql t x y _=>match ρ x,ρ y with
    | .agg xs, .agg ys=>match eqAgg P t xs ys with
      | some b=>some (.bool b,[],os)
      | none=>none
    | _,_=>opG P ρ o os
  | .binOp .neq t x y _=>match ρ x,ρ y with
    | .agg xs, .agg ys=>match eqAgg P t xs ys with
      | some b=>some (.bool (!b),[],os)
      | none=>none
    | _,_=>opG P ρ o os
  | _=>opG P ρ o os
theorem opG_sound {P:Program} {ρ:Operand→Value} {o:Oper} {os:List Value} {v:Value} {obs:List Obl} {os':List Value} {w:World}
    (h:opG P ρ o os=some (v,obs,os')) (hob:HA w obs):(execOp ρ o).run P w= .ok (.value v) w:=by
  unfold opG at h
  split at h
  · rename_i u rs os'' hr
    simp only [Option.some.injEq,Prod.mk.injEq] at h
    obtain ⟨rfl,rfl,rfl⟩:=h
    exact runO_sound _ hr (cellsObl_sound hob)
  · cases h
theorem opQ_sound {P:Program} {ρ:Operand→Value} {o:Oper} {os:List Value} {v:Value} {obs:List Obl} {os':List Value} {w:World}
    (h:opQ P ρ o os=some (v,obs,os')) (hob:HA w obs):(execOp ρ o).run P w= .ok (.value v) w:=by
  unfold opQ at h
  split at h
  · rename_i t x ix ho
    split at h
    · rename_i k i len elem a hi hu hx
      split at h
      · rename_i inf hinf
        simp only [Option.some.injEq,Prod.mk.injEq] at h
        obtain ⟨rfl,rfl,rfl⟩:=h
        cases hob with
        | prop hp _=>simp [execOp,ho,Instr.indexAt,asIntOf,hi,hx,run_underlying hu,Instr.sureAddr,sizeOf,typeInfo,hinf,hp]
      · cases h
    · rename_i k i elem o len cap hi hu hx
      split at h
      · rename_i inf a os2 hinf
        simp only [Option.some.injEq,Prod.mk.injEq] at h
        obtain ⟨rfl,rfl,rfl⟩:=h
        cases hob with
        | prop ha hob =>
          cases hob with
          | prop hp _=>subst ha; simp [execOp,ho,Instr.indexAt,asIntOf,hi,hx,run_underlying hu,sizeOf,typeInfo,hinf,hp]
      · cases h
    · cases h
  · rename_i t x lo hi ho
    split at h
    · rename_i elem o len cap l v os2 hu hx hl
      split at h
      · rename_i inf h' hinf hh
        simp only [Option.some.injEq,Prod.mk.injEq] at h
        obtain ⟨rfl,rfl,rfl⟩:=h
        cases hob with
        | prop hv hob =>
          cases hob with
          | prop hp _ =>
            have:=run_subO (P:=P) (w:=w) (o:=o) hu hinf hl hh hp
            subst hv
            simp [execOp,ho,hx,this]
      · cases h
    · cases h
  · rename_i t x ix ho
    split at h
    · rename_i k i len elem cs v os2 hi hu hx
      split at h
      · rename_i inf hinf hagg
        simp only [Option.some.injEq,Prod.mk.injEq] at h
        obtain ⟨rfl,rfl,rfl⟩:=h
        cases hob with
        | prop hb hob =>
          cases hob with
          | prop hp _ =>
            have h1:(isAgg elem).run P w= .ok false w:=runO_sound _ hagg (by simp)
            simp [execOp,ho,Instr.index,asIntOf,hi,hx,run_underlying hu,sizeOf,typeInfo,hinf,hb,part,h1,hp]
      · cases h
    · cases h
  · rename_i t x y t' ho
    split at h
    · rename_i m n hm hn
      simp only [Option.some.injEq,Prod.mk.injEq] at h
      obtain ⟨rfl,rfl,rfl⟩:=h
      cases hob with
      | prop hp _=>simp [execOp,ho,hm,hn,binOp,eqGuard,Op.intDiv,hp]
    · cases h
  · rename_i t x y t' ho
    split at h
    · rename_i m n hm hn
      simp only [Option.some.injEq,Prod.mk.injEq] at h
      obtain ⟨rfl,rfl,rfl⟩:=h
      cases hob with
      | prop hp _=>simp [execOp,ho,hm,hn,binOp,eqGuard,Op.intDiv,hp]
    · cases h
  · rename_i t x y t' ho
    split at h
    · rename_i xs ys hx hy
      split at h
      · rename_i b hb
        simp only [Option.some.injEq,Prod.mk.injEq] at h
        obtain ⟨rfl,rfl,rfl⟩:=h
        obtain ⟨hg,he⟩:=eqAgg_sound (w:=w) hb
        simp only [execOp,ho,hx,hy,Sem.run_bind,run_eqGuard_agg w .eql t x y xs ys hg,Result.andThen_ok,run_eql_struct,he,Sem.run_pure]
      · cases h
    · exact opG_sound h hob
  · rename_i t x y t' ho
    split at h
    · rename_i xs ys hx hy
      split at h
      · rename_i b hb
        simp only [Option.some.injEq,Prod.mk.injEq] at h
        obtain ⟨rfl,rfl,rfl⟩:=h
        obtain ⟨hg,he⟩:=eqAgg_sound (w:=w) hb
        simp only [execOp,ho,hx,hy,Sem.run_bind,run_eqGuard_agg w .neq t x y xs ys hg,Result.andThen_ok,run_neq_struct,he,Sem.run_pure]
      · cases h
    · exact opG_sound h hob
  · exact opG_sound h hob
def evI (P:Program) (R:Array Oper) (N:Nat):List Nat→FL→List Value→Option (FL×List Obl×List Value)
  | [],fl,os=>some (fl,[],os)
  | k::ks,fl,os=>match R[k]? with
    | none=>none
    | some o=>bif (match o.dst with | some d=>Nat.blt d N | none=>true) then
      match wantedF R fl o with
      | none=>none
      | some false=>evI P R N ks (putF fl o.dst undef) os
      | some true=>bif known fl o then
          match opQ P (ev fl) o os with
          | none=>none
          | some (v,obs,os')=>match evI P R N ks (putF fl o.dst v) os' with
            | none=>none
            | some (fl',obs',os'')=>some (fl',obs ++ obs',os'')
        else none
      else none
def evK (P:Program) (R:Array Oper) (N:Nat) (ks:List Nat) (fl:FL) (os:List Value) (keep:List Nat):Option (FL×List Obl) :=
  match evI P R N ks fl os with
  | some (fl',obs,[])=>match keepF fl' keep with
    | some r=>some (r,obs)
    | none=>none
  | _=>none
def depL (md:Region.Mode) (o:Oper):List Nat:=(o.after.toList.filter (Region.binds md)).map (·.on)
def closL (md:Region.Mode) (ops:Array Oper):Nat→List Nat→List Nat→List Nat
  | 0,_,done=>done
  | _ + 1,[],done=>done
  | f + 1,k::todo,done=>if done.contains k then closL md ops f todo done else match ops[k]? with
    | none=>closL md ops f todo done
    | some o=>closL md ops f (depL md o ++ todo) (k::done)
def aheadL (md:Region.Mode) (ops:Array Oper) (y:Nat):List Nat:=match ops[y]? with
  | none=>[]
  | some o=>closL md ops (ops.size * ops.size + ops.size) (depL md o) []
def Closed (md:Region.Mode) (ops:Array Oper) (listed:Array Bool):Prop :=
  ∀k o,ops[k]? =some o→listed.getD k false=true→∀e∈o.after,Region.binds md e=true→listed.getD e.on false=true
theorem depL_mem {md:Region.Mode} {o:Oper} {k:Nat}:k∈depL md o↔∃e∈o.after,Region.binds md e=true∧e.on=k:=by
  unfold depL
  simp only [List.mem_map,List.mem_filter,Array.mem_toList_iff]
  exact ⟨fun ⟨e,⟨h1,h2⟩,h3⟩=>⟨e,h1,h2,h3⟩,fun ⟨e,h1,h2,h3⟩=>⟨e,⟨h1,h2⟩,h3⟩⟩
theorem closL_listed {md:Region.Mode} {R:Array Oper} {listed:Array Bool} (hc:Closed md R listed):∀(f:Nat) (todo done:List Nat),(∀k∈todo,listed.getD k false=true)→(∀k∈done,listed.getD k false=true) →
    ∀k∈closL md R f todo done,listed.getD k false=true
  | 0,_,_,_,hd=>hd
  | _ + 1,[],_,_,hd=>hd
  | f + 1,k::todo,done,ht,hd=>by
    unfold closL
    split
    · exact closL_listed hc f todo done (fun j hj=>ht j (List.mem_cons_of_mem _ hj)) hd
    · cases hk:R[k]? with
      | none=>exact closL_listed hc f todo done (fun j hj=>ht j (List.mem_cons_of_mem _ hj)) hd
      | some o =>
        have hl:=ht k (List.mem_cons_self ..)
        refine closL_listed hc f (depL md o ++ todo) (k::done) (fun j hj=>?_) (fun j hj=>?_)
        · rcases List.mem_append.1 hj with h1 | h1
          · obtain ⟨e,he,hb,rfl⟩:=depL_mem.1 h1
            exact hc k o hk hl e he hb
          · exact ht j (List.mem_cons_of_mem _ h1)
        · rcases List.mem_cons.1 hj with h1 | h1
          · subst h1; exact hl
          · exact hd j h1
theorem reach_listed {md:Region.Mode} {R:Array Oper} {listed:Array Bool} (hc:Closed md R listed) {i y:Nat} {o:Oper} (ho:R[y]? =some o) (hall:∀e∈o.after,Region.binds md e=true→listed.getD e.on false=true)
    (h:(aheadL md R y).contains i=true):listed.getD i false=true:=by
  unfold aheadL at h
  rw [ho] at h
  simp only at h
  refine closL_listed hc _ _ _ (fun k hk=>?_) (fun k hk=>absurd hk (List.not_mem_nil)) i (List.contains_iff_mem.1 h)
  obtain ⟨e,he,hb,rfl⟩:=depL_mem.1 hk
  exact hall e he hb
theorem Closed.set {md:Region.Mode} {R:Array Oper} {listed:Array Bool} (hc:Closed md R listed) {j:Nat} (hj:j∈Region.ready md R listed):Closed md R (listed.setIfInBounds j true):=by
  intro k o hk hl e he hb
  obtain ⟨_,oj,hoj,hall⟩:=mem_ready.1 hj
  by_cases hkj:k=j
  · subst hkj
    rw [hoj] at hk
    cases hk
    exact getD_set_true (hall e he hb)
  · rw [getD_set_ne false (Ne.symm hkj)] at hl
    exact getD_set_true (hc k o hk hl e he hb)
theorem Closed.none {md:Region.Mode} {R:Array Oper} (n:Nat):Closed md R (Array.replicate n false):=fun k o hk hl=>by
  exfalso
  rw [Array.getD_eq_getD_getElem?,Array.getElem?_replicate] at hl
  split at hl <;> cases hl
def lateB (md:Region.Mode) (ops:Array Oper) (m:List Nat) (i:Nat):Bool:=m.all fun j=>(aheadL md ops j).contains i
def wpPlan (P:Program) (ops:Array Oper) (m:List Nat) (S:World→Prop) (K:Act→World→Prop):List (Nat×Bool)→Act→World→Prop
  | [],a,w=>K a w
  | (i,true)::rest,a,w=>∃o v,ops[i]? =some o∧((YieldsIf P ops S o v a∧S w∧lateB .any ops m i=true)∨YieldsIf P ops (fun _=>True) o v a)∧wpPlan P ops m S K rest (a.put o.dst v) w
  | (i,false)::rest,a,w=>wpOp P ops (fun _ _ _=>False) i (fun a' w'=>(m.contains i=false→S w')∧wpPlan P ops m S K rest a' w') a w
theorem wpOp_post {P:Program} {ops:Array Oper} {Q Q':Exit→Act→World→Prop} (hq:∀e a w,Q e a w→Q' e a w) {i:Nat} {K:Act→World→Prop} {a:Act} {w:World} (h:wpOp P ops Q i K a w):wpOp P ops Q' i K a w:=by
  have hl:LetsOut Q→LetsOut Q':=fun ⟨a,w,h⟩=>⟨a,w,hq _ _ _ h⟩
  unfold wpOp at *
  split
  · rename_i ho; simp only [ho] at h; exact h
  · rename_i o ho
    simp only [ho] at h
    split
    · rename_i hw
      simp only [hw,if_true] at h
      refine h.imp (fun h=>?_) (fun ⟨h1,h2⟩=>⟨h1,hl h2⟩)
      unfold Oper.wp at *
      generalize (execOp a.eval o).run P w=r at *
      cases r with
      | ok n w' =>
        cases n <;> simp only [Oper.upon] at h ⊢ <;>
          first
            | exact h
            | exact Calls.mono h (fun e w'' he=>by cases e <;> first | exact he | exact hq _ _ _ he | exact hl he)
      | halt x w'=>cases x <;> simp only [Oper.upon] at h ⊢ <;> exact hq _ _ _ h
    · rename_i hw; simp only [hw] at h; exact h
def allFlag (b:Bool) (pl:List (Nat×Bool)):Bool:=pl.all (fun p=>p.2 == b)
theorem wpPlan_quiet {P:Program} {R:Array Oper} {m:List Nat} {S:World→Prop} {K:Act→World→Prop} {w:World}:∀(pl:List (Nat×Bool)) (hSw:∀p∈pl,m.contains p.1=false→S w) {a:Act} {fl:FL} {os:List Value} {fl':FL} {obs:List Obl} {os':List Value} {rest:List (Nat×Bool)},
    allFlag false pl=true→Fr a N fl ds→evI P R N (pl.map (·.1)) fl os=some (fl',obs,os')→HA w obs →
    (∀a',Fr a' N fl' ds→wpPlan P R m S K rest a' w)→wpPlan P R m S K (pl ++ rest) a w
  | [],_,a,fl,os,fl',obs,os',rest,_,hf,he,_,k=>by
    simp only [List.map_nil,evI,Option.some.injEq,Prod.mk.injEq] at he
    obtain ⟨rfl,_,_⟩:=he
    exact k a hf
  | (i,b)::pl,hSw,a,fl,os,fl',obs,os',rest,hfl,hf,he,hob,k=>by
    simp only [allFlag,List.all_cons,Bool.and_eq_true,beq_iff_eq] at hfl
    obtain ⟨hb,hfl⟩:=hfl
    subst hb
    simp only [List.map_cons,evI] at he
    show wpOp P R _ i (fun a' w'=>(m.contains i=false→S w')∧wpPlan P R m S K (pl ++ rest) a' w') a w
    unfold wpOp
    cases hR:R[i]? with
    | none=>rw [hR] at he; simp at he
    | some o =>
      rw [hR] at he
      simp only at he ⊢
      cases hd:(match o.dst with | some d=>Nat.blt d N | none=>true) with
      | false=>rw [hd] at he; simp at he
      | true =>
        rw [hd] at he
        simp only [cond_true] at he
        cases hw:wantedF R fl o with
        | none=>rw [hw] at he; simp at he
        | some c =>
          rw [hw] at he
          rw [wantedF_sound hf hw]
          cases c with
          | false =>
            simp only at he
            exact ⟨hSw _ (List.mem_cons_self ..),wpPlan_quiet pl (fun p hp=>hSw p (List.mem_cons_of_mem _ hp)) hfl (hf.put hd undef) he hob k⟩
          | true =>
            simp only at he
            cases hk:known fl o with
            | false=>rw [hk] at he; simp at he
            | true =>
              rw [hk] at he
              simp only [cond_true] at he
              cases hq:opQ P (ev fl) o os with
              | none=>rw [hq] at he; simp at he
              | some t =>
                obtain ⟨v,obs1,os1⟩:=t
                rw [hq] at he
                simp only at he
                cases hr:evI P R N (pl.map (·.1)) (putF fl o.dst v) os1 with
                | none=>rw [hr] at he; simp at he
                | some t' =>
                  obtain ⟨fl2,obs2,os2⟩:=t'
                  rw [hr] at he
                  simp only [Option.some.injEq,Prod.mk.injEq] at he
                  obtain ⟨rfl,rfl,rfl⟩:=he
                  refine .inl ?_
                  unfold Oper.wp
                  rw [hf.exec hk,opQ_sound hq hob.left]
                  exact ⟨hSw _ (List.mem_cons_self ..),wpPlan_quiet pl (fun p hp=>hSw p (List.mem_cons_of_mem _ hp)) hfl (hf.put hd v) hr hob.right k⟩
theorem wpPlan_firstP {P:Program} {R:Array Oper} {m:List Nat} {S:World→Prop} {K:Act→World→Prop} {w:World}:∀(pl:List (Nat×Bool)) {a:Act} {fl:FL} {os:List Value} {fl':FL} {obs:List Obl} {os':List Value} {rest:List (Nat×Bool)},
    allFlag true pl=true→Fr a N fl ds→evI P R N (pl.map (·.1)) fl os=some (fl',obs,os')→(∀w',HA w' obs) →
    (∀a',Fr a' N fl' ds→wpPlan P R m S K rest a' w)→wpPlan P R m S K (pl ++ rest) a w
  | [],a,fl,os,fl',obs,os',rest,_,hf,he,_,k=>by
    simp only [List.map_nil,evI,Option.some.injEq,Prod.mk.injEq] at he
    obtain ⟨rfl,_,_⟩:=he
    exact k a hf
  | (i,b)::pl,a,fl,os,fl',obs,os',rest,hfl,hf,he,hob,k=>by
    simp only [allFlag,List.all_cons,Bool.and_eq_true,beq_iff_eq] at hfl
    obtain ⟨hb,hfl⟩:=hfl
    subst hb
    simp only [List.map_cons,evI] at he
    show ∃o v,R[i]? =some o∧((YieldsIf P R S o v a∧S w∧lateB .any R m i=true)∨YieldsIf P R (fun _=>True) o v a)∧wpPlan P R m S K (pl ++ rest) (a.put o.dst v) w
    cases hR:R[i]? with
    | none=>rw [hR] at he; simp at he
    | some o =>
      rw [hR] at he
      simp only at he
      cases hd:(match o.dst with | some d=>Nat.blt d N | none=>true) with
      | false=>rw [hd] at he; simp at he
      | true =>
        rw [hd] at he
        simp only [cond_true] at he
        cases hw:wantedF R fl o with
        | none=>rw [hw] at he; simp at he
        | some c =>
          rw [hw] at he
          have hwa:=wantedF_sound hf hw
          cases c with
          | false =>
            simp only at he
            exact ⟨o,undef,rfl, .inr (.inr ⟨hwa,rfl⟩),wpPlan_firstP pl hfl (hf.put hd undef) he hob k⟩
          | true =>
            simp only at he
            cases hk:known fl o with
            | false=>rw [hk] at he; simp at he
            | true =>
              rw [hk] at he
              simp only [cond_true] at he
              cases hq:opQ P (ev fl) o os with
              | none=>rw [hq] at he; simp at he
              | some t =>
                obtain ⟨v,obs1,os1⟩:=t
                rw [hq] at he
                simp only at he
                cases hr:evI P R N (pl.map (·.1)) (putF fl o.dst v) os1 with
                | none=>rw [hr] at he; simp at he
                | some t' =>
                  obtain ⟨fl2,obs2,os2⟩:=t'
                  rw [hr] at he
                  simp only [Option.some.injEq,Prod.mk.injEq] at he
                  obtain ⟨rfl,rfl,rfl⟩:=he
                  refine ⟨o,v,rfl, .inr (.inl ⟨hwa,fun w' _=>?_⟩),wpPlan_firstP pl hfl (hf.put hd v) hr (fun w'=>(hob w').right) k⟩
                  rw [hf.exec hk]
                  exact opQ_sound hq (hob w').left
theorem evK_spec {P:Program} {R:Array Oper} {ks:List Nat} {fl:FL} {os:List Value} {keep:List Nat} {fl':FL} {obs:List Obl}
    (h:evK P R N ks fl os keep=some (fl',obs)):∃fl1,evI P R N ks fl os=some (fl1,obs,[])∧keepF fl1 keep=some fl':=by
  unfold evK at h
  split at h
  · rename_i fl1 obs1 he
    split at h
    · rename_i r hk
      simp only [Option.some.injEq,Prod.mk.injEq] at h
      obtain ⟨rfl,rfl⟩:=h
      exact ⟨fl1,he,hk⟩
    · cases h
  · cases h
theorem p_runL {P:Program} {R:Array Oper} {m:List Nat} {S:World→Prop} {K:Act→World→Prop} {w:World} {pl:List (Nat×Bool)} (n:Nat) (os:List Value) (keep:List Nat) {fl':FL} {obs:List Obl}
    (hm:((pl.take n).all fun p=>m.contains p.1)=true) (hf:Fr a N fl ds) (hfl:allFlag false (pl.take n)=true) (he:evK P R N ((pl.take n).map (·.1)) fl os keep=some (fl',obs)) (hob:HA w obs)
    (k:∀a',Fr a' N fl' ds→wpPlan P R m S K (pl.drop n) a' w):wpPlan P R m S K pl a w:=by
  obtain ⟨fl1,h1,h2⟩:=evK_spec he
  have:=wpPlan_quiet (S:=S) (m:=m) (K:=K) (rest:=pl.drop n) (pl.take n) (fun p hp h0=>by have:=List.all_eq_true.1 hm p hp; rw [this] at h0; cases h0) hfl hf h1 hob fun a' hf'=>k a' (hf'.keep h2)
  rwa [List.take_append_drop] at this
theorem p_firstP {P:Program} {R:Array Oper} {m:List Nat} {S:World→Prop} {K:Act→World→Prop} {w:World} {pl:List (Nat×Bool)} (n:Nat) (os:List Value) (keep:List Nat) {fl':FL} {obs:List Obl}
    (hf:Fr a N fl ds) (hfl:allFlag true (pl.take n)=true) (he:evK P R N ((pl.take n).map (·.1)) fl os keep=some (fl',obs)) (hob:∀w',HA w' obs)
    (k:∀a',Fr a' N fl' ds→wpPlan P R m S K (pl.drop n) a' w):wpPlan P R m S K pl a w:=by
  obtain ⟨fl1,h1,h2⟩:=evK_spec he
  have:=wpPlan_firstP (S:=S) (m:=m) (K:=K) (rest:=pl.drop n) (pl.take n) hfl hf h1 hob fun a' hf'=>k a' (hf'.keep h2)
  rwa [List.take_append_drop] at this
def noLate (m:List Nat) (listed:Array Bool):Prop:=∀k∈m,listed.getD k false=false
theorem noLate.unset {m:List Nat} {listed:Array Bool} {i:Nat} (h:noLate m (listed.setIfInBounds i true)):noLate m listed:=fun k hk=>by
  cases hb:listed.getD k false with
  | false=>rfl
  | true=>have:=h k hk; rw [getD_set_true hb] at this; cases this
theorem noLate.set {m:List Nat} {listed:Array Bool} {i:Nat} (h:noLate m listed) (hi:i∉m):noLate m (listed.setIfInBounds i true):=fun k hk=>by
  rw [getD_set_ne false (by rintro rfl; exact hi hk)]
  exact h k hk
theorem noLate.not_mem {m:List Nat} {listed:Array Bool} {i:Nat} (hi:i<listed.size) (h:noLate m (listed.setIfInBounds i true)):i∉m:=fun hm=>by
  have:=h i hm
  simp [Array.getD_eq_getD_getElem?,hi] at this
theorem unlisted_false {listed:Array Bool} {i:Nat} (h0:listed.getD i true=false):listed.getD i false=false:=by
  rcases Nat.lt_or_ge i listed.size with h' | h'
  · simp [h'] at h0 ⊢; exact h0
  · simp [Array.getElem?_eq_none h'] at h0
theorem unlisted_lt {listed:Array Bool} {i:Nat} (h0:listed.getD i true=false):i<listed.size:=by
  rcases Nat.lt_or_ge i listed.size with h' | h'
  · exact h'
  · simp [Array.getElem?_eq_none h'] at h0
def wpAnyK (P:Program) (md:Region.Mode) (ops:Array Oper) (Q:Exit→Act→World→Prop) (m:List Nat) (S:World→Prop):Nat→Array Bool→Act→World→Prop
  | 0,listed,a,w=>Region.ready md ops listed=[]∧Q .normal a w
  | fuel + 1,listed,a,w =>
    (Region.ready md ops listed=[]→Q .normal a w) ∧
    ∀i∈Region.ready md ops listed,wpOp P ops Q i (fun a' w'=>(noLate m (listed.setIfInBounds i true)→S w')∧wpAnyK P md ops Q m S fuel (listed.setIfInBounds i true) a' w') a w
theorem lateB_none {md:Region.Mode} {ops:Array Oper} {m:List Nat} {i:Nat} {listed:Array Bool} (hl:lateB md ops m i=true) (hcl:Closed md ops listed) (hsz:listed.size=ops.size) (hi:listed.getD i true=false):noLate m listed:=fun k hk=>by
  cases hb:listed.getD k false with
  | false=>rfl
  | true =>
    have hre:=List.all_eq_true.1 hl k hk
    cases ho:ops[k]? with
    | none=>simp [aheadL,ho] at hre
    | some o =>
      have:=reach_listed hcl ho (hcl k o ho hb) hre
      rw [unlisted_false hi] at this
      cases this
theorem lateB_ready {md:Region.Mode} {ops:Array Oper} {m:List Nat} {i j:Nat} {listed:Array Bool} (hl:lateB md ops m i=true) (hcl:Closed md ops listed) (hi:listed.getD i true=false) (hj:j∈Region.ready md ops listed):j∉m:=fun hk=>by
  obtain ⟨_,o,ho,hall⟩:=mem_ready.1 hj
  have:=reach_listed hcl ho hall (List.all_eq_true.1 hl j hk)
  rw [unlisted_false hi] at this
  cases this
section first
variable {P : Program} {md : Region.Mode} {ops : Array Oper} {Q : Exit → Act → World → Prop} {m : List Nat} {S : World → Prop} {i : Nat} {oi : Oper} {v : Value}
theorem wpAnyK_first (hsink:lateB md ops m i=true) (hi:ops[i]? =some oi) (hsel:∀(j:Nat) (o:Oper) cs b,ops[j]? =some o→o.op≠ .select cs b)
    (hQ:∀c a w,Q (.panic c) (a.put oi.dst v) w→Q (.panic c) a w) :
    ∀(fuel:Nat) (listed:Array Bool) (a:Act) (w:World),Closed md ops listed→listed.size=ops.size →
      (∀j oj,ops[j]? =some oj→j≠i→listed.getD j true=false→(∀e∈oj.after,Region.binds md e=true→e.on≠i)→oi.apart ops oj=true) →
      i∈Region.ready md ops listed→YieldsIf P ops S oi v a→S w →
      wpAnyK P md ops Q m S fuel (listed.setIfInBounds i true) (a.put oi.dst v) w→wpAnyK P md ops Q m S (fuel + 1) listed a w:=by
  intro fuel
  induction fuel with
  | zero =>
    intro listed a w _ _ _ hr hy hS H
    refine ⟨fun h=>(by rw [h] at hr; cases hr),fun j hj=>?_⟩
    by_cases hji:j=i
    · subst hji; exact hy.wpOp hi hS ⟨fun _=>hS,H⟩
    · have:=ready_mono hj hji
      rw [H.1] at this
      cases this
  | succ fuel ih =>
    intro listed a w hcl hsz hfree hr hy hS H
    refine ⟨fun h=>(by rw [h] at hr; cases hr),fun j hj=>?_⟩
    by_cases hji:j=i
    · subst hji; exact hy.wpOp hi hS ⟨fun _=>hS,H⟩
    · have h1:=H.2 j (ready_mono hj hji)
      obtain ⟨hjun,oj,hoj,hall⟩:=mem_ready.1 hj
      have hiun:=(mem_ready.1 hr).1
      have hnot:∀e∈oj.after,Region.binds md e=true→e.on≠i:=fun e he hb heq=>by
        have h1:=hall e he hb
        rw [heq,unlisted_false hiun] at h1
        cases h1
      have hnl:noLate m ((listed.setIfInBounds i true).setIfInBounds j true) :=
        ((lateB_none hsink hcl hsz hiun).set (lateB_ready hsink hcl hiun hr)).set (lateB_ready hsink hcl hiun hj)
      have h2:=wpOp_putIf hoj (hfree j oj hoj hji hjun hnot) (fun cs b=>hsel i oi cs b hi) (fun cs b=>hsel j oj cs b hoj) hQ hy h1
      have hfree':∀k ok,ops[k]? =some ok→k≠i→(listed.setIfInBounds j true).getD k true=false →
          (∀e∈ok.after,Region.binds md e=true→e.on≠i)→oi.apart ops ok=true:=fun k ok hk hki hun hno=>by
        refine hfree k ok hk hki ?_ hno
        by_cases hjk:j=k
        · subst hjk; exact hjun
        · rw [getD_set_ne true hjk] at hun; exact hun
      refine wpOp_mono (fun a' w' h3=>?_) h2
      have hS':S w':=h3.2.1 hnl
      refine ⟨fun _=>hS',ih (listed.setIfInBounds j true) a' w' (hcl.set hj) (by simp [hsz]) hfree' (ready_mono hr (Ne.symm hji)) h3.1 hS' ?_⟩
      rw [Array.setIfInBounds_comm _ _ hji]
      exact h3.2.2
theorem wpAnyK_firstP (him:i∉m) (hi:ops[i]? =some oi) (hsel:∀(j:Nat) (o:Oper) cs b,ops[j]? =some o→o.op≠ .select cs b)
    (hQ:∀c a w,Q (.panic c) (a.put oi.dst v) w→Q (.panic c) a w) :
    ∀(fuel:Nat) (listed:Array Bool) (a:Act) (w:World),
      (∀j oj,ops[j]? =some oj→j≠i→listed.getD j true=false→(∀e∈oj.after,Region.binds md e=true→e.on≠i)→oi.apart ops oj=true) →
      i∈Region.ready md ops listed→YieldsIf P ops (fun _=>True) oi v a→(noLate m listed→S w) →
      wpAnyK P md ops Q m S fuel (listed.setIfInBounds i true) (a.put oi.dst v) w→wpAnyK P md ops Q m S (fuel + 1) listed a w:=by
  intro fuel
  induction fuel with
  | zero =>
    intro listed a w _ hr hy hS H
    refine ⟨fun h=>(by rw [h] at hr; cases hr),fun j hj=>?_⟩
    by_cases hji:j=i
    · subst hji; exact hy.wpOp hi trivial ⟨fun h=>hS h.unset,H⟩
    · have:=ready_mono hj hji
      rw [H.1] at this
      cases this
  | succ fuel ih =>
    intro listed a w hfree hr hy hS H
    refine ⟨fun h=>(by rw [h] at hr; cases hr),fun j hj=>?_⟩
    by_cases hji:j=i
    · subst hji; exact hy.wpOp hi trivial ⟨fun h=>hS h.unset,H⟩
    · have h1:=H.2 j (ready_mono hj hji)
      obtain ⟨hjun,oj,hoj,hall⟩:=mem_ready.1 hj
      have hiun:=(mem_ready.1 hr).1
      have hnot:∀e∈oj.after,Region.binds md e=true→e.on≠i:=fun e he hb heq=>by
        have h1:=hall e he hb
        rw [heq,unlisted_false hiun] at h1
        cases h1
      have h2:=wpOp_putIf hoj (hfree j oj hoj hji hjun hnot) (fun cs b=>hsel i oi cs b hi) (fun cs b=>hsel j oj cs b hoj) hQ hy h1
      have hfree':∀k ok,ops[k]? =some ok→k≠i→(listed.setIfInBounds j true).getD k true=false →
          (∀e∈ok.after,Region.binds md e=true→e.on≠i)→oi.apart ops ok=true:=fun k ok hk hki hun hno=>by
        refine hfree k ok hk hki ?_ hno
        by_cases hjk:j=k
        · subst hjk; exact hjun
        · rw [getD_set_ne true hjk] at hun; exact hun
      refine wpOp_mono (fun a' w' h3=>?_) h2
      have hS':noLate m (listed.setIfInBounds j true)→S w':=fun h=>h3.2.1 (by
        rw [← Array.setIfInBounds_comm _ _ hji]
        exact h.set him)
      refine ⟨hS',ih (listed.setIfInBounds j true) a' w' hfree' (ready_mono hr (Ne.symm hji)) h3.1 hS' ?_⟩
      rw [Array.setIfInBounds_comm _ _ hji]
      exact h3.2.2
end first
def normB (md:Region.Mode) (ops:Array Oper) (m:List Nat):List (Nat×Bool)→Array Bool→Bool
  | [],listed=>(Region.ready md ops listed).isEmpty
  | (i,true)::rest,listed=>(Region.ready md ops listed).contains i && Region.free md ops listed i && !m.contains i && normB md ops m rest (listed.setIfInBounds i true)
  | (i,false)::rest,listed=>(match Region.ready md ops listed with | [j]=>Nat.beq i j | _=>false) && normB md ops m rest (listed.setIfInBounds i true)
theorem wpAnyK_plan {P:Program} {ops:Array Oper} {K:Act→World→Prop} {m:List Nat} {S:World→Prop} (hs:Region.noSelect ops=true) :
    ∀(pl:List (Nat×Bool)) (listed:Array Bool) (a:Act) (w:World),Closed .any ops listed→listed.size=ops.size→(noLate m listed→S w)→normB .any ops m pl listed=true→wpPlan P ops m S K pl a w →
      wpAnyK P .any ops (fun e a w=>match e with | .normal=>K a w | _=>False) m S pl.length listed a w
  | [],listed,a,w,_,_,_,hB,h=>⟨by simpa [normB] using hB,h⟩
  | (i,true)::rest,listed,a,w,hcl,hsz,h0,hB,h=>by
    simp only [normB,Bool.and_eq_true] at hB
    obtain ⟨⟨⟨hr,hf⟩,him⟩,hB'⟩:=hB
    have hr':i∈Region.ready .any ops listed:=by simpa using hr
    have him':i∉m:=by simpa using him
    obtain ⟨o,v,hi,hy,hrest⟩:=h
    have hrec:=wpAnyK_plan hs rest _ _ _ (hcl.set hr') (by simp [hsz]) (fun h=>h0 h.unset) hB' hrest
    rcases hy with ⟨hy,hS,hl⟩ | hy
    · exact wpAnyK_first hl hi (Region.noSelect_spec hs) (fun _ _ _ h=>h) rest.length listed a w hcl hsz (Region.free_spec hi hf) hr' hy hS hrec
    · exact wpAnyK_firstP him' hi (Region.noSelect_spec hs) (fun _ _ _ h=>h) rest.length listed a w (Region.free_spec hi hf) hr' hy h0 hrec
  | (i,false)::rest,listed,a,w,hcl,hsz,h0,hB,h=>by
    simp only [normB,Bool.and_eq_true] at hB
    obtain ⟨hr,hB'⟩:=hB
    have hready:Region.ready .any ops listed=[i]:=by
      split at hr
      · rename_i j hj; have:=Nat.eq_of_beq_eq_true hr; subst this; exact hj
      · cases hr
    refine ⟨fun h0=>(by rw [hready] at h0; cases h0),fun j hj=>?_⟩
    have hj0:=hj
    rw [hready] at hj
    simp only [List.mem_singleton] at hj
    subst hj
    have h':wpOp P ops (fun _ _ _=>False) j (fun a' w'=>(m.contains j=false→S w')∧wpPlan P ops m S K rest a' w') a w:=h
    have h2:wpOp P ops (fun e a w=>match e with | .normal=>K a w | _=>False) j (fun a' w'=>(m.contains j=false→S w')∧wpPlan P ops m S K rest a' w') a w :=
      wpOp_post (fun e a w hF=>hF.elim) h'
    refine wpOp_mono (fun a' w' h3=>?_) h2
    have hS':noLate m (listed.setIfInBounds j true)→S w':=fun hn=>h3.1 (by
      have:=hn.not_mem (unlisted_lt (mem_ready.1 hj0).1)
      simpa using this)
    exact ⟨hS',wpAnyK_plan hs rest _ _ _ (hcl.set hj0) (by simp [hsz]) hS' hB' h3.2⟩
end Go.Sx
namespace Go.Sx
open Go.Sl
variable {P : Program} {a : Act} {N : Nat} {fl : FL} {ds : List Nat} {w : World} {R : Array Oper} {m : List Nat} {S : World → Prop} {K : Act → World → Prop} {pl : List (Nat × Bool)} {h : Zone} {L : List Atom}
abbrev WF (ro:Option Nat):Fence:={ Fence.wide with round:=ro }
theorem WF_depth {ro:Option Nat} {n:Nat}:(WF ro).depth.isSome=true→1≤n:=fun e=>absurd (show false=true from e) (by decide)
theorem stepsIn_WF {ro:Option Nat} {m m':Machine}:StepsIn (Machine.fenced P (WF ro)) P m m'↔Steps P m m':=stepsIn_wide (P:=P)
theorem callsIn_WF {ro:Option Nat} {n:Nat} {f:FuncId} {args:Array Value} {w:World} {R:Ending→World→Prop}:CallsIn (WF ro) n P f args w R↔Calls P f args w R :=
  callsIn_wide (n:=n)
theorem rowsIn_WF {ro:Option Nat} {n:Nat} {row:String} {args:Array Value} {w:World} {R:Value→World→Prop} (h:Rows P row args w R):RowsIn (WF ro) n P row args w R :=
  fun c cs _=>let ⟨v,w',r,s⟩:=h c cs; ⟨v,w',r,stepsIn_WF.2 s⟩
def _root_.Go.Code.cw (ro:Option Nat) (P:Program) (c:Code) (Q:Exit→Act→World→Prop) (a:Act) (w:World):Prop:=c.wpIn (WF ro) 0 P Q a w
def noDefer (ops:Array Oper):Bool:=ops.all fun o=>match o.op with | .defer _=>false | _=>true
theorem noDefer_spec {ops:Array Oper} (h:noDefer ops=true) {i:Nat} {o:Oper} (hi:ops[i]? =some o):∀c,o.op≠ .defer c:=by
  intro c e
  have hlt:=(Array.getElem?_eq_some_iff.1 hi).1
  have:=Array.all_eq_true.1 h i hlt
  rw [(Array.getElem?_eq_some_iff.1 hi).2,e] at this
  cases this
theorem wpOpIn_of {ro:Option Nat} {ops:Array Oper} {i:Nat} {K:Act→World→Prop} {a:Act} {w:World} {Q:Exit→Act→World→Prop} (hd:noDefer ops=true) {Q0:Exit→Act→World→Prop} (hp:∀c a w,¬ Q0 (.panic c) a w) (hg:∀a w,¬ Q0 .outgrown a w)
    (h:wpOp P ops Q0 i K a w):wpOpIn (WF ro) 0 P ops Q i K a w:=by
  unfold wpOp at h
  unfold wpOpIn
  cases ho:ops[i]? with
  | none=>rw [ho] at h; exact h
  | some o =>
    rw [ho] at h
    simp only at h ⊢
    cases hw:Region.wanted o (yielded ops a.tmps) with
    | false=>rw [hw] at h; simp only [Bool.false_eq_true,if_false] at h ⊢; exact ⟨fun _ _=>trivial,h⟩
    | true =>
      rw [hw] at h
      simp only [if_true] at h ⊢
      have h1:o.wp P a w K Q0:=h.resolve_right (fun ⟨_,_,_,hF⟩=>hg _ _ hF)
      unfold Oper.wp at h1
      refine ⟨fun _ _=>trivial,?_⟩
      rw [Oper.semAt_eq _ _ _ (noDefer_spec hd ho)]
      generalize (execOp a.eval o).run P w=r at *
      cases r with
      | ok x w' =>
        cases x <;> simp only [Oper.upon,Oper.uponIn] at h1 ⊢ <;>
          first
            | exact h1
            | exact h1.elim
            | exact ⟨WF_depth,callsIn_WF.2 (Calls.mono h1 fun e w'' he=>by cases e <;> first | exact he | exact (hp _ _ _ he).elim | exact (let ⟨_,_,hF⟩:=he; (hg _ _ hF).elim))⟩
            | exact ⟨WF_depth,rowsIn_WF h1⟩
      | halt x w'=>cases x <;> simp only [Oper.upon,Oper.uponIn] at h1 ⊢ <;> first | exact (hp _ _ _ h1).elim | exact h1.elim
theorem wpAnyIn_of_K {ro:Option Nat} {md:Region.Mode} {ops:Array Oper} {K:Act→World→Prop} {Q:Exit→Act→World→Prop} {m:List Nat} {S:World→Prop} (hd:noDefer ops=true) (hQ:∀a w,K a w→Q .normal a w) :
    ∀(fuel:Nat) (listed:Array Bool) (a:Act) (w:World),wpAnyK P md ops (fun e a w=>match e with | .normal=>K a w | _=>False) m S fuel listed a w→wpAnyIn (WF ro) 0 P md ops Q fuel listed a w
  | 0,_,_,_,h=>⟨h.1,hQ _ _ h.2⟩
  | fuel + 1,_,_,_,h=>⟨fun e=>hQ _ _ (h.1 e),fun i hi=>wpOpIn_of hd (fun _ _ _ q=>q) (fun _ _ q=>q) (wpOp_mono (fun a' w' h'=>wpAnyIn_of_K hd hQ fuel _ a' w' h'.2) (h.2 i hi))⟩
def cl:Code→Code | .seq x _=>x | .cond _ x _=>x | .block _ x=>x | .loop x=>x | .scope x=>x | _=> .skip
def cr:Code→Code | .seq _ y=>y | .cond _ _ y=>y | _=> .skip
def cops:Code→Array Oper | .region _ ops _=>ops | _=> #[]
def isSeq:Code→Bool | .seq _ _=>true | _=>false
def isReg (d:Bool):Code→Bool | .region _ _ b=>b == d | _=>false
def isLoop:Code→Bool | .loop _=>true | _=>false
def blockId:Code→Option Nat | .block id _=>some id | _=>none
def exitId:Code→Option Nat | .exit id=>some id | _=>none
def isRet:Code→Bool | .ret=>true | _=>false
def isSkip:Code→Bool | .skip=>true | .label _=>true | _=>false
def condX:Code→Option Operand | .cond c _ _=>some c | _=>none
variable {ro : Option Nat} {c : Code} {Q : Exit → Act → World → Prop}
theorem w_seq (hc:isSeq c=true) (k:(cl c).cw ro P (Exit.then (fun a w=>(cr c).cw ro P Q a w) Q) a w):c.cw ro P Q a w:=by
  cases c <;> simp [isSeq] at hc
  exact wpIn_seq k
theorem n_then {K:Act→World→Prop} (k:K a w):Exit.then K Q .normal a w:=k
theorem x_then {K:Act→World→Prop} {id:Nat} (k:Q (.exit id) a w):Exit.then K Q (.exit id) a w:=k
theorem r_then {K:Act→World→Prop} (k:Q .ret a w):Exit.then K Q .ret a w:=k
theorem w_block {id:Nat} (hc:blockId c=some id) (k:(cl c).cw ro P (Exit.inBlock id Q) a w):c.cw ro P Q a w:=by
  cases c <;> simp [blockId] at hc
  subst hc
  exact wpIn_block k
theorem n_block {id:Nat} (k:Q .normal a w):Exit.inBlock id Q .normal a w:=k
theorem r_block {id:Nat} (k:Q .ret a w):Exit.inBlock id Q .ret a w:=k
theorem x_block {id:Nat} (k:Q .normal a w):Exit.inBlock id Q (.exit id) a w:=by simpa [Exit.inBlock] using k
theorem x_pass {id i:Nat} (hne:Nat.beq i id=false) (k:Q (.exit i) a w):Exit.inBlock id Q (.exit i) a w:=by
  simpa [Exit.inBlock,Nat.ne_of_beq_eq_false hne] using k
theorem w_exit {id:Nat} (hc:exitId c=some id) (k:Q (.exit id) a w):c.cw ro P Q a w:=by
  cases c <;> simp [exitId] at hc
  subst hc
  exact wpIn_exit k
theorem w_ret (hc:isRet c=true) (k:Q .ret a w):c.cw ro P Q a w:=by
  cases c <;> simp [isRet] at hc
  exact wpIn_ret k
theorem w_skip (hc:isSkip c=true) (k:Q .normal a w):c.cw ro P Q a w:=by
  cases c <;> simp [isSkip] at hc
  · exact wpIn_skip k
  · exact wpIn_label k
section
variable {b : Frame} {k : List Item} {cs : List Frame}
end
theorem w_mid (hc:isSeq c=true) (M:Act→World→Prop) (k1:(cl c).cw ro P (Exit.then M Q) a w) (k2:∀a w,M a w→(cr c).cw ro P Q a w):c.cw ro P Q a w:=by
  refine w_seq hc (wpIn_mono k1 ?_)
  intro e a w q
  cases e <;> first | exact k2 _ _ q | exact q
def condV (c:Code) (fl:FL):Option Value:=match condX c with | some (.tmp t)=>look fl t | _=>none
theorem w_if {b:Bool} (hf:Fr a N fl ds) (hc:condV c fl=some (.bool b)) (kt:b=true→(cl c).cw ro P Q a w) (ke:b=false→(cr c).cw ro P Q a w):c.cw ro P Q a w:=by
  cases c with
  | cond x th el =>
    cases x with
    | tmp t =>
      simp only [condV,condX] at hc
      refine wpIn_cond_split (t:=b) ?_ kt ke
      simp only [Act.eval]
      exact hf.getD hc
    | _=>simp [condV,condX] at hc
  | _=>simp [condV,condX] at hc
theorem w_if_true (hf:Fr a N fl ds) (hc:condV c fl=some (.bool true)) (k:(cl c).cw ro P Q a w):c.cw ro P Q a w:=w_if hf hc (fun _=>k) (fun e=>by cases e)
theorem w_if_false (hf:Fr a N fl ds) (hc:condV c fl=some (.bool false)) (k:(cr c).cw ro P Q a w):c.cw ro P Q a w:=w_if hf hc (fun e=>by cases e) (fun _=>k)
theorem w_loop (hc:isLoop c=true) (T:Nat→Act→World→Prop) (n:Nat) (h0:T n a w)
    (k:∀n a w,T n a w→(cl c).cw ro P (Exit.then (fun a' w'=>∃j,j<n∧T j a' w') Q) a w):c.cw ro P Q a w:=by
  cases c <;> simp [isLoop] at hc
  rename_i body
  intro b ks cs hro hb hr
  have key:∀n a w,T n a w →
      ∃e a' w',Q e a' w'∧ArrivesIn (Machine.fenced P (WF ro)) P (lone (b.atR a (.code body:: .inLoop body::ks)) cs w) b ks cs e a' w':=by
    intro n
    induction n using Nat.strongRecOn with
    | _ n ih =>
      intro a w hT
      obtain ⟨e,a₁,w₁,hq,harr⟩:=k n a w hT b (.inLoop body::ks) cs hro hb hr
      cases e with
      | normal =>
        obtain ⟨j,hlt,hT₁⟩:=hq
        obtain ⟨e₂,a₂,w₂,hq₂,harr₂⟩:=ih j hlt a₁ w₁ hT₁
        exact ⟨e₂,a₂,w₂,hq₂, .of_steps (StepsIn.trans harr (.one (fenced_calm hb hr rfl) stepR_inLoop)) harr₂⟩
      | exit id=>exact ⟨_,a₁,w₁,hq, .pass (x:= .inLoop body) rfl (fun _ _=> .inl (by simp)) harr⟩
      | goto l=>exact ⟨_,a₁,w₁,hq, .pass (x:= .inLoop body) rfl (fun _ _=> .inl (by simp)) harr⟩
      | ret=>exact ⟨_,a₁,w₁,hq, .pass (x:= .inLoop body) rfl (fun _ _=> .inl (by simp)) harr⟩
      | panic ch=>exact ⟨_,a₁,w₁,hq, .pass (x:= .inLoop body) rfl (fun _ _=> .inl (by simp)) harr⟩
      | outgrown=>exact ⟨_,a₁,w₁,hq, .pass (x:= .inLoop body) rfl (fun _ _=> .inl (by simp)) harr⟩
  obtain ⟨e,a',w',hq,harr⟩:=key n a w h0
  exact ⟨e,a',w',hq, .of_steps (.one (fenced_calm hb hr rfl) stepR_loop) harr⟩
def planSeq (c:Code):List (Nat×Bool):=(List.range (cops c).size).map fun i=>(i,false)
theorem wpOpsIn_of_plan {Q:Exit→Act→World→Prop} (hd:noDefer R=true):∀(l:List Nat) (a:Act) (w:World),wpPlan P R m S K (l.map fun i=>(i,false)) a w→(∀a w,K a w→Q .normal a w)→wpOpsIn (WF ro) 0 P R Q l a w
  | [],a,w,k,hQ=>hQ a w k
  | i::l,a,w,k,hQ=>by
    rw [wpOpsIn_cons]
    have k':wpOp P R (fun _ _ _=>False) i (fun a' w'=>(m.contains i=false→S w')∧wpPlan P R m S K (l.map fun i=>(i,false)) a' w') a w:=k
    exact wpOpIn_mono (fun a' w' h3=>wpOpsIn_of_plan hd l a' w' h3.2 hQ) (wpOpIn_of hd (fun _ _ _ q=>q) (fun _ _ q=>q) k')
theorem w_reg (hc:(isReg false c && noDefer (cops c))=true) (k:wpPlan P (cops c) [] (fun _=>True) (fun a w=>Q .normal a w) (planSeq c) a w):c.cw ro P Q a w:=by
  simp only [Bool.and_eq_true] at hc
  obtain ⟨hc,hd⟩:=hc
  cases c <;> simp [isReg] at hc
  subst hc
  exact wpIn_region (wpOpsIn_of_plan hd _ _ _ k fun _ _ h=>h)
def drawOK (c:Code) (pl:List (Nat×Bool)) (m:List Nat):Bool :=
  (isReg true c && noDefer (cops c)) && (Region.noSelect (cops c) && (Nat.beq pl.length (cops c).size && normB .any (cops c) m pl (Array.replicate (cops c).size false)))
theorem w_regD (hm:P.follows .mixedOrders=true) (pl:List (Nat×Bool)) (m:List Nat) (S:World→Prop) (hB:drawOK c pl m=true) (hS0:S w.drew)
    (k:wpPlan P (cops c) m S (fun a w=>Q .normal a w) pl a w.drew):c.cw ro P Q a w:=by
  simp only [drawOK,Bool.and_eq_true] at hB
  obtain ⟨⟨hc,hd⟩,hs,hl,hn⟩:=hB
  cases c <;> simp [isReg] at hc
  rename_i id ops b
  subst hc
  have hl':pl.length=ops.size:=Nat.eq_of_beq_eq_true hl
  have k1:=wpAnyK_plan hs pl _ a w.drew (Closed.none _) (by simp) (fun _=>hS0) hn k
  have k2:=wpAnyIn_of_K (ro:=ro) (Q:=Q) hd (fun _ _ h=>h) _ _ _ _ k1
  rw [hl'] at k2
  exact wpIn_region_any hm k2
abbrev anyK (P:Program) (ops:Array Oper) (K:Act→World→Prop) (m:List Nat) (S:World→Prop) (fuel:Nat) (listed:Array Bool) (a:Act) (w:World):Prop :=
  wpAnyK P .any ops (fun e a w=>match e with | .normal=>K a w | _=>False) m S fuel listed a w
def drawB (c:Code):Bool:=(isReg true c && noDefer (cops c)) && Region.noSelect (cops c)
theorem w_regB (hm:P.follows .mixedOrders=true) (m:List Nat) (S:World→Prop) (hB:drawB c=true)
    (k:anyK P (cops c) (fun a w=>Q .normal a w) m S (cops c).size (Array.replicate (cops c).size false) a w.drew):c.cw ro P Q a w:=by
  simp only [drawB,Bool.and_eq_true] at hB
  obtain ⟨⟨hc,hd⟩,hs⟩:=hB
  cases c <;> simp [isReg] at hc
  rename_i id ops b
  subst hc
  exact wpIn_region_any hm (wpAnyIn_of_K (ro:=ro) (Q:=Q) hd (fun _ _ h=>h) _ _ _ _ k)
def setL (pl:List (Nat×Bool)) (listed:Array Bool):Array Bool:=pl.foldl (fun l p=>l.setIfInBounds p.1 true) listed
def segB (ops:Array Oper) (m:List Nat):List (Nat×Bool)→Array Bool→Bool
  | [],_=>true
  | (i,true)::rest,listed=>(Region.ready .any ops listed).contains i && Region.free .any ops listed i && !m.contains i && segB ops m rest (listed.setIfInBounds i true)
  | (i,false)::rest,listed=>(match Region.ready .any ops listed with | [j]=>Nat.beq i j | _=>false) && segB ops m rest (listed.setIfInBounds i true)
structure At (ops:Array Oper) (m:List Nat) (S:World→Prop) (listed:Array Bool) (w:World):Prop where
  cl:Closed .any ops listed
  sz:listed.size=ops.size
  s:noLate m listed→S w
theorem At.start {ops:Array Oper} {m:List Nat} {S:World→Prop} {w:World} (h:S w):At ops m S (Array.replicate ops.size false) w:=⟨Closed.none _,by simp,fun _=>h⟩
theorem k_seg {ops:Array Oper} {m:List Nat} {S:World→Prop} (hs:Region.noSelect ops=true) (n:Nat):∀(pl:List (Nat×Bool)) {listed:Array Bool} {a:Act} {w:World},At ops m S listed w→segB ops m pl listed=true →
    wpPlan P ops m S (fun a w=>At ops m S (setL pl listed) w→anyK P ops K m S n (setL pl listed) a w) pl a w→anyK P ops K m S (pl.length + n) listed a w
  | [],listed,a,w,hA,_,h=>by
    have e0:([]:List (Nat×Bool)).length + n=n:=by simp
    rw [e0]
    exact h hA
  | (i,true)::rest,listed,a,w,hA,hB,h=>by
    simp only [segB,Bool.and_eq_true] at hB
    obtain ⟨⟨⟨hr,hf⟩,him⟩,hB'⟩:=hB
    have hr':i∈Region.ready .any ops listed:=by simpa using hr
    have him':i∉m:=by simpa using him
    obtain ⟨o,v,hi,hy,hrest⟩:=h
    have hrec:=k_seg hs n rest (listed:=listed.setIfInBounds i true) ⟨hA.cl.set hr',by simp [hA.sz],fun h=>hA.s h.unset⟩ hB' hrest
    have e0:((i,true)::rest).length + n=(rest.length + n) + 1:=by simp only [List.length_cons]; omega
    rw [e0]
    rcases hy with ⟨hy,hS,hl⟩ | hy
    · exact wpAnyK_first hl hi (Region.noSelect_spec hs) (fun _ _ _ h=>h) _ listed a w hA.cl hA.sz (Region.free_spec hi hf) hr' hy hS hrec
    · exact wpAnyK_firstP him' hi (Region.noSelect_spec hs) (fun _ _ _ h=>h) _ listed a w (Region.free_spec hi hf) hr' hy hA.s hrec
  | (i,false)::rest,listed,a,w,hA,hB,h=>by
    simp only [segB,Bool.and_eq_true] at hB
    obtain ⟨hr,hB'⟩:=hB
    have hready:Region.ready .any ops listed=[i]:=by
      split at hr
      · rename_i j hj; have:=Nat.eq_of_beq_eq_true hr; subst this; exact hj
      · cases hr
    have e0:((i,false)::rest).length + n=(rest.length + n) + 1:=by simp only [List.length_cons]; omega
    rw [e0]
    refine ⟨fun h0=>(by rw [hready] at h0; cases h0),fun j hj=>?_⟩
    have hj0:=hj
    rw [hready] at hj
    simp only [List.mem_singleton] at hj
    subst hj
    have h':wpOp P ops (fun _ _ _=>False) j (fun a' w'=>(m.contains j=false→S w')∧wpPlan P ops m S (fun a w=>At ops m S (setL ((j,false)::rest) listed) w→anyK P ops K m S n (setL ((j,false)::rest) listed) a w) rest a' w') a w:=h
    refine wpOp_mono (fun a' w' h3=>?_) (wpOp_post (fun e a w hF=>hF.elim) h')
    have hS':noLate m (listed.setIfInBounds j true)→S w':=fun hn=>h3.1 (by
      have:=hn.not_mem (unlisted_lt (mem_ready.1 hj0).1)
      simpa using this)
    exact ⟨hS',k_seg hs n rest ⟨hA.cl.set hj0,by simp [hA.sz],hS'⟩ hB' h3.2⟩
theorem k_any {ops:Array Oper} {m:List Nat} {S:World→Prop} {n:Nat} {listed:Array Bool} {a:Act} {w:World} (is:List Nat) (hA:At ops m S listed w) (hr:Region.ready .any ops listed=is) (hne:is.isEmpty=false)
    (k:∀i∈is,wpPlan P ops m S (fun a w=>At ops m S (listed.setIfInBounds i true) w→anyK P ops K m S n (listed.setIfInBounds i true) a w) [(i,false)] a w):anyK P ops K m S (n + 1) listed a w:=by
  refine ⟨fun h0=>(by rw [hr] at h0; subst h0; cases hne),fun j hj=>?_⟩
  have hj0:=hj
  rw [hr] at hj
  have h':wpOp P ops (fun _ _ _=>False) j (fun a' w'=>(m.contains j=false→S w')∧(At ops m S (listed.setIfInBounds j true) w'→anyK P ops K m S n (listed.setIfInBounds j true) a' w')) a w:=k j hj
  refine wpOp_mono (fun a' w' h3=>?_) (wpOp_post (fun e a w hF=>hF.elim) h')
  have hS':noLate m (listed.setIfInBounds j true)→S w':=fun hn=>h3.1 (by
    have:=hn.not_mem (unlisted_lt (mem_ready.1 hj0).1)
    simpa using this)
  exact ⟨hS',h3.2 ⟨hA.cl.set hj0,by simp [hA.sz],hS'⟩⟩
theorem k_seg' {ops:Array Oper} {m:List Nat} {S:World→Prop} {t:Nat} {listed:Array Bool} {a:Act} {w:World} (n:Nat) (pl:List (Nat×Bool)) (hs:Region.noSelect ops=true) (ht:Nat.beq t (pl.length + n)=true) (hA:At ops m S listed w) (hB:segB ops m pl listed=true)
    (k:wpPlan P ops m S (fun a w=>At ops m S (setL pl listed) w→anyK P ops K m S n (setL pl listed) a w) pl a w):anyK P ops K m S t listed a w:=by
  rw [Nat.eq_of_beq_eq_true ht]; exact k_seg hs n pl hA hB k
theorem k_any' {ops:Array Oper} {m:List Nat} {S:World→Prop} {t:Nat} {listed:Array Bool} {a:Act} {w:World} (n:Nat) (is:List Nat) (ht:Nat.beq t (n + 1)=true) (hA:At ops m S listed w) (hr:Region.ready .any ops listed=is) (hne:is.isEmpty=false)
    (k:∀i∈is,wpPlan P ops m S (fun a w=>At ops m S (listed.setIfInBounds i true) w→anyK P ops K m S n (listed.setIfInBounds i true) a w) [(i,false)] a w):anyK P ops K m S t listed a w:=by
  rw [Nat.eq_of_beq_eq_true ht]; exact k_any is hA hr hne k
theorem k_done' {ops:Array Oper} {m:List Nat} {S:World→Prop} {t:Nat} {listed:Array Bool} {a:Act} {w:World} (ht:Nat.beq t 0=true) (hr:(Region.ready .any ops listed).isEmpty=true) (k:K a w):anyK P ops K m S t listed a w:=by
  rw [Nat.eq_of_beq_eq_true ht]; exact ⟨by simpa using hr,k⟩
theorem all_nil {p:Nat→Prop}:∀i∈([]:List Nat),p i:=fun _ h=>by cases h
theorem all_cons {p:Nat→Prop} {j:Nat} {is:List Nat} (h1:p j) (h2:∀i∈is,p i):∀i∈j::is,p i:=fun i h=>by
  rcases List.mem_cons.1 h with h | h
  · subst h; exact h1
  · exact h2 i h
theorem p_done (hp:pl.isEmpty=true) (k:K a w):wpPlan P R m S K pl a w:=by
  cases pl with
  | nil=>exact k
  | cons _ _=>cases hp
def opAt (R:Array Oper) (N:Nat) (pl:List (Nat×Bool)) (fl:FL):Option (Nat×Oper) :=
  match pl with
  | (i,false)::_=>match R[i]? with
    | some o=>match wantedF R fl o with
      | some true=>bif (known fl o && (match o.dst with | some d=>Nat.blt d N | none=>true)) then some (i,o) else none
      | _=>none
    | none=>none
  | _=>none
theorem opAt_spec {i:Nat} {o:Oper} (h:opAt R N pl fl=some (i,o)) :
    ∃rest,pl=(i,false)::rest∧R[i]? =some o∧wantedF R fl o=some true∧known fl o=true∧(match o.dst with | some d=>Nat.blt d N | none=>true)=true:=by
  unfold opAt at h
  split at h
  · rename_i j rest
    cases hR:R[j]? with
    | none=>rw [hR] at h; simp at h
    | some o' =>
      rw [hR] at h
      simp only at h
      split at h
      · rename_i hw
        cases hk:(known fl o' && (match o'.dst with | some d=>Nat.blt d N | none=>true)) with
        | false=>rw [hk] at h; simp at h
        | true =>
          rw [hk] at h
          simp only [cond_true,Option.some.injEq,Prod.mk.injEq] at h
          obtain ⟨rfl,rfl⟩:=h
          simp only [Bool.and_eq_true] at hk
          exact ⟨rest,rfl,hR,hw,hk.1,hk.2⟩
      · cases h
  · cases h
theorem p_val {i:Nat} {o:Oper} {v:Value} {w':World} (hf:Fr a N fl ds) (ho:opAt R N pl fl=some (i,o)) (hrun:(execOp (ev fl) o).run P w= .ok (.value v) w')
    (k:∀a',Fr a' N (putF fl o.dst v) ds→(m.contains i=false→S w')∧wpPlan P R m S K pl.tail a' w'):wpPlan P R m S K pl a w:=by
  obtain ⟨rest,rfl,hR,hw,hk,hd⟩:=opAt_spec ho
  show wpOp P R (fun _ _ _=>False) i (fun a' w'=>(m.contains i=false→S w')∧wpPlan P R m S K rest a' w') a w
  unfold wpOp
  simp only [hR,wantedF_sound hf hw,if_true]
  refine .inl ?_
  unfold Oper.wp
  rw [hf.exec hk,hrun]
  exact k _ (hf.put hd v)
theorem p_skip {i:Nat} {o:Oper} {w':World} (hf:Fr a N fl ds) (ho:opAt R N pl fl=some (i,o)) (hrun:(execOp (ev fl) o).run P w= .ok .skip w')
    (k:∀a',Fr a' N (putF fl o.dst undef) ds→(m.contains i=false→S w')∧wpPlan P R m S K pl.tail a' w'):wpPlan P R m S K pl a w:=by
  obtain ⟨rest,rfl,hR,hw,hk,hd⟩:=opAt_spec ho
  show wpOp P R (fun _ _ _=>False) i (fun a' w'=>(m.contains i=false→S w')∧wpPlan P R m S K rest a' w') a w
  unfold wpOp
  simp only [hR,wantedF_sound hf hw,if_true]
  refine .inl ?_
  unfold Oper.wp
  rw [hf.exec hk,hrun]
  exact k _ (hf.put hd undef)
theorem p_enter {i:Nat} {o:Oper} {f:FuncId} {args:Array Value} (hf:Fr a N fl ds) (ho:opAt R N pl fl=some (i,o)) (hrun:(execOp (ev fl) o).run P w= .ok (.enter f args) w)
    {Φ:Value→World→Prop} (hc:Calls P f args w fun e w'=>∃v,e= .returned v∧Φ v w')
    (k:∀v w' a',Φ v w'→Fr a' N (putF fl o.dst v) ds→(m.contains i=false→S w')∧wpPlan P R m S K pl.tail a' w'):wpPlan P R m S K pl a w:=by
  obtain ⟨rest,rfl,hR,hw,hk,hd⟩:=opAt_spec ho
  show wpOp P R (fun _ _ _=>False) i (fun a' w'=>(m.contains i=false→S w')∧wpPlan P R m S K rest a' w') a w
  unfold wpOp
  simp only [hR,wantedF_sound hf hw,if_true]
  refine .inl ?_
  unfold Oper.wp
  rw [hf.exec hk,hrun]
  refine Calls.mono hc ?_
  rintro e w' ⟨v,rfl,hΦ⟩
  exact k v w' _ hΦ (hf.put hd v)
def callAt (P:Program) (R:Array Oper) (N:Nat) (pl:List (Nat×Bool)) (fl:FL):Option (Nat×Option Nat×FuncId×Array Value) :=
  match opAt R N pl fl with
  | some (i,o)=>match runO P (execOp (ev fl) o) [] with
    | some (.enter f args,[],[])=>some (i,o.dst,f,args)
    | _=>none
  | none=>none
theorem p_call {i:Nat} {d:Option Nat} {f:FuncId} {args:Array Value} (hf:Fr a N fl ds) (ho:callAt P R N pl fl=some (i,d,f,args))
    {Φ:Value→World→Prop} (hc:Calls P f args w fun e w'=>∃v,e= .returned v∧Φ v w')
    (k:∀v w' a',Φ v w'→Fr a' N (putF fl d v) ds→(m.contains i=false→S w')∧wpPlan P R m S K pl.tail a' w'):wpPlan P R m S K pl a w:=by
  unfold callAt at ho
  cases h1:opAt R N pl fl with
  | none=>rw [h1] at ho; simp at ho
  | some t =>
    obtain ⟨i',o⟩:=t
    rw [h1] at ho
    simp only at ho
    split at ho
    · rename_i f' args' hr
      simp only [Option.some.injEq,Prod.mk.injEq] at ho
      obtain ⟨rfl,rfl,rfl,rfl⟩:=ho
      exact p_enter hf h1 (runO_sound _ hr (by simp)) hc k
    · cases ho
def runA {α:Type} (P:Program) (r:Nat):Sem α→Option (Obj×α)
  | .new o k=>match runO P (k r) [] with
    | some (x,[],[])=>some (o,x)
    | _=>none
  | .program k=>runA P r (k P)
  | .mark _ k=>runA P r k
  | _=>none
theorem runA_sound {α:Type} {w:World}:∀(s:Sem α) {o:Obj} {x:α},runA P w.heap.size s=some (o,x)→s.run P w= .ok x (w.alloc o):=by
  intro s
  induction s with
  | new o k ih =>
    intro o' x h
    simp only [runA] at h
    split at h
    · rename_i y hy
      simp only [Option.some.injEq,Prod.mk.injEq] at h
      obtain ⟨rfl,rfl⟩:=h
      exact runO_sound (w:=w.alloc o) _ hy (by simp)
    · cases h
  | program k ih=>intro o x h; exact ih P h
  | mark m k ih=>intro o x h; exact ih h
  | _=>intro o x h; simp [runA] at h
def newAt (P:Program) (R:Array Oper) (N:Nat) (pl:List (Nat×Bool)) (fl:FL) (r:Nat):Option (Nat×Option Nat×Obj×Value) :=
  match opAt R N pl fl with
  | some (i,o)=>match runA P r (execOp (ev fl) o) with
    | some (ob, .value v)=>some (i,o.dst,ob,v)
    | _=>none
  | none=>none
def pts (b:Nat) (o:Obj):Atom:=⟨fun _ z=>z=Hp.one b o,fun _ _ _ _ h=>h⟩
def box (b:Nat) (cs:List Value) (T:TypeId):Atom:=pts b (.cells cs.toArray T (0,0))
theorem p_new {i:Nat} {d:Option Nat} {o:Nat→Obj} {v:Nat→Value} (hS:St h L w) (hf:Fr a N fl ds) (he:∀b,newAt P R N pl fl b=some (i,d,o b,v b))
    (k:∀b w' a',St h (pts b (o b)::L) w'→Fr a' N (putF fl d (v b)) ds→(m.contains i=false→S w')∧wpPlan P R m S K pl.tail a' w'):wpPlan P R m S K pl a w:=by
  have he':=he w.heap.size
  unfold newAt at he'
  cases h1:opAt R N pl fl with
  | none=>rw [h1] at he'; simp at he'
  | some t =>
    obtain ⟨i',op⟩:=t
    rw [h1] at he'
    simp only at he'
    split at he'
    · rename_i ob v' hr
      simp only [Option.some.injEq,Prod.mk.injEq] at he'
      obtain ⟨rfl,rfl,rfl,rfl⟩:=he'
      exact p_val hf h1 (runA_sound _ hr) fun a' hf'=>k _ _ a' (hS.new _ _ rfl) hf'
    · cases he'
theorem p_box {i:Nat} {d:Option Nat} {cs:List Value} {T:TypeId} {v:Nat→Value} (hS:St h L w) (hf:Fr a N fl ds) (he:∀b,newAt P R N pl fl b=some (i,d, .cells cs.toArray T (0,0),v b))
    (k:∀b w' a',St h (box b cs T::L) w'→Fr a' N (putF fl d (v b)) ds→(m.contains i=false→S w')∧wpPlan P R m S K pl.tail a' w'):wpPlan P R m S K pl a w :=
  p_new (o:=fun _=> .cells cs.toArray T (0,0)) hS hf he k
theorem _root_.Go.Sl.St.box (s:St h L w) {i:Nat} {b:Nat} {cs:List Value} {T:TypeId} (hi:L[i]? =some (box b cs T)) {j:Nat} {v:Value} (hj:cs[j]? =some v):w.cell? ⟨b,j,none⟩=some v:=by
  obtain ⟨x,hx,hxw,_,_⟩:=s.focus hi
  have hx':x=Hp.one b (.cells cs.toArray T (0,0)):=hx
  subst hx'
  have h1:w.heap[b]? =some (.cells cs.toArray T (0,0)):=Hp.one_le.1 hxw
  simp [World.cell?,h1,hj]
def storeAt (P:Program) (R:Array Oper) (N:Nat) (pl:List (Nat×Bool)) (fl:FL):Option (Nat×Addr×List Value) :=
  match opAt R N pl fl with
  | some (i,o)=>match o.op,o.dst with
    | .store t ad x,none=>match ev fl ad,P.info? t with
      | .pointer (some A),some inf=>bif Nat.beq (ev fl x).cells.size inf.size then some (i,A,(ev fl x).cells.toList) else none
      | _,_=>none
    | _,_=>none
  | none=>none
def oneCells:List Value→Bool
  | []=>true
  | v::vs=>v.oneCell' && oneCells vs
theorem oneCells_spec:∀ {vs:List Value},oneCells vs=true→∀v∈vs,v.oneCell'=true
  | [],_,v,hv=>by cases hv
  | u::vs,h,v,hv=>by
    simp only [oneCells,Bool.and_eq_true] at h
    cases hv with
    | head=>exact h.1
    | tail _ hv=>exact oneCells_spec h.2 v hv
def splice (cs:List Value) (off:Nat) (vs:List Value):List Value:=cs.take off ++ vs ++ cs.drop (off + vs.length)
theorem storeAt_run {i:Nat} {A:Addr} {vs:List Value} {w':World} (ho:storeAt P R N pl fl=some (i,A,vs)) (hst:(storeCells A vs 0).run P w= .ok () w') :
    ∃o,opAt R N pl fl=some (i,o)∧o.dst=none∧(execOp (ev fl) o).run P w= .ok .skip w':=by
  unfold storeAt at ho
  cases h1:opAt R N pl fl with
  | none=>rw [h1] at ho; simp at ho
  | some t =>
    obtain ⟨i',o⟩:=t
    rw [h1] at ho
    simp only at ho
    split at ho
    · rename_i t ad x hop hdst
      split at ho
      · rename_i A' inf hA hinf
        cases hb:Nat.beq (ev fl x).cells.size inf.size with
        | false=>rw [hb] at ho; simp at ho
        | true =>
          rw [hb] at ho
          simp only [cond_true,Option.some.injEq,Prod.mk.injEq] at ho
          obtain ⟨rfl,rfl,rfl⟩:=ho
          refine ⟨o,rfl,hdst,?_⟩
          have hsz:(ev fl x).cells.size=inf.size:=Nat.eq_of_beq_eq_true hb
          simp [execOp,hop,Instr.storeAt,hA,Instr.sureAddr,storeVar,sizeOf,typeInfo,hinf,hsz,hst]
      · cases ho
    · cases ho
theorem p_store {i j:Nat} {b off:Nat} {vs cs:List Value} {T:TypeId} (hS:St h L w) (hf:Fr a N fl ds) (hj:L[j]? =some (box b cs T)) (ho:storeAt P R N pl fl=some (i,⟨b,off,none⟩,vs))
    (hfit:off + vs.length≤cs.length) (hone:oneCells vs=true)
    (k:∀w' a',St h (L.set j (box b (splice cs off vs) T)) w'→Fr a' N fl ds→(m.contains i=false→S w')∧wpPlan P R m S K pl.tail a' w'):wpPlan P R m S K pl a w:=by
  obtain ⟨x,hx,hxw,_,hset⟩:=hS.focus hj
  have hx':x=Hp.one b (.cells cs.toArray T (0,0)):=hx
  subst hx'
  have h1:w.heap[b]? =some (.cells cs.toArray T (0,0)):=Hp.one_le.1 hxw
  have hrun:=run_storeCells_at (P:=P) b off T vs 0 cs.toArray w h1 (by simpa using hfit) (oneCells_spec hone)
  simp only [Nat.add_zero] at hrun
  obtain ⟨o,hop,hd,hex⟩:=storeAt_run ho hrun
  refine p_skip hf hop hex fun a' hf'=>?_
  rw [hd] at hf'
  refine k _ a' (hset _ _ (Hp.one b (.cells (splice cs off vs).toArray T (0,0))) rfl (Hp.one_le.2 ?_) ?_ ?_ rfl rfl rfl) hf'
  · exact setRow_heap w b _ _ T (0,0) h1
  · intro k hk hne
    refine setRow_other w b k _ fun e=>?_
    subst e
    simp [Hp.one] at hne
  · intro k o' hk
    right
    unfold Hp.one at hk ⊢
    split at hk <;> simp_all
theorem p_store_eq {i j:Nat} {b off:Nat} {vs cs cs':List Value} {T:TypeId} (hS:St h L w) (hf:Fr a N fl ds) (hj:L[j]? =some (box b cs T)) (ho:storeAt P R N pl fl=some (i,⟨b,off,none⟩,vs))
    (hfit:(Nat.ble (off + vs.length) cs.length && oneCells vs)=true) (hcs:splice cs off vs=cs')
    (k:∀w' a',St h (L.set j (box b cs' T)) w'→Fr a' N fl ds→(m.contains i=false→S w')∧wpPlan P R m S K pl.tail a' w'):wpPlan P R m S K pl a w:=by
  simp only [Bool.and_eq_true] at hfit
  subst hcs
  exact p_store hS hf hj ho (Nat.le_of_ble_eq_true hfit.1) hfit.2 k
def resO (P:Program) (fl:FL):List ResultVar→List Value→Option (List Value×List Obl)
  | [],[]=>some ([],[])
  | .tmp t::rs,os=>match look fl t,resO P fl rs os with
    | some v,some (vs,obs)=>some (v::vs,obs)
    | _,_=>none
  | .cell t ty::rs,os=>match look fl t with
    | some (.pointer (some A))=>match runO P (loadVar ty A) os with
      | some (v,ls,os')=>match resO P fl rs os' with
        | some (vs,obs)=>some (v::vs,cellsObl ls ++ obs)
        | none=>none
      | none=>none
    | _=>none
  | _,_=>none
def resV:List Value→Value
  | [v]=>v
  | vs=> .tuple vs.toArray
def resOne (tmps:Array Value) (r:ResultVar):Sem Value :=
  match r with
  | .tmp t=>pure (tmps.getD t undef)
  | .cell a t=>do loadVar t (← asAddr (tmps.getD a undef))
theorem resO_sound (hf:Fr a N fl ds):∀ {rs:List ResultVar} {os vs:List Value} {obs:List Obl},resO P fl rs os=some (vs,obs)→HA w obs →
    (rs.mapM (resOne a.tmps)).run P w= .ok vs w
  | [],os,vs,obs,h,_=>by
    cases os with
    | nil=>simp only [resO,Option.some.injEq,Prod.mk.injEq] at h; obtain ⟨rfl,_⟩:=h; rfl
    | cons _ _=>simp [resO] at h
  | .tmp t::rs,os,vs,obs,h,hob=>by
    simp only [resO] at h
    split at h
    · rename_i v vs' obs' hl hr
      simp only [Option.some.injEq,Prod.mk.injEq] at h
      obtain ⟨rfl,rfl⟩:=h
      have h1:(resOne a.tmps (.tmp t)).run P w= .ok v w:=by simp only [resOne,Sem.run_pure,hf.getD hl]
      rw [List.mapM_cons,Sem.run_bind,h1,Result.andThen_ok,Sem.run_bind,resO_sound hf hr hob]
      rfl
    · cases h
  | .cell t ty::rs,os,vs,obs,h,hob=>by
    simp only [resO] at h
    split at h
    · rename_i A hl
      split at h
      · rename_i v ls os' hv
        split at h
        · rename_i vs' obs' hr
          simp only [Option.some.injEq,Prod.mk.injEq] at h
          obtain ⟨rfl,rfl⟩:=h
          have h0:=runO_sound (w:=w) _ hv (cellsObl_sound hob.left)
          have h1:(resOne a.tmps (.cell t ty)).run P w= .ok v w:=by
            simp only [resOne,Sem.run_bind,hf.getD hl,asAddr,Sem.run_pure,Result.andThen_ok,h0]
          rw [List.mapM_cons,Sem.run_bind,h1,Result.andThen_ok,Sem.run_bind,resO_sound hf hr hob.right]
          rfl
        · cases h
      · cases h
    · cases h
def resAt (P:Program) (fn:Func) (fl:FL) (os:List Value):Option (Value×List Obl) :=
  match resO P fl fn.results.toList os with
  | some (vs,obs)=>some (resV vs,obs)
  | none=>none
theorem resV_eq (vs:Array Value):resV vs.toList=(if h:vs.size=1 then vs[0] else .tuple vs):=by
  obtain ⟨l⟩:=vs
  match l with
  | []=>rfl
  | [v]=>rfl
  | _::_::_=>simp [resV]
abbrev outM (P:Program) (fn:Func) (R':Ending→World→Prop) (tmps:Array Value) (ds:List Nat) (w:World):Prop:=LeavesInM (WF none) 0 P fn tmps R' (marks ds) .returning w
abbrev postM (P:Program) (fn:Func) (R':Ending→World→Prop):Exit→Act→World→Prop:=bodyPostM (WF none) 0 P fn R'
theorem p_end {fn:Func} {R':Ending→World→Prop} {os:List Value} {v:Value} {obs:List Obl} (hf:Fr a N fl ds) (he:resAt P fn fl os=some (v,obs)) (hob:HA w obs) (k:R' (.returned v) w) :
    outM P fn R' a.tmps [] w:=by
  refine ⟨v,?_,k⟩
  unfold resAt at he
  split at he
  · rename_i vs obs' hr
    simp only [Option.some.injEq,Prod.mk.injEq] at he
    obtain ⟨rfl,rfl⟩:=he
    have h1:=resO_sound hf hr hob
    have h2:(fn.results.mapM (resOne a.tmps)).run P w= .ok vs.toArray w:=by
      rw [Array.mapM_eq_mapM_toList,map_eq_pure_bind,Sem.run_bind,h1]
      rfl
    have h3:results fn a.tmps=(do let vs ← fn.results.mapM (resOne a.tmps); pure (if h:vs.size=1 then vs[0] else .tuple vs)):=rfl
    rw [h3,Sem.run_bind,h2,Result.andThen_ok,Sem.run_pure, ← resV_eq]
  · cases he
theorem p_retM {fn:Func} {R':Ending→World→Prop} (hf:Fr a N fl ds) (k:outM P fn R' a.tmps ds w):postM P fn R' .ret a w:=by
  show LeavesInM (WF none) 0 P fn a.tmps R' a.defers .returning w
  rw [hf.defers]; exact k
theorem p_fallM {fn:Func} {R':Ending→World→Prop} (hf:Fr a N fl ds) (k:outM P fn R' a.tmps ds w):postM P fn R' .normal a w:=by
  show LeavesInM (WF none) 0 P fn a.tmps R' a.defers .returning w
  rw [hf.defers]; exact k
theorem p_ret {fn:Func} {R':Ending→World→Prop} {os:List Value} {v:Value} {obs:List Obl} (hf:Fr a N fl) (he:resAt P fn fl os=some (v,obs)) (hob:HA w obs) (k:R' (.returned v) w):postM P fn R' .ret a w:=p_retM hf (p_end hf he hob k)
theorem p_fall {fn:Func} {R':Ending→World→Prop} {os:List Value} {v:Value} {obs:List Obl} (hf:Fr a N fl) (he:resAt P fn fl os=some (v,obs)) (hob:HA w obs) (k:R' (.returned v) w):postM P fn R' .normal a w:=p_fallM hf (p_end hf he hob k)
def argFL (args:Array Value):FL:=args.toList.zipIdx.map fun (v,i)=>(i,v)
def bodyOf (fn:Func):Code:=fn.body.getD .skip
theorem look_zipIdx:∀(l:List Value) (n t:Nat) (v:Value),look ((l.zipIdx n).map fun (v,i)=>(i,v)) t=some v→n≤t∧l[t - n]? =some v
  | [],n,t,v,h=>by simp [look] at h
  | x::l,n,t,v,h=>by
    simp only [List.zipIdx_cons,List.map_cons,look] at h
    cases hb:Nat.beq n t with
    | true=>rw [hb] at h; have:=Nat.eq_of_beq_eq_true hb; subst this; simp only [cond_true] at h; simp [h]
    | false =>
      rw [hb] at h
      obtain ⟨h1,h2⟩:=look_zipIdx l (n + 1) t v h
      have hne:n≠t:=Nat.ne_of_beq_eq_false hb
      refine ⟨by omega,?_⟩
      rw [show t - n=(t - (n + 1)) + 1 by omega]
      simpa using h2
theorem calls_intro {f:FuncId} {fn:Func} {args:Array Value} {R':Ending→World→Prop} {N:Nat} (hfn:P.funcs[f]? =some fn) (hN:(fn.body.isSome && (Nat.beq (args.size + (fn.ntmps - args.size)) N))=true)
    (k:∀a,Fr a N (argFL args)→(bodyOf fn).cw none P (postM P fn R') a w):Calls P f args w R':=by
  simp only [Bool.and_eq_true] at hN
  obtain ⟨hb,hN⟩:=hN
  obtain ⟨c,hc⟩:=Option.isSome_iff_exists.1 hb
  refine (callsIn_WF (ro:=none) (n:=0)).1 (callsIn_of_wp_marks hfn hc trivial ?_)
  have:=k { tmps:=args ++ Array.replicate (fn.ntmps - args.size) undef,defers:=[] } ⟨by simp [Nat.eq_of_beq_eq_true hN],rfl,fun t v hl=>?_⟩
  · have h2:bodyOf fn=c:=by simp [bodyOf,hc]
    rw [h2] at this
    exact this
  · obtain ⟨_,h2⟩:=look_zipIdx args.toList 0 t v hl
    have hlt:t<args.size:=by
      have:=(List.getElem?_eq_some_iff.1 h2).1
      simpa using this
    simp only [Nat.sub_zero,Array.getElem?_toList] at h2
    simp only [Array.getElem?_append,hlt,if_true]
    exact h2
end Go.Sx
namespace Go.Sx
open Go.Sl
structure Ty (α:Type) where
  size:Nat
  rep:Zone→List Value→α→Prop
  len:∀ {h cs x},rep h cs x→cs.length=size
  one:∀ {h cs x},rep h cs x→∀v∈cs,v.oneCell'=true
  mono:∀ {h h' cs x},h.le h'→rep h cs x→rep h' cs x
def Rows {α:Type} (T:Ty α) (h:Zone):List Value→List α→Prop
  | cs,[]=>cs=[]
  | cs,x::xs=>∃c d,cs=c ++ d∧T.rep h c x∧Rows T h d xs
variable {α : Type} {T : Ty α} {h h' : Zone} {L : List Atom} {w : World}
theorem Rows.mono (k:h.le h'):∀ {xs:List α} {cs:List Value},Rows T h cs xs→Rows T h' cs xs
  | [],_,e=>e
  | _::_,_,⟨c,d,e,hc,hd⟩=>⟨c,d,e,T.mono k hc,Rows.mono k hd⟩
theorem Rows.len:∀ {xs:List α} {cs:List Value},Rows T h cs xs→cs.length=xs.length * T.size
  | [],_,e=>by simp only [Rows] at e; subst e; simp
  | x::xs,_,⟨c,d,e,hc,hd⟩=>by
    subst e
    rw [List.length_append,T.len hc,Rows.len hd,List.length_cons,Nat.add_mul,Nat.one_mul,Nat.add_comm]
theorem Rows.one:∀ {xs:List α} {cs:List Value},Rows T h cs xs→∀v∈cs,v.oneCell'=true
  | [],_,e,v,hv=>by simp only [Rows] at e; subst e; cases hv
  | x::xs,_,⟨c,d,e,hc,hd⟩,v,hv=>by
    subst e
    rcases List.mem_append.1 hv with hv | hv
    · exact T.one hc v hv
    · exact Rows.one hd v hv
theorem Rows.append:∀ {xs ys:List α} {cs ds:List Value},Rows T h cs xs→Rows T h ds ys→Rows T h (cs ++ ds) (xs ++ ys)
  | [],_,_,_,e,k=>by simp only [Rows] at e; subst e; exact k
  | x::xs,ys,_,ds,⟨c,d,e,hc,hd⟩,k=>by subst e; exact ⟨c,d ++ ds,List.append_assoc _ _ _,hc,Rows.append hd k⟩
theorem Rows.single {c:List Value} {x:α} (hc:T.rep h c x):Rows T h c [x]:=⟨c,[],by simp,hc,rfl⟩
theorem Rows.cons {c d:List Value} {x:α} {xs:List α} (hc:T.rep h c x) (hd:Rows T h d xs):Rows T h (c ++ d) (x::xs):=⟨c,d,rfl,hc,hd⟩
theorem Rows.get:∀ {xs:List α} {cs:List Value} {i:Nat} {x:α},Rows T h cs xs→xs[i]? =some x →
    ∃c,T.rep h c x∧∀j v,c[j]? =some v→cs[i * T.size + j]? =some v
  | x::xs,_,0,y,⟨c,d,e,hc,hd⟩,hi=>by
    simp only [List.getElem?_cons_zero,Option.some.injEq] at hi
    subst hi; subst e
    refine ⟨c,hc,fun j v hj=>?_⟩
    have hlt:j<c.length:=(List.getElem?_eq_some_iff.1 hj).1
    rw [Nat.zero_mul,Nat.zero_add,List.getElem?_append_left hlt]
    exact hj
  | x::xs,_,i + 1,y,⟨c,d,e,hc,hd⟩,hi=>by
    simp only [List.getElem?_cons_succ] at hi
    obtain ⟨c',hc',hg⟩:=Rows.get hd hi
    subst e
    refine ⟨c',hc',fun j v hj=>?_⟩
    have hl:=T.len hc
    rw [List.getElem?_append_right (by rw [hl,Nat.add_mul]; omega),hl]
    have:(i + 1) * T.size + j - T.size=i * T.size + j:=by rw [Nat.add_mul]; omega
    rw [this]
    exact hg j v hj
theorem Rows.take:∀ {xs:List α} {cs:List Value} (n:Nat),Rows T h cs xs→n≤xs.length→Rows T h (cs.take (n * T.size)) (xs.take n)
  | xs,cs,0,_,_=>by simp [Rows]
  | [],_,n + 1,_,hn=>by simp at hn
  | x::xs,_,n + 1,⟨c,d,e,hc,hd⟩,hn=>by
    subst e
    refine ⟨c,d.take (n * T.size),?_,hc,Rows.take n hd (by simpa using hn)⟩
    have hl:=T.len hc
    rw [List.take_append,hl,Nat.add_mul,Nat.one_mul,List.take_of_length_le (by omega)]
    congr 2
    omega
theorem Rows.drop:∀ {xs:List α} {cs:List Value} (n:Nat),Rows T h cs xs→n≤xs.length→Rows T h (cs.drop (n * T.size)) (xs.drop n)
  | xs,cs,0,k,_=>by simpa using k
  | [],_,n + 1,_,hn=>by simp at hn
  | x::xs,_,n + 1,⟨c,d,e,hc,hd⟩,hn=>by
    subst e
    have hl:=T.len hc
    have h1:=Rows.drop n hd (by simpa using hn)
    rw [List.drop_append,hl,Nat.add_mul,Nat.one_mul,List.drop_of_length_le (by omega),List.nil_append,List.drop_succ_cons]
    have:n * T.size + T.size - T.size=n * T.size:=by omega
    rw [this]
    exact h1
theorem Rows.set {xs:List α} {cs:List Value} {i:Nat} {x:α} (k:Rows T h cs xs) (hi:i<xs.length) {off:Nat} {vs:List Value}
    (hx:∀c,T.rep h c xs[i]→T.rep h (splice c off vs) x) (hoff:off + vs.length≤T.size):Rows T h (splice cs (i * T.size + off) vs) (xs.set i x):=by
  have e:cs=cs.take (i * T.size) ++ (cs.drop (i * T.size)).take T.size ++ cs.drop ((i + 1) * T.size):=by
    rw [List.append_assoc,Nat.add_mul,Nat.one_mul, ← List.drop_drop,List.take_append_drop,List.take_append_drop]
  have h1:=k.take i (by omega)
  have h3:=k.drop (i + 1) (by omega)
  have h2:T.rep h ((cs.drop (i * T.size)).take T.size) xs[i]:=by
    have h4:=k.drop i (by omega)
    rw [List.drop_eq_getElem_cons hi] at h4
    obtain ⟨c,d,e,hc,_⟩:=h4
    rw [e, ← T.len hc,List.take_left]
    exact hc
  have hlen:=k.len
  have l1:(cs.take (i * T.size)).length=i * T.size:=by
    rw [List.length_take,hlen]
    exact Nat.min_eq_left (Nat.mul_le_mul_right _ (by omega))
  have l2:=T.len h2
  have h2':=hx _ h2
  have:splice cs (i * T.size + off) vs=cs.take (i * T.size) ++ splice ((cs.drop (i * T.size)).take T.size) off vs ++ cs.drop ((i + 1) * T.size):=by
    unfold splice
    conv=>lhs; rw [e]
    generalize cs.take (i * T.size)=A at *
    generalize (cs.drop (i * T.size)).take T.size=B at *
    generalize cs.drop ((i + 1) * T.size)=D at *
    have t1:(A ++ B ++ D).take (i * T.size + off)=A ++ B.take off:=by
      rw [List.append_assoc,List.take_append,l1,List.take_of_length_le (by omega),List.take_append]
      have e0:i * T.size + off - i * T.size=off:=by omega
      rw [e0,l2]
      have e1:off - T.size=0:=by omega
      rw [e1,List.take_zero,List.append_nil]
    have t2:(A ++ B ++ D).drop (i * T.size + off + vs.length)=B.drop (off + vs.length) ++ D:=by
      rw [List.append_assoc,List.drop_append,l1,List.drop_of_length_le (by omega),List.nil_append,List.drop_append,l2]
      have e0:i * T.size + off + vs.length - i * T.size=off + vs.length:=by omega
      rw [e0]
      have e1:off + vs.length - T.size=0:=by omega
      rw [e1,List.drop_zero]
    rw [t1,t2]
    simp only [List.append_assoc]
  rw [this,List.set_eq_take_append_cons_drop,if_pos hi]
  rw [List.append_assoc]
  exact h1.append (Rows.cons h2' h3)
theorem add_add (a:Addr) (m n:Nat):(a.add m).add n=a.add (m + n):=by
  unfold Addr.add
  by_cases hm:m=0
  · subst hm; simp
  · by_cases hn:n=0
    · subst hn; simp [hm]
    · have:m + n≠0:=by omega
      simp [hm,hn,Nat.add_assoc]
theorem add_zero' (a:Addr):a.add 0=a:=by simp [Addr.add]
structure SliceR {α:Type} (T:Ty α) (h:Zone) (o:Option Addr) (cap:Nat) (xs:List α):Prop where
  hcap:xs.length≤cap
  hmax:cap≤maxLen
  hnil:o=none→xs=[]∧cap=0
  hat:∀a,o=some a→∀i x,xs[i]? =some x→∃c,T.rep h c x∧∀j v,c[j]? =some v→h.cell? ((a.add (i * T.size)).add j)=some v
theorem SliceR.mono (k:h.le h') {o:Option Addr} {cap:Nat} {xs:List α} (s:SliceR T h o cap xs):SliceR T h' o cap xs :=
  ⟨s.hcap,s.hmax,s.hnil,fun a e i x hx=>let ⟨c,hc,hj⟩:=s.hat a e i x hx; ⟨c,T.mono k hc,fun j v e=>k.cell (hj j v e)⟩⟩
def getI {α:Type} (xs:List α) (i:Int):Option α:=if 0≤i then xs[i.toNat]? else none
theorem getI_spec {xs:List α} {i:Int} {x:α} (e:getI xs i=some x):(0≤i∧i<xs.length)∧xs[i.toNat]? =some x:=by
  unfold getI at e
  split at e
  · rename_i h0
    have:=(List.getElem?_eq_some_iff.1 e).1
    exact ⟨⟨h0,by omega⟩,e⟩
  · cases e
theorem getI_of {xs:List α} {i:Nat} (hi:i<xs.length):getI xs (i:Int)=some xs[i]:=by simp [getI,hi]
theorem SliceR.getI {o:Option Addr} {cap:Nat} {xs:List α} {i:Int} {x:α} (s:SliceR T h o cap xs) (e:Sx.getI xs i=some x) :
    ∃a,o=some a∧(0≤i∧i<xs.length)∧∃c,T.rep h c x∧∀j v,c[j]? =some v→h.cell? ((a.add (i.toNat * T.size)).add j)=some v:=by
  obtain ⟨hb,hx⟩:=getI_spec e
  cases o with
  | none =>
    obtain ⟨rfl,_⟩:=s.hnil rfl
    simp at hx
  | some a=>exact ⟨a,rfl,hb,s.hat a rfl _ _ hx⟩
theorem SliceR.nil' (T:Ty α) (h:Zone):SliceR T h none 0 []:=⟨by simp,by simp,fun _=>⟨rfl,rfl⟩,fun a e=>by cases e⟩
def subI {α:Type} (xs:List α) (lo hi:Int):Option (List α):=if 0≤lo∧lo≤hi∧hi≤xs.length then some ((xs.take hi.toNat).drop lo.toNat) else none
theorem subI_spec {xs ys:List α} {lo hi:Int} (e:subI xs lo hi=some ys):(0≤lo∧lo≤hi∧hi≤xs.length)∧ys=(xs.take hi.toNat).drop lo.toNat:=by
  unfold subI at e
  split at e
  · rename_i hc; simp only [Option.some.injEq] at e; exact ⟨hc,e.symm⟩
  · cases e
theorem subI_len {xs ys:List α} {lo hi:Int} (e:subI xs lo hi=some ys):ys.length=hi.toNat - lo.toNat:=by
  obtain ⟨hc,rfl⟩:=subI_spec e
  simp only [List.length_drop,List.length_take]
  omega
theorem SliceR.sub {o:Option Addr} {cap:Nat} {xs ys:List α} {lo hi:Int} (s:SliceR T h o cap xs) (e:subI xs lo hi=some ys):SliceR T h (subO o cap lo.toNat T.size) (cap - lo.toNat) ys:=by
  obtain ⟨⟨h0,h1,h2⟩,hy⟩:=subI_spec e
  have hl:=subI_len e
  have hcap:=s.hcap
  refine ⟨by omega,by have:=s.hmax; omega,fun hn=>?_,fun a ha i x hx=>?_⟩
  · unfold subO at hn
    have ho:o=none:=by
      split at hn
      · exact hn
      · simpa using hn
    obtain ⟨rfl,rfl⟩:=s.hnil ho
    simp at h2
    have:ys.length=0:=by rw [hl]; omega
    exact ⟨List.eq_nil_of_length_eq_zero this,by omega⟩
  · have hx':xs[lo.toNat + i]? =some x:=by
      rw [hy,List.getElem?_drop,List.getElem?_take] at hx
      split at hx
      · exact hx
      · cases hx
    have hlt:lo.toNat + i<xs.length:=(List.getElem?_eq_some_iff.1 hx').1
    have hne:cap≠lo.toNat:=by omega
    unfold subO at ha
    rw [if_neg hne] at ha
    cases o with
    | none=>cases ha
    | some b =>
      simp only [Option.map_some,Option.some.injEq] at ha
      subst ha
      obtain ⟨c,hc,hj⟩:=s.hat b rfl _ _ hx'
      refine ⟨c,hc,fun j v e=>?_⟩
      have:=hj j v e
      rw [Nat.add_mul, ← add_add] at this
      exact this
theorem SliceR.subV {o:Option Addr} {cap:Nat} {xs ys:List α} {lo hi:Int} (s:SliceR T h o cap xs) (e:subI xs lo hi=some ys) :
    ∃o' c',(Value.slice o' ys.length c'= .slice (subO o cap lo.toNat T.size) (hi.toNat - lo.toNat) (cap - lo.toNat))∧(0≤lo∧lo≤hi∧hi≤(cap:Int)∧xs.length≤cap)∧SliceR T h o' c' ys:=by
  have hs:=s.sub e
  obtain ⟨⟨h0,h1,h2⟩,_⟩:=subI_spec e
  have hl:=subI_len e
  have hcap:=s.hcap
  exact ⟨_,_,by rw [hl],⟨h0,h1,by omega,hcap⟩,hs⟩
theorem subO_zero (o:Option Addr) (cap size:Nat):subO o cap 0 size=o:=by
  unfold subO
  split
  · rfl
  · cases o <;> simp [add_zero']
def Ty.int:Ty Int:=⟨1,fun _ cs n=>cs=[.int .i64 n],fun e=>by subst e; rfl,fun e v hv=>by subst e; simp at hv; subst hv; rfl,fun _ e=>e⟩
def Ty.bool:Ty Bool:=⟨1,fun _ cs b=>cs=[.bool b],fun e=>by subst e; rfl,fun e v hv=>by subst e; simp at hv; subst hv; rfl,fun _ e=>e⟩
def Ty.flat (n:Nat) (f:α→List Value) (hn:∀x,(f x).length=n) (h1:∀x,oneCells (f x)=true):Ty α :=
  ⟨n,fun _ cs x=>cs=f x,fun e=>by subst e; exact hn _,fun e v hv=>by subst e; exact oneCells_spec (h1 _) v hv,fun _ e=>e⟩
def Ty.slice (T:Ty α):Ty (List α) :=
  ⟨1,fun h cs xs=>∃o cap,cs=[.slice o xs.length cap]∧SliceR T h o cap xs,fun ⟨_,_,e,_⟩=>by subst e; rfl,
    fun ⟨_,_,e,_⟩ v hv=>by subst e; simp at hv; subst hv; rfl,fun k ⟨o,cap,e,s⟩=>⟨o,cap,e,s.mono k⟩⟩
def Ty.arr (n:Nat) (T:Ty α):Ty (List α) :=
  ⟨n * T.size,fun h cs xs=>xs.length=n∧Rows T h cs xs,fun ⟨hl,k⟩=>by rw [k.len,hl],fun ⟨_,k⟩=>k.one,fun k ⟨hl,e⟩=>⟨hl,e.mono k⟩⟩
def OwnP {α:Type} (T:Ty α) (E:TypeId) (o:Option Addr) (cap:Nat) (xs:List α) (h:Zone) (z:Hp):Prop :=
  (o=none∧cap=0∧xs=[]∧z=Hp.nil) ∨
  ∃g cur,o=some ⟨g,0,none⟩∧z=Hp.one g (.cells cur E (0,0))∧xs.length≤cap∧cap≤maxLen∧cur.size=cap * T.size∧Rows T h (cur.toList.take (xs.length * T.size)) xs
def ownS {α:Type} (T:Ty α) (E:TypeId) (o:Option Addr) (cap:Nat) (xs:List α):Atom :=
  ⟨OwnP T E o cap xs,fun _ _ _ k e=>e.imp id fun ⟨g,cur,e1,e2,e3,e4,e5,e6⟩=>⟨g,cur,e1,e2,e3,e4,e5,e6.mono k⟩⟩
variable {E : TypeId} {o : Option Addr} {cap : Nat} {xs : List α}
theorem _root_.Go.Sl.St.ownNil (s:St h L w) (T:Ty α) (E:TypeId):St h (ownS T E none 0 []::L) w:=by
  obtain ⟨z,hz,hd,hb,hzw⟩:=s.sep
  exact ⟨⟨z,⟨Hp.nil,z, .inl ⟨rfl,rfl,rfl,rfl⟩,hz,Hp.apart_comm (Hp.apart_nil _),rfl⟩,hd,hb,hzw⟩,s.os,s.tape,s.output⟩
theorem _root_.Go.Sl.St.conv (s:St h L w) {i:Nat} {A B:Atom} (hi:L[i]? =some A) (k:∀z,A.P h z→B.P h z):St h (L.set i B) w:=by
  obtain ⟨z,hz,hd,hb,hzw⟩:=s.sep
  obtain ⟨x,y,hx,dxy,e,hset⟩:=hz.focus hi
  subst e
  exact ⟨⟨_,hset h B x (Zone.le_refl h) (k x hx) dxy,hd,hb,hzw⟩,s.os,s.tape,s.output⟩
theorem _root_.Go.Sl.St.ownBox (s:St h L w) {i b:Nat} {cs:List Value} {n:Nat} (hi:L[i]? =some (box b cs E)) (hr:Rows T h cs xs) (hn:xs.length=n) (hmax:n≤maxLen) :
    St h (L.set i (ownS T E (some ⟨b,0,none⟩) n xs)) w:=by
  subst hn
  refine s.conv hi fun z hz=> .inr ⟨b,cs.toArray,rfl,hz,Nat.le_refl _,hmax,by simp [hr.len],?_⟩
  have:=hr.len
  show Rows T h (cs.take (xs.length * T.size)) xs
  rw [← this,List.take_length]
  exact hr
theorem OwnP.read {z:Hp} (k:OwnP T E o cap xs h z) (hz:z.le (fun b=>w.heap[b]?)):(o=none→xs=[]∧cap=0)∧xs.length≤cap∧cap≤maxLen ∧
    ∀a,o=some a→∃cs,Rows T h cs xs∧∀j v,cs[j]? =some v→w.cell? (a.add j)=some v:=by
  rcases k with ⟨rfl,rfl,rfl,rfl⟩ | ⟨g,cur,rfl,rfl,h1,h2,h3,h4⟩
  · exact ⟨fun _=>⟨rfl,rfl⟩,by simp,by simp,fun a e=>(by cases e)⟩
  · refine ⟨fun e=>(by cases e),h1,h2,fun a e=>?_⟩
    cases e
    refine ⟨_,h4,fun j v hj=>?_⟩
    have hg:w.heap[g]? =some (.cells cur E (0,0)):=Hp.one_le.1 hz
    rw [List.getElem?_take] at hj
    split at hj
    · have hadd:(⟨g,0,none⟩:Addr).add j=⟨g,j,none⟩:=by unfold Addr.add; split <;> simp_all
      rw [hadd]
      simpa [World.cell?,hg] using hj
    · cases hj
theorem _root_.Go.Sl.St.ownGet (s:St h L w) {j:Nat} (hj:L[j]? =some (ownS T E o cap xs)) {i:Int} {x:α} (e:Sx.getI xs i=some x) :
    ∃a,o=some a∧(0≤i∧i<xs.length)∧∃c,T.rep h c x∧∀k v,c[k]? =some v→w.cell? ((a.add (i.toNat * T.size)).add k)=some v:=by
  obtain ⟨z,hz,hzw,_,_⟩:=s.focus hj
  obtain ⟨hnil,hcap,hmax,hat⟩:=OwnP.read hz hzw
  obtain ⟨hb,hx⟩:=getI_spec e
  cases o with
  | none=>obtain ⟨rfl,_⟩:=hnil rfl; simp at hx
  | some a =>
    obtain ⟨cs,hr,hc⟩:=hat a rfl
    obtain ⟨c,hrep,hg⟩:=hr.get hx
    exact ⟨a,rfl,hb,c,hrep,fun k v hk=>by rw [add_add]; exact hc _ _ (hg k v hk)⟩
theorem _root_.Go.Sl.St.ownNilOf (s:St h L w) {j:Nat} (hj:L[j]? =some (ownS T E o cap xs)):(o=none→xs=[]∧cap=0)∧xs.length≤cap∧cap≤maxLen:=by
  obtain ⟨z,hz,hzw,_,_⟩:=s.focus hj
  obtain ⟨hnil,hcap,hmax,hat⟩:=OwnP.read hz hzw
  exact ⟨hnil,hcap,hmax⟩
theorem _root_.Go.Sl.St.share (s:St h L w) {j:Nat} (hj:L[j]? =some (ownS T E o cap xs)):∃h',h.le h'∧St h' (L.set j emp) w∧SliceR T h' o cap xs:=by
  obtain ⟨h',x,hle,hx,hxb,hs⟩:=s.freeze hj
  refine ⟨h',hle,hs,?_⟩
  have hx':OwnP T E o cap xs h' x:=hx
  rcases hx' with ⟨rfl,rfl,rfl,rfl⟩ | ⟨g,cur,rfl,rfl,h1,h2,h3,h4⟩
  · exact SliceR.nil' T h'
  · refine ⟨h1,h2,fun e=>(by cases e),fun a e i y hy=>?_⟩
    cases e
    obtain ⟨c,hc,hg⟩:=h4.get hy
    refine ⟨c,hc,fun k v hk=>?_⟩
    have hblk:h'.blk g=some (.cells cur E (0,0)):=Hp.one_le.1 hxb
    have:=hg k v hk
    rw [List.getElem?_take] at this
    split at this
    · rw [add_add]
      have hadd:(⟨g,0,none⟩:Addr).add (i * T.size + k)=⟨g,i * T.size + k,none⟩:=by unfold Addr.add; split <;> simp_all
      rw [hadd]
      simpa [Zone.cell?,hblk] using this
    · cases this
theorem _root_.Go.Sl.St.ownTake (s:St h L w) {j n:Nat} (hj:L[j]? =some (ownS T E o cap xs)) (hn:n≤xs.length):St h (L.set j (ownS T E o cap (xs.take n))) w:=by
  refine s.conv hj fun z hz=>?_
  rcases hz with ⟨rfl,rfl,rfl,rfl⟩ | ⟨g,cur,rfl,rfl,h1,h2,h3,h4⟩
  · exact .inl ⟨rfl,rfl,by simp,rfl⟩
  · have hl:(xs.take n).length=n:=by rw [List.length_take]; omega
    refine .inr ⟨g,cur,rfl,rfl,by omega,h2,h3,?_⟩
    have:=h4.take n hn
    rw [List.take_take,Nat.min_eq_left (Nat.mul_le_mul_right _ hn)] at this
    rwa [hl]
theorem _root_.Go.Sl.St.ownSub (s:St h L w) {j:Nat} (hj:L[j]? =some (ownS T E o cap xs)) {hi:Int} {ys:List α} (e:subI xs 0 hi=some ys) :
    (Value.slice o ys.length cap= .slice (subO o cap (Int.toNat 0) T.size) (hi.toNat - Int.toNat 0) (cap - Int.toNat 0))∧(0≤(0:Int)∧0≤hi∧hi≤(cap:Int)∧xs.length≤cap)∧St h (L.set j (ownS T E o cap ys)) w:=by
  obtain ⟨⟨h0,h1,h2⟩,hy⟩:=subI_spec e
  have hl:=subI_len e
  obtain ⟨_,hc,_⟩:=s.ownNilOf hj
  refine ⟨by rw [hl]; simp [subO_zero],⟨by omega,h1,by omega,hc⟩,?_⟩
  have:=s.ownTake hj (n:=hi.toNat) (by omega)
  rw [hy]
  simpa using this
end Go.Sx
set_option linter.unusedVariables false
set_option linter.unusedSimpArgs false
namespace Go.Sl
open Go.Sx
variable {h : Zone} {L : List Atom} {w : World}
def exA (z:Hp):Atom:=⟨fun _ x=>x=z,fun _ _ _ _ h=>h⟩
theorem St.exact (s:St h L w):∃z,Sep h L z∧h.blk.apart z∧St h [exA z] w:=by
  obtain ⟨z,hz,hd,hb,hzw⟩:=s.sep
  exact ⟨z,hz,hd,⟨⟨z,⟨z,Hp.nil,rfl,rfl,Hp.apart_nil _,(Hp.add_nil z).symm⟩,hd,hb,hzw⟩,s.os,s.tape,s.output⟩⟩
end Go.Sl
namespace Go.Sx
open Go.Sl
variable {α : Type} {T : Ty α} {P : Program} {a : Act} {N : Nat} {fl : FL} {ds : List Nat} {w : World} {R : Array Oper} {m : List Nat} {S : World → Prop} {K : Act → World → Prop} {pl : List (Nat × Bool)} {h : Zone} {L : List Atom}
variable {E : TypeId} {o : Option Addr} {cap : Nat} {xs : List α}
structure ElemOK (P:Program) (t E:TypeId) (size:Nat) (z:Value):Prop where
  und:P.underlying t=some (.slice E)
  info:∃i,P.info? E=some i∧i.size=size∧i.bytes≤256∧i.zero=some z
  zs:z.cells.size=size
  pos:0<size
def SrcR {α:Type} (T:Ty α) (h:Zone) (w:World) (o:Option Addr) (ys:List α):Prop :=
  (o=none∧ys=[])∨∃a cs,o=some a∧Rows T h cs ys∧∀j v,cs[j]? =some v→w.cell? (a.add j)=some v
theorem SliceR.rows {a:Addr} {ys:List α} (s:SliceR T h (some a) cap ys):∀n,n≤ys.length→∃cs,Rows T h cs (ys.take n)∧∀j v,cs[j]? =some v→h.cell? (a.add j)=some v
  | 0,_=>⟨[],by simp [Rows],fun j v e=>by simp at e⟩
  | n + 1,hn=>by
    obtain ⟨cs,hr,hc⟩:=SliceR.rows s n (by omega)
    have hlt:n<ys.length:=by omega
    obtain ⟨c,hrep,hj⟩:=s.hat a rfl n ys[n] (by simp [hlt])
    refine ⟨cs ++ c,?_,fun j v e=>?_⟩
    · rw [List.take_succ_eq_append_getElem hlt]
      exact hr.append (Rows.single hrep)
    · have hl:cs.length=n * T.size:=by rw [hr.len,List.length_take,Nat.min_eq_left (by omega)]
      by_cases hjl:j<cs.length
      · rw [List.getElem?_append_left hjl] at e
        exact hc j v e
      · rw [List.getElem?_append_right (by omega),hl] at e
        have:=hj _ v e
        rw [add_add] at this
        rwa [show n * T.size + (j - n * T.size)=j by omega] at this
theorem SliceR.src (s:SliceR T h o cap xs) (hS:St h L w):SrcR T h w o xs:=by
  cases o with
  | none=>exact .inl ⟨rfl,(s.hnil rfl).1⟩
  | some a =>
    obtain ⟨cs,hr,hc⟩:=s.rows xs.length (Nat.le_refl _)
    rw [List.take_length] at hr
    exact .inr ⟨a,cs,rfl,hr,fun j v e=>hS.cell (hc j v e)⟩
theorem _root_.Go.Sl.St.ownSrc (s:St h L w) {j:Nat} (hj:L[j]? =some (ownS T E o cap xs)):SrcR T h w o xs:=by
  obtain ⟨z,hz,hzw,_,_⟩:=s.focus hj
  obtain ⟨hnil,hcap,hmax,hat⟩:=OwnP.read hz hzw
  cases o with
  | none=>exact .inl ⟨rfl,(hnil rfl).1⟩
  | some a =>
    obtain ⟨cs,hr,hc⟩:=hat a rfl
    exact .inr ⟨a,cs,rfl,hr,hc⟩
def appC {α:Type} (xs ys:List α):Option (List α):=if xs.length + ys.length≤549755813888 then some (xs ++ ys) else none
theorem appC_spec {xs ys zs:List α} (e:appC xs ys=some zs):xs.length + ys.length≤549755813888∧zs=xs ++ ys:=by
  unfold appC at e
  split at e
  · rename_i hc; simp only [Option.some.injEq] at e; exact ⟨hc,e.symm⟩
  · cases e
def appAt (R:Array Oper) (N:Nat) (pl:List (Nat×Bool)) (fl:FL):Option (Nat×Option Nat×TypeId×Value×Value) :=
  match opAt R N pl fl with
  | some (i,o)=>match o.op with
    | .call { callee:= .builtin .append,args:=⟨[s,x]⟩,argTypes:=⟨[t,t']⟩ }=>bif Nat.beq t t' then some (i,o.dst,t,ev fl s,ev fl x) else none
    | _=>none
  | none=>none
theorem run_append_src {t ty:TypeId} {z:Value} (hE:ElemOK P t E T.size z) {o2:Option Addr} {c2:Nat} {ys:List α} (hS:St h L w) {j:Nat} (hj:L[j]? =some (ownS T E o cap xs))
    (hsrc:SrcR T h w o2 ys) (hlen:xs.length + ys.length≤549755813888) :
    ∃o' cap' w',(Builtin.append_ #[t,t] ty #[.slice o xs.length cap, .slice o2 ys.length c2]).run P w= .ok (.slice o' (xs ++ ys).length cap') w'∧St h (L.set j (ownS T E o' cap' (xs ++ ys))) w':=by
  obtain ⟨x,hx,hxw,dx,hset⟩:=hS.focus hj
  obtain ⟨i,hi,hsize,hby,hz⟩:=hE.info
  have hx':OwnP T E o cap xs h x:=hx
  -- the kit's word for what is owned
  have hown:∃cs,Rows T h cs xs∧w.ownsRow 0 E T.size (.slice o xs.length cap) xs.length cs:=by
    rcases hx' with ⟨rfl,rfl,rfl,_⟩ | ⟨g,cur,rfl,rfl,h1,h2,h3,h4⟩
    · exact ⟨[],rfl,World.ownsRow_nil w 0 E T.size⟩
    · exact ⟨_,h4,h4.len, .inr ⟨g,cap,cur,rfl,Nat.zero_le _,Hp.one_le.1 hxw,h1,h2,h3,rfl⟩⟩
  obtain ⟨cs,hrows,hown⟩:=hown
  have hbytes:(xs.length + ys.length) * i.bytes≤140737488355328:=by
    have:=Nat.mul_le_mul hlen hby
    simpa using this
  have hmaxlen:xs.length + ys.length≤maxLen:=by simp only [maxLen]; omega
  rcases hsrc with ⟨rfl,rfl⟩ | ⟨ad,news,rfl,hnews,hcell⟩
  · -- nothing is appended
    have hrun:(Builtin.append_ #[t,t] ty #[.slice o xs.length cap, .slice none ([]:List α).length c2]).run P w= .ok (.slice o xs.length cap) w:=by
      have hcap:xs.length≤cap:=by
        rcases hx' with ⟨rfl,rfl,rfl,_⟩ | ⟨g,cur,rfl,rfl,h1,_⟩
        · simp
        · exact h1
      simp only [Builtin.append_,List.length_nil]
      cases o <;> simp [run_underlying hE.und,sizeOf,typeInfo,hi,Builtin.lenOf,Builtin.firstCells,hcap,storeCells]
    refine ⟨o,cap,w,by simpa using hrun,?_⟩
    rw [List.append_nil]
    have:=hset w (ownS T E o cap xs) x hx hxw (fun _ _ _=>rfl) (fun b o e=> .inr (by rw [e]; rfl)) rfl rfl rfl
    exact this
  · obtain ⟨v',w',hrun,hown',hgr,_,hat⟩:=run_append_own_at (P:=P) w 0 t ty E i z T.size i.bytes hE.und hi hz hsize rfl hE.zs hE.pos (.slice o xs.length cap) xs.length cs hown ad ys.length c2 news hnews.len hcell hnews.one hmaxlen hbytes (Nat.zero_le _)
    have hall:Rows T h (cs ++ news) (xs ++ ys):=hrows.append hnews
    have hl:(xs ++ ys).length=xs.length + ys.length:=List.length_append
    obtain ⟨hlen',hv⟩:=hown'
    rcases hv with ⟨hv,h0⟩ | ⟨g,cap',cur,hv,_,hg,hnc,hcm,hcs,htake⟩
    · -- nil stays nil
      have hys:xs ++ ys=[]:=List.eq_nil_of_length_eq_zero (by omega)
      refine ⟨none,0,w',?_,?_⟩
      · rw [hrun,hv,hys]; rfl
      · rw [hys]
        refine hset w' (ownS T E none 0 []) Hp.nil (.inl ⟨rfl,rfl,rfl,rfl⟩) (Hp.nil_le _) (fun b hb hn=>hgr.block b hb fun e=>?_) (fun b o e=>by simp [Hp.nil] at e) hgr.os hgr.tape hgr.output
        rcases hx' with ⟨rfl,rfl,rfl,_⟩ | ⟨g,cur,rfl,rfl,_⟩
        · simp [Value.ownBlock] at e
        · simp only [Value.ownBlock,Option.some.injEq] at e
          subst e
          simp [Hp.one] at hn
    · refine ⟨some ⟨g,0,none⟩,cap',w',by rw [hrun,hv,hl],?_⟩
      refine hset w' (ownS T E (some ⟨g,0,none⟩) cap' (xs ++ ys)) (Hp.one g (.cells cur E (0,0))) (.inr ⟨g,cur,rfl,rfl,by rw [hl]; exact hnc,hcm,hcs,?_⟩) (Hp.one_le.2 hg) (fun b hb hn=>hgr.block b hb fun e=>?_) (fun b o' e=>?_) hgr.os hgr.tape hgr.output
      · rw [hl,htake]; exact hall
      · rcases hx' with ⟨rfl,rfl,rfl,_⟩ | ⟨g0,cur0,rfl,rfl,_⟩
        · simp [Value.ownBlock] at e
        · simp only [Value.ownBlock,Option.some.injEq] at e
          subst e
          simp [Hp.one] at hn
      · unfold Hp.one at e
        split at e
        · rename_i hbg
          subst hbg
          rw [hv] at hat
          rcases hat with e1 | e1
          · right
            rcases hx' with ⟨rfl,rfl,rfl,_⟩ | ⟨g0,cur0,rfl,rfl,_⟩
            · simp [Value.ownBlock] at e1
            · simp only [Value.ownBlock,Option.some.injEq] at e1
              subst e1
              simp [Hp.one]
          · left
            simp only [Value.ownBlock,Option.some.injEq] at e1
            omega
        · cases e
theorem p_append {i j:Nat} {d:Option Nat} {t:TypeId} {z:Value} {o2:Option Addr} {c2:Nat} {ys zs:List α} (hE:ElemOK P t E T.size z) (hS:St h L w) (hf:Fr a N fl ds) (hj:L[j]? =some (ownS T E o cap xs))
    (ho:appAt R N pl fl=some (i,d,t, .slice o xs.length cap, .slice o2 ys.length c2)) (hsrc:SrcR T h w o2 ys) (hz:appC xs ys=some zs)
    (k:∀o' cap' w' a',St h (L.set j (ownS T E o' cap' zs)) w'→Fr a' N (putF fl d (.slice o' zs.length cap')) ds→(m.contains i=false→S w')∧wpPlan P R m S K pl.tail a' w'):wpPlan P R m S K pl a w:=by
  obtain ⟨hlen,rfl⟩:=appC_spec hz
  unfold appAt at ho
  cases h1:opAt R N pl fl with
  | none=>rw [h1] at ho; simp at ho
  | some q =>
    obtain ⟨i',op⟩:=q
    rw [h1] at ho
    simp only at ho
    split at ho
    · rename_i s x t1 t2 hop
      cases hb:Nat.beq t1 t2 with
      | false=>rw [hb] at ho; simp at ho
      | true =>
        rw [hb] at ho
        have:=Nat.eq_of_beq_eq_true hb
        subst this
        simp only [cond_true,Option.some.injEq,Prod.mk.injEq] at ho
        obtain ⟨rfl,rfl,rfl,hs,hx⟩:=ho
        obtain ⟨o',cap',w',hrun,hS'⟩:=run_append_src (ty:=op.type) (c2:=c2) hE hS hj hsrc hlen
        refine p_val (w':=w') (v:= .slice o' (xs ++ ys).length cap') hf h1 ?_ fun a' hf'=>k o' cap' w' a' hS' hf'
        simp only [execOp,hop,resolve,invoke,builtin,Sem.run_bind,Sem.run_pure,Result.andThen_ok,List.map_toArray,List.map_cons,List.map_nil,hs,hx,hrun]
    · cases ho
def mkAt (R:Array Oper) (N:Nat) (pl:List (Nat×Bool)) (fl:FL):Option (Nat×Option Nat×TypeId×Value×Value) :=
  match opAt R N pl fl with
  | some (i,o)=>match o.op with
    | .makeSlice t l c=>some (i,o.dst,t,ev fl l,ev fl c)
    | _=>none
  | none=>none
def mkC {α:Type} (n:Int) (x:α):Option (List α):=if 0≤n∧n≤549755813888 then some (List.replicate n.toNat x) else none
theorem rows_made {x0:α} {zc:List Value} (h0:T.rep h zc x0) (hpos:0<T.size):∀n,Rows T h ((List.range (n * T.size)).map fun i=>zc.getD (i % T.size) undef) (List.replicate n x0)
  | 0=>by simp [Rows]
  | n + 1=>by
    have hl:=T.len h0
    have e:(List.range ((n + 1) * T.size)).map (fun i=>zc.getD (i % T.size) undef)=zc ++ (List.range (n * T.size)).map fun i=>zc.getD (i % T.size) undef:=by
      rw [Nat.add_mul,Nat.one_mul,Nat.add_comm,List.range_add,List.map_append,List.map_map]
      congr 1
      · apply List.ext_getElem
        · simp [hl]
        · intro i h1 h2
          simp only [List.length_map,List.length_range] at h1
          simp [Nat.mod_eq_of_lt h1,h2]
      · apply List.map_congr_left
        intro i _
        simp
    rw [e,List.replicate_succ]
    exact Rows.cons h0 (rows_made h0 hpos n)
theorem p_make {i:Nat} {d:Option Nat} {t:TypeId} {z:Value} {n:Int} {x0:α} {xs:List α} (hE:ElemOK P t E T.size z) (hS:St h L w) (hf:Fr a N fl ds)
    (ho:mkAt R N pl fl=some (i,d,t, .int .i64 n, .int .i64 n)) (h0:T.rep h z.cells.toList x0) (hn:mkC n x0=some xs)
    (k:∀o' w' a',St h (ownS T E (some o') xs.length xs::L) w'→Fr a' N (putF fl d (.slice (some o') xs.length xs.length)) ds→(m.contains i=false→S w')∧wpPlan P R m S K pl.tail a' w'):wpPlan P R m S K pl a w:=by
  unfold mkC at hn
  split at hn
  case isFalse=>cases hn
  rename_i hn0
  simp only [Option.some.injEq] at hn
  subst hn
  unfold mkAt at ho
  cases h1:opAt R N pl fl with
  | none=>rw [h1] at ho; simp at ho
  | some q =>
    obtain ⟨i',op⟩:=q
    rw [h1] at ho
    simp only at ho
    split at ho
    · rename_i t' l c hop
      simp only [Option.some.injEq,Prod.mk.injEq] at ho
      obtain ⟨rfl,rfl,rfl,hl,hc⟩:=ho
      obtain ⟨inf,hi,hsize,hby,hz⟩:=hE.info
      have hbytes:(inf.bytes:Int) * n≤281474976710656:=by
        have h1:(inf.bytes:Int)≤256:=by omega
        have h2:(inf.bytes:Int) * n≤256 * n:=Int.mul_le_mul_of_nonneg_right h1 hn0.1
        omega
      have hrun:=run_make (P:=P) w t' E inf z hE.und hi hz .i64 .i64 n n hn0.1 (Int.le_refl _) hbytes (by omega)
      have hcells:(madeCells z.cells (n.toNat * inf.size))=((List.range (n.toNat * T.size)).map fun i=>z.cells.toList.getD (i % T.size) undef).toArray:=by
        unfold madeCells
        rw [hsize]
        apply Array.ext
        · simp
        · intro i h1 h2
          have hzs:=hE.zs
          have hpos:=hE.pos
          have hlt:i % T.size<z.cells.size:=by rw [hzs]; exact Nat.mod_lt _ hpos
          simp [hzs]
          rw [getElem!_pos z.cells _ hlt,Array.getElem?_eq_getElem hlt]
          rfl
      rw [hcells] at hrun
      have hrows:=rows_made (h:=h) h0 hE.pos n.toNat
      have hlen:(List.replicate n.toNat x0).length=n.toNat:=List.length_replicate
      rw [hlen] at k
      have hS':=hS.new (pts w.heap.size (.cells ((List.range (n.toNat * T.size)).map fun i=>z.cells.toList.getD (i % T.size) undef).toArray E (0,0))) _ rfl
      have hown:=hS'.ownBox (i:=0) (T:=T) (E:=E) (n:=n.toNat) (cs:=(List.range (n.toNat * T.size)).map fun i=>z.cells.toList.getD (i % T.size) undef) rfl hrows (by simp) (by simp only [maxLen]; omega)
      refine p_val (w':=w.alloc (.cells ((List.range (n.toNat * T.size)).map fun i=>z.cells.toList.getD (i % T.size) undef).toArray E)) (v:= .slice (some ⟨w.heap.size,0,none⟩) n.toNat n.toNat) hf h1 ?_ fun a' hf'=>k _ _ a' hown hf'
      simp [execOp,hop,hl,hc,hrun]
    · cases ho
theorem p_storeOwn {i j:Nat} {ad:Addr} {ix off:Nat} {vs:List Value} {x':α} (hS:St h L w) (hf:Fr a N fl ds) (hj:L[j]? =some (ownS T E (some ad) cap xs))
    (hix:ix<xs.length) (ho:storeAt P R N pl fl=some (i,(ad.add (ix * T.size)).add off,vs))
    (hfit:(Nat.ble (off + vs.length) T.size && oneCells vs)=true) (hx:∀c,T.rep h c xs[ix]→T.rep h (splice c off vs) x')
    (k:∀w' a',St h (L.set j (ownS T E (some ad) cap (xs.set ix x'))) w'→Fr a' N fl ds→(m.contains i=false→S w')∧wpPlan P R m S K pl.tail a' w'):wpPlan P R m S K pl a w:=by
  simp only [Bool.and_eq_true] at hfit
  have hoff:=Nat.le_of_ble_eq_true hfit.1
  obtain ⟨x,hxp,hxw,dx,hset⟩:=hS.focus hj
  have hxp':OwnP T E (some ad) cap xs h x:=hxp
  rcases hxp' with ⟨e,_⟩ | ⟨g,cur,e,rfl,h1,h2,h3,h4⟩
  · cases e
  · cases e
    have hg:w.heap[g]? =some (.cells cur E (0,0)):=Hp.one_le.1 hxw
    have haddr:(((⟨g,0,none⟩:Addr).add (ix * T.size)).add off)=⟨g,ix * T.size + off,none⟩:=by
      rw [add_add]; unfold Addr.add; split <;> simp_all
    rw [haddr] at ho
    have hbound:ix * T.size + T.size≤xs.length * T.size:=by
      have:=Nat.mul_le_mul_right T.size (show ix + 1≤xs.length by omega)
      rwa [Nat.add_mul,Nat.one_mul] at this
    have hbound2:xs.length * T.size≤cap * T.size:=Nat.mul_le_mul_right _ h1
    have hrun:=run_storeCells_at (P:=P) g (ix * T.size + off) E vs 0 cur w hg (by rw [h3]; omega) (oneCells_spec hfit.2)
    simp only [Nat.add_zero] at hrun
    obtain ⟨op,hop,hd,hex⟩:=storeAt_run ho hrun
    refine p_skip hf hop hex fun a' hf'=>?_
    rw [hd] at hf'
    have hrows:=h4.set hix hx hoff
    refine k _ a' (hset _ _ (Hp.one g (.cells (splice cur.toList (ix * T.size + off) vs).toArray E (0,0))) (.inr ⟨g,_,rfl,rfl,by simpa using h1,h2,?_,?_⟩) (Hp.one_le.2 ?_) ?_ ?_ rfl rfl rfl) hf'
    · simp only [splice,List.size_toArray,List.length_append,List.length_take,List.length_drop,Array.length_toList]
      omega
    · have hl2:(xs.set ix x').length=xs.length:=List.length_set
      rw [hl2]
      have e2:(splice cur.toList (ix * T.size + off) vs).take (xs.length * T.size)=splice (cur.toList.take (xs.length * T.size)) (ix * T.size + off) vs:=by
        unfold splice
        rw [List.append_assoc,List.append_assoc,List.take_append,List.take_append,List.take_take,List.take_take]
        simp only [List.length_take,Array.length_toList,h3]
        have hm1:min (ix * T.size + off) (cap * T.size)=ix * T.size + off:=by omega
        rw [hm1,show min (xs.length * T.size) (ix * T.size + off)=ix * T.size + off by omega,show min (ix * T.size + off) (xs.length * T.size)=ix * T.size + off by omega]
        rw [List.take_of_length_le (l:=vs) (by omega),List.drop_take]
        congr 3
        omega
      show Rows T h ((splice cur.toList (ix * T.size + off) vs).take (xs.length * T.size)) _
      rw [e2]
      exact hrows
    · exact setRow_heap w g _ _ E (0,0) hg
    · intro q hq hne
      refine setRow_other w g q _ fun e=>?_
      subst e
      simp [Hp.one] at hne
    · intro q o' hq
      right
      unfold Hp.one at hq ⊢
      split at hq <;> simp_all
end Go.Sx
namespace Go.Sx
open Go.Sl
abbrev w64 (n:Int):Int:=IntKind.i64.wrap n
abbrev pB (b n:Nat):Value:= .pointer (some ⟨b,n,none⟩)
abbrev vI (n:Int):Value:= .int .i64 n
theorem bind_some {α β:Type} {x:Option α} {f:α→Option β} {r:β} (h:x.bind f=some r):∃y,x=some y∧f y=some r:=by
  cases x with
  | none=>cases h
  | some y=>exact ⟨y,rfl,h⟩
theorem cond_t {α:Type} {b:Bool} {x y:α} {r:α} (hb:b=true) (h:cond b x y=r):x=r:=by rw [hb] at h; exact h
theorem cond_f {α:Type} {b:Bool} {x y:α} {r:α} (hb:b=false) (h:cond b x y=r):y=r:=by rw [hb] at h; exact h
theorem some_eq {α:Type} {x y:α} (h:some x=some y):x=y:=Option.some.inj h
def nz (n:Int):Option Unit:=if n≠0 then some () else none
theorem nz_spec {n:Int} {u:Unit} (h:nz n=some u):n≠0:=by
  unfold nz at h
  split at h
  · assumption
  · cases h
def setI {α:Type} (xs:List α) (i:Int) (x:α):Option (List α):=if 0≤i∧i<xs.length then some (xs.set i.toNat x) else none
theorem setI_spec {α:Type} {xs ys:List α} {i:Int} {x:α} (h:setI xs i x=some ys):(0≤i∧i<xs.length)∧ys=xs.set i.toNat x:=by
  unfold setI at h
  split at h
  · rename_i hc; simp only [Option.some.injEq] at h; exact ⟨hc,h.symm⟩
  · cases h
variable {α : Type} {T : Ty α} {P : Program} {a : Act} {N : Nat} {fl : FL} {ds : List Nat} {w : World} {R : Array Oper} {m : List Nat} {S : World → Prop} {K : Act → World → Prop} {pl : List (Nat × Bool)} {h h' : Zone} {L : List Atom}
def Sub (h:Zone) (L:List Atom) (w:World):Prop:=∃h',h.le h'∧St h' L w
theorem Sub.of (k:h.le h') (s:St h' L w):Sub h L w:=⟨h',k,s⟩
theorem Sub.cell (s:Sub h L w) {ad:Addr} {v:Value} (e:h.cell? ad=some v):w.cell? ad=some v:=let ⟨_,k,s⟩:=s; s.cell (k.cell e)
theorem Sub.box (s:Sub h L w) {i b:Nat} {cs:List Value} {T:TypeId} (hi:L[i]? =some (Sx.box b cs T)) {j:Nat} {v:Value} (hj:cs[j]? =some v):w.cell? ⟨b,j,none⟩=some v:=let ⟨_,_,s⟩:=s; s.box hi hj
def anyA:Atom:=⟨fun _ _=>True,fun _ _ _ _ _=>trivial⟩
theorem _root_.Go.Sl.St.mask (s:St h L w) {i:Nat} {A:Atom} (hi:L[i]? =some A):St h (L.set i anyA) w:=s.conv hi fun _ _=>trivial
theorem arrGet {n:Nat} {cs:List Value} {xs:List α} (s:(Ty.arr n T).rep h cs xs) (h1:T.size=1) {i:Int} {x:α} (e:getI xs i=some x) :
    (0≤i∧i<n)∧∃v,cs[i.toNat]? =some v∧T.rep h [v] x:=by
  obtain ⟨hb,hx⟩:=getI_spec e
  obtain ⟨hl,hr⟩:=s
  obtain ⟨c,hc,hj⟩:=hr.get hx
  have hcl:=T.len hc
  rw [h1] at hcl
  match c,hcl with
  | [v],_ =>
    have:=hj 0 v rfl
    rw [h1,Nat.mul_one,Nat.add_zero] at this
    exact ⟨⟨hb.1,by omega⟩,v,this,hc⟩
theorem arrAddr (b off i:Nat):(((⟨b,off,none⟩:Addr)).add (i * 1))=⟨b,off + i,none⟩:=by
  unfold Addr.add
  split <;> simp_all
theorem getElem?_app_right (pre cs:List Value) (i:Nat) {v:Value} (e:cs[i]? =some v):∀post:List Value,(pre ++ cs ++ post)[pre.length + i]? =some v:=by
  intro post
  have hlt:i<cs.length:=(List.getElem?_eq_some_iff.1 e).1
  rw [List.append_assoc,List.getElem?_append_right (by omega),List.getElem?_append_left (by omega)]
  simpa using e
theorem p_setOwn {n:Nat} {f:α→List Value} {hn:∀x,(f x).length=n} {h1:∀x,oneCells (f x)=true} {E:TypeId} {o:Option Addr} {cap:Nat} {xs ys:List α} {i j:Nat} {ad:Addr} {ix:Int} {off:Nat} {vs:List Value} {x x':α}
    (hS:St h L w) (hf:Fr a N fl ds) (hj:L[j]? =some (ownS (Ty.flat n f hn h1) E o cap xs)) (hoa:o=some ad) (hx:getI xs ix=some x)
    (ho:storeAt P R N pl fl=some (i,(ad.add (ix.toNat * n)).add off,vs)) (hfit:(Nat.ble (off + vs.length) n && oneCells vs)=true) (hs:splice (f x) off vs=f x') (hy:setI xs ix x'=some ys)
    (k:∀w' a',St h (L.set j (ownS (Ty.flat n f hn h1) E o cap ys)) w'→Fr a' N fl ds→(m.contains i=false→S w')∧wpPlan P R m S K pl.tail a' w'):wpPlan P R m S K pl a w:=by
  subst hoa
  obtain ⟨hb,rfl⟩:=setI_spec hy
  obtain ⟨_,hg⟩:=getI_spec hx
  have hlt:ix.toNat<xs.length:=(List.getElem?_eq_some_iff.1 hg).1
  have hxe:xs[ix.toNat]=x:=(List.getElem?_eq_some_iff.1 hg).2
  refine p_storeOwn (T:=Ty.flat n f hn h1) hS hf hj hlt ho hfit (fun c hc=>?_) k
  have hc':c=f xs[ix.toNat]:=hc
  subst hc'
  rw [hxe]
  exact hs
theorem p_setOwnI {E:TypeId} {o:Option Addr} {cap:Nat} {xs ys:List Int} {i j:Nat} {ad:Addr} {ix:Int} {x':Int}
    (hS:St h L w) (hf:Fr a N fl ds) (hj:L[j]? =some (ownS Ty.int E o cap xs)) (hoa:o=some ad)
    (ho:storeAt P R N pl fl=some (i,(ad.add (ix.toNat * 1)).add 0,[.int .i64 x'])) (hy:setI xs ix x'=some ys)
    (k:∀w' a',St h (L.set j (ownS Ty.int E o cap ys)) w'→Fr a' N fl ds→(m.contains i=false→S w')∧wpPlan P R m S K pl.tail a' w'):wpPlan P R m S K pl a w:=by
  subst hoa
  obtain ⟨hb,rfl⟩:=setI_spec hy
  have hlt:ix.toNat<xs.length:=by omega
  refine p_storeOwn (T:=Ty.int) hS hf hj hlt ho rfl (fun c hc=>?_) k
  have hc':c=[.int .i64 xs[ix.toNat]]:=hc
  subst hc'
  rfl
theorem p_setOwnB {E:TypeId} {o:Option Addr} {cap:Nat} {xs ys:List Bool} {i j:Nat} {ad:Addr} {ix:Int} {x':Bool}
    (hS:St h L w) (hf:Fr a N fl ds) (hj:L[j]? =some (ownS Ty.bool E o cap xs)) (hoa:o=some ad)
    (ho:storeAt P R N pl fl=some (i,(ad.add (ix.toNat * 1)).add 0,[.bool x'])) (hy:setI xs ix x'=some ys)
    (k:∀w' a',St h (L.set j (ownS Ty.bool E o cap ys)) w'→Fr a' N fl ds→(m.contains i=false→S w')∧wpPlan P R m S K pl.tail a' w'):wpPlan P R m S K pl a w:=by
  subst hoa
  obtain ⟨hb,rfl⟩:=setI_spec hy
  have hlt:ix.toNat<xs.length:=by omega
  refine p_storeOwn (T:=Ty.bool) hS hf hj hlt ho rfl (fun c hc=>?_) k
  have hc':c=[.bool xs[ix.toNat]]:=hc
  subst hc'
  rfl
theorem arrIdx {cs:List Value} {n:Nat} {v:Value} (e:cs[n]? =some v):cs.toArray[n * 1]? =some v:=by simpa using e
theorem sliceRep {o:Option Addr} {cap:Nat} {xs:List α} (s:SliceR T h o cap xs):(Ty.slice T).rep h [.slice o xs.length cap] xs:=⟨o,cap,rfl,s⟩
theorem Fr.conv {fl':FL} (hf:Fr a N fl ds) (e:fl=fl'):Fr a N fl' ds:=e ▸ hf
theorem setI_len {xs ys:List α} {i:Int} {x:α} (e:setI xs i x=some ys):xs.length=ys.length:=by
  obtain ⟨_,rfl⟩:=setI_spec e
  simp
theorem ElemOK.of {P:Program} {t E:TypeId} {size:Nat} {z:Value} {i:TypeInfo} (hu:P.underlying t=some (.slice E)) (hi:P.info? E=some i) (hz:i.zero=some z)
    (h:(Nat.beq i.size size && Nat.ble i.bytes 256 && Nat.beq z.cells.size size && Nat.ble 1 size)=true):ElemOK P t E size z:=by
  simp only [Bool.and_eq_true,Nat.beq_eq,Nat.ble_eq] at h
  exact ⟨hu,⟨i,hi,h.1.1.1,h.1.1.2,hz⟩,h.1.2,h.2⟩
theorem p_inl {i:Nat} {d:Option Nat} {f:FuncId} {args:Array Value} {N':Nat} {fn:Func} (hf:Fr a N fl ds) (ho:callAt P R N pl fl=some (i,d,f,args)) (hfn:P.funcs[f]? =some fn)
    (hN:(fn.body.isSome && (Nat.beq (args.size + (fn.ntmps - args.size)) N'))=true)
    (k:∀a',Fr a' N' (argFL args)→(bodyOf fn).cw none P (postM P fn fun e w'=>∃v,e= .returned v∧∀a'',Fr a'' N (putF fl d v) ds→(m.contains i=false→S w')∧wpPlan P R m S K pl.tail a'' w') a' w):wpPlan P R m S K pl a w :=
  p_call hf ho (Φ:=fun v w'=>∀a'',Fr a'' N (putF fl d v) ds→(m.contains i=false→S w')∧wpPlan P R m S K pl.tail a'' w') (calls_intro hfn hN k) (fun _ _ a' h hf'=>h a' hf')
theorem _root_.Go.Sl.Sep.front {z:Hp} {i:Nat} {A:Atom} (hz:Sep h L z) (hi:L[i]? =some A):∃x y,A.P h x∧Sep h (L.set i emp) y∧x.apart y∧z=x.add y:=by
  obtain ⟨x,y,hx,d,e,k⟩:=hz.focus hi
  have:=k h emp Hp.nil (Zone.le_refl h) rfl (Hp.apart_comm (Hp.apart_nil _))
  rw [Hp.nil_add] at this
  exact ⟨x,y,hx,this,d,e⟩
theorem sepPick:∀(is:List Nat) {L:List Atom} {z:Hp},Sep h L z→is.Nodup→(∀i∈is,i<L.length)→∃y,Sep h (is.map fun i=>L.getD i emp) y∧y.le z
  | [],L,z,hz,_,_=>⟨Hp.nil,rfl,Hp.nil_le _⟩
  | i::is,L,z,hz,hn,hlt=>by
    have hi:=hlt i (List.mem_cons_self ..)
    obtain ⟨x,y,hx,hy,d,e⟩:=hz.front (i:=i) (A:=L.getD i emp) (by simp [List.getD,hi])
    obtain ⟨hni,hn'⟩:=List.nodup_cons.1 hn
    obtain ⟨y',hy',hle⟩:=sepPick is hy hn' (fun j hj=>by simpa using hlt j (List.mem_cons_of_mem _ hj))
    have he:(is.map fun j=>(L.set i emp).getD j emp)=is.map fun j=>L.getD j emp:=by
      apply List.map_congr_left
      intro j hj
      have hne:i≠j:=fun e=>hni (e ▸ hj)
      simp [List.getD,List.getElem?_set_ne hne]
    rw [he] at hy'
    exact ⟨x.add y',⟨x,y',hx,hy',Hp.apart_of_le d hle,rfl⟩,e ▸ Hp.add_le (Hp.le_add_left _ _) (Hp.le_trans hle (Hp.le_add_right d))⟩
def nodupB:List Nat→Bool
  | []=>true
  | i::is=> !is.contains i && nodupB is
theorem nodupB_spec:∀ {is:List Nat},nodupB is=true→is.Nodup
  | [],_=>List.nodup_nil
  | i::is,h=>by
    simp only [nodupB,Bool.and_eq_true,Bool.not_eq_true'] at h
    exact List.nodup_cons.2 ⟨(fun hm=>by have h2:=List.contains_iff_mem.2 hm; rw [h2] at h; exact absurd h.1 (by simp)),nodupB_spec h.2⟩
theorem _root_.Go.Sl.St.pick (n:Nat) (is:List Nat) (s:St h L w) (hc:(Nat.ble n L.length && (nodupB is && is.all fun i=>Nat.blt i n))=true):St h ((is.map fun i=>L.getD i emp) ++ L.drop n) w:=by
  simp only [Bool.and_eq_true,List.all_eq_true] at hc
  obtain ⟨hn,hnd,hlt⟩:=hc
  have hn:=Nat.le_of_ble_eq_true hn
  have hnd:=nodupB_spec hnd
  obtain ⟨z,hz,hd,hb,hzw⟩:=s.sep
  have hL:L=L.take n ++ L.drop n:=(List.take_append_drop n L).symm
  rw [hL] at hz
  obtain ⟨x,y,hx,hy,d,e⟩:=Sep.append.1 hz
  have hlt':∀i∈is,i<n:=fun i hi=>by simpa [Nat.blt_eq] using hlt i hi
  obtain ⟨x',hx',hle⟩:=sepPick is hx hnd (fun i hi=>by simp only [List.length_take]; have:=hlt' i hi; omega)
  have he:(is.map fun i=>(L.take n).getD i emp)=is.map fun i=>L.getD i emp:=by
    apply List.map_congr_left
    intro i hi
    simp [List.getD,hlt' i hi]
  rw [he] at hx'
  have d':x'.apart y:=Hp.apart_comm (Hp.apart_of_le (Hp.apart_comm d) hle)
  have hle':(x'.add y).le z:=e ▸ Hp.add_le (Hp.le_trans hle (Hp.le_add_left _ _)) (Hp.le_add_right d)
  exact ⟨⟨x'.add y,Sep.append.2 ⟨x',y,hx',hy,d',rfl⟩,Hp.apart_of_le hd hle',hb,Hp.le_trans hle' hzw⟩,s.os,s.tape,s.output⟩
end Go.Sx
namespace Go.Sx
open Go.Sl
variable {P : Program} {a a' a1 : Act} {N N0 : Nat} {fl fl0 : FL} {ds : List Nat} {w : World} {R : Array Oper} {m : List Nat} {S : World → Prop} {K : Act → World → Prop} {pl : List (Nat × Bool)} {h : Zone} {L : List Atom}
variable {ro : Option Nat} {c : Code} {Q : Exit → Act → World → Prop}
theorem _root_.Go.Sl.St.focus1 (s:St h L w) {i l:Nat} {A:Atom} (hi:L[i]? =some A) (hA:∀z,A.P h z→∃o,z=Hp.one l o) :
    ∃o,A.P h (Hp.one l o)∧w.heap[l]? =some o∧∀(B:Atom) (o':Obj),B.P h (Hp.one l o')→St h (L.set i B) (w.putObj l o'):=by
  obtain ⟨x,hx,hxw,_,k⟩:=s.focus hi
  obtain ⟨o,rfl⟩:=hA x hx
  have hl:w.heap[l]? =some o:=Hp.one_le.1 hxw
  have hlt:l<w.heap.size:=(Array.getElem?_eq_some_iff.1 hl).1
  refine ⟨o,hx,hl,fun B o' hB=>k _ B (Hp.one l o') hB (Hp.one_le.2 (World.putObj_heap_same hlt)) (fun b hb hn=>World.putObj_heap_other ?_) (fun b u e=>?_) rfl rfl rfl⟩
  · intro e; subst e; simp [Hp.one] at hn
  · right
    unfold Hp.one at e ⊢
    split at e
    · rename_i hb; simp [hb]
    · cases e
def loopA (l N:Nat) (fl:FL) (ps:Array Tmp) (assign body:Code) (D:Nat) (st:LoopState) (pe:Option Code):Atom :=
  ⟨fun _ z=>∃(fn:FuncId) (tmps:Array Value),Fr { tmps:=tmps,defers:=[] } N fl∧z=Hp.one l (.loop { state:=st,pending:=pe,fn:=fn,tmps:=tmps,params:=ps,assign:=assign,body:=body,defers:=D }),fun _ _ _ _ h=>h⟩
def defA (D:Nat):Atom:=⟨fun _ z=>z=Hp.one D (.deferred (some [])),fun _ _ _ _ h=>h⟩
def rg:Code→Option Nat | .rangeFunc (.tmp g) _ _ _=>some g | _=>none
def rgP:Code→Array Tmp | .rangeFunc _ ps _ _=>ps | _=> #[]
def rgA:Code→Code | .rangeFunc _ _ x _=>x | _=> .skip
def rgB:Code→Code | .rangeFunc _ _ _ y=>y | _=> .skip
def endR (P:Program) (l:Nat) (Q:Exit→Act→World→Prop) (a':Act) (w:World):Prop :=
  ∃jump w4,(Instr.endLoop l).run P w= .ok jump w4∧(match jump with | none=>Q .normal a' w4 | some c=>c.cw none P Q a' w4)
theorem w_range {g gf:Nat} {lb:Array Value} (hc:rg c=some g) (hf:Fr a N fl ds) (hS:St h L w) (hg:look fl g=some (.func (.func gf) #[] lb))
    (hcall:∀l,runO P (invoke (.fn (.func gf) lb) #[.func (.yield l) #[] #[]]) []=some (.enter gf (#[.func (.yield l) #[] #[]] ++ lb),[],[]))
    (k:∀ps A B,ps=rgP c→A=rgA c→B=rgB c→∀l D w',St h (loopA l N fl ps A B D .ready none::defA D::L) w' →
      Calls P gf (#[.func (.yield l) #[] #[]] ++ lb) w' fun e w''=>∃v,e= .returned v∧∀a',Fr a' N fl (D::ds)→endR P l Q a' w''):c.cw none P Q a w:=by
  cases c with
  | rangeFunc x ps assign body =>
    cases x with
    | tmp t =>
      simp only [rg,Option.some.injEq] at hc
      subst hc
      have hS1:=hS.new (defA w.heap.size) (.deferred (some [])) rfl
      refine wpIn_rangeFunc fun fn _=>?_
      have hS2:=hS1.new (loopA (w.heap.size + 1) N fl ps assign body w.heap.size .ready none)
        (.loop { state:= .ready,pending:=none,fn:=fn,tmps:=a.tmps,params:=ps,assign:=assign,body:=body,defers:=w.heap.size })
        ⟨fn,a.tmps,⟨hf.size,rfl,hf.look⟩,by rw [World.size_alloc]⟩
      have hev:a.eval (.tmp t)= .func (.func gf) #[] lb:=hf.getD hg
      have hent:=run_enterLoop_outer (P:=P) (w:=w) fn a.tmps ps assign body
      generalize ((w.alloc (.deferred (some []))).alloc (.loop { state:= .ready,pending:=none,fn:=fn,tmps:=a.tmps,params:=ps,assign:=assign,body:=body,defers:=w.heap.size }))=W2 at hS2 hent
      refine ⟨w.heap.size + 1,marks [w.heap.size],W2,{ target:= .fn (.func gf) lb,args:= #[.func (.yield (w.heap.size + 1)) #[] #[]] },W2,gf,
        #[.func (.yield (w.heap.size + 1)) #[] #[]] ++ lb,W2,hent,?_,fun _ _=>trivial,runO_sound _ (hcall _) (by simp),WF_depth,?_⟩
      · simp only [resolve,hev]
        simp [go_sem]
      · refine callsIn_WF.2 (Calls.mono (k _ _ _ rfl rfl rfl _ _ _ hS2) ?_)
        rintro e w3 ⟨v,rfl,hk⟩
        exact hk _ ⟨hf.size,by rw [hf.defers]; rfl,hf.look⟩
    | _=>simp [rg] at hc
  | _=>simp [rg] at hc
theorem cw_eq {c':Code} (e:c=c') (k:c'.cw ro P Q a w):c.cw ro P Q a w:=e ▸ k
theorem loopA_one {l:Nat} {ps:Array Tmp} {A B:Code} {D:Nat} {st:LoopState} {pe:Option Code}:∀z,(loopA l N fl ps A B D st pe).P h z→∃o,z=Hp.one l o:=fun _ ⟨_,_,_,e⟩=>⟨_,e⟩
theorem Hp.one_inj {l:Nat} {o o':Obj} (e:Hp.one l o=Hp.one l o'):o=o':=by
  have:=congrFun e l
  simpa [Hp.one] using this
theorem p_endLoop {j l:Nat} {ps:Array Tmp} {A B:Code} {D:Nat} {st:LoopState} {pe:Option Code} (hS:St h L w) (hj:L[j]? =some (loopA l N0 fl0 ps A B D st pe)) (hst:st≠ .busy) :
    ∃w4,(Instr.endLoop l).run P w= .ok pe w4∧St h (L.set j emp) w4:=by
  obtain ⟨o,⟨fn,tmps,hfr,he⟩,hl,hput⟩:=hS.focus1 hj loopA_one
  have:=Hp.one_inj he
  subst this
  refine ⟨_,run_endLoop hl hst,?_⟩
  have h1:=hput (loopA l N0 fl0 ps A B D .exhausted pe) _ ⟨fn,tmps,hfr,rfl⟩
  have h2:=h1.dropAt (i:=j) (A:=loopA l N0 fl0 ps A B D .exhausted pe) (by
    have hlt:=(List.getElem?_eq_some_iff.1 hj).1
    simp [hlt])
  simpa using h2
theorem p_jump0 {j l:Nat} {ps:Array Tmp} {A B:Code} {D:Nat} {st:LoopState} (hS:St h L w) (hj:L[j]? =some (loopA l N0 fl0 ps A B D st none)) (hst:st≠ .busy)
    (k:∀w',St h (L.set j emp) w'→Q .normal a' w'):endR P l Q a' w :=
  let ⟨w4,h1,h2⟩:=p_endLoop (P:=P) hS hj hst; ⟨none,w4,h1,k w4 h2⟩
theorem p_jumpX {j l id:Nat} {ps:Array Tmp} {A B:Code} {D:Nat} {st:LoopState} (hS:St h L w) (hj:L[j]? =some (loopA l N0 fl0 ps A B D st (some (.exit id)))) (hst:st≠ .busy)
    (k:∀w',St h (L.set j emp) w'→Q (.exit id) a' w'):endR P l Q a' w :=
  let ⟨w4,h1,h2⟩:=p_endLoop (P:=P) hS hj hst; ⟨some (.exit id),w4,h1,wpIn_exit (k w4 h2)⟩
theorem p_mark {fn:Func} {R':Ending→World→Prop} {tmps:Array Value} {j D:Nat} (hS:St h L w) (hj:L[j]? =some (defA D)) (k:∀w',St h (L.set j emp) w'→outM P fn R' tmps ds w'):outM P fn R' tmps (D::ds) w:=by
  obtain ⟨o,ho,hl,hput⟩:=hS.focus1 hj (l:=D) (fun z hz=>⟨_,hz⟩)
  have he:o= .deferred (some []):=Hp.one_inj ho
  subst he
  refine ⟨by simp, .inl ⟨D,_,rfl,run_takeDeferred hl,k _ ?_⟩⟩
  have h1:=hput ⟨fun _ z=>z=Hp.one D (.deferred none),fun _ _ _ _ h=>h⟩ (.deferred none) rfl
  have h2:=h1.dropAt (i:=j) (A:=⟨fun _ z=>z=Hp.one D (.deferred none),fun _ _ _ _ h=>h⟩) (by
    have hlt:=(List.getElem?_eq_some_iff.1 hj).1
    simp [hlt])
  simpa using h2
theorem wpOpsIn_app {Q:Exit→Act→World→Prop} (hd:noDefer R=true) (rest:List Nat):∀(l:List Nat) (a:Act) (w:World),wpPlan P R m S K (l.map fun i=>(i,false)) a w→(∀a w,K a w→wpOpsIn (WF ro) 0 P R Q rest a w)→wpOpsIn (WF ro) 0 P R Q (l ++ rest) a w
  | [],a,w,k,hQ=>hQ a w k
  | i::l,a,w,k,hQ=>by
    rw [List.cons_append,wpOpsIn_cons]
    have k':wpOp P R (fun _ _ _=>False) i (fun a' w'=>(m.contains i=false→S w')∧wpPlan P R m S K (l.map fun i=>(i,false)) a' w') a w:=k
    exact wpOpIn_mono (fun a' w' h3=>wpOpsIn_app hd rest l a' w' h3.2 hQ) (wpOpIn_of hd (fun _ _ _ q=>q) (fun _ _ q=>q) k')
def planTo (i:Nat):List (Nat×Bool):=(List.range i).map fun i=>(i,false)
def planFrom (c:Code) (i:Nat):List (Nat×Bool):=(List.range' (i + 1) ((cops c).size - (i + 1))).map fun i=>(i,false)
theorem w_regY (i:Nat) (hc:(isReg false c && (noDefer (cops c) && Nat.blt i (cops c).size))=true)
    (k:wpPlan P (cops c) [] (fun _=>True) (fun a w=>wpOpIn (WF ro) 0 P (cops c) Q i (fun a w=>wpPlan P (cops c) [] (fun _=>True) (fun a w=>Q .normal a w) (planFrom c i) a w) a w) (planTo i) a w):c.cw ro P Q a w:=by
  simp only [Bool.and_eq_true] at hc
  obtain ⟨hc,hd,hi⟩:=hc
  cases c <;> simp [isReg] at hc
  rename_i id ops b
  subst hc
  have hlt:i<ops.size:=by simpa [cops] using hi
  refine wpIn_region ?_
  have hr:List.range ops.size=List.range i ++ (i::List.range' (i + 1) (ops.size - (i + 1))):=by
    have h1:i::List.range' (i + 1) (ops.size - (i + 1))=List.range' i (ops.size - i):=by
      rw [show ops.size - i=(ops.size - (i + 1)) + 1 by omega,List.range'_succ]
    have h2:=List.range'_append_1 (s:=0) (m:=i) (n:=ops.size - i)
    rw [h1,List.range_eq_range',List.range_eq_range']
    rw [Nat.zero_add] at h2
    rw [h2]
    congr 1
    omega
  rw [hr]
  refine wpOpsIn_app hd _ _ _ _ k fun a w h1=>?_
  rw [wpOpsIn_cons]
  exact wpOpIn_mono (fun a' w' h3=>wpOpsIn_of_plan hd _ _ _ h3 fun _ _ h=>h) h1
def yFL (ps:Array Tmp) (args:Array Value) (fl:FL):FL:=(ps.zip args).foldl (fun t p=>(p.1,p.2)::t) fl
theorem yFL_fr {l:List (Nat×Value)}:∀ {tmps:Array Value} {fl:FL},Fr { tmps:=tmps,defers:=[] } N fl→(l.all fun p=>Nat.blt p.1 N)=true →
    Fr { tmps:=l.foldl (fun t (p:Nat×Value)=>t.setIfInBounds p.1 p.2) tmps,defers:=[] } N (l.foldl (fun t p=>(p.1,p.2)::t) fl):=by
  induction l with
  | nil=>exact fun h _=>h
  | cons p l ih =>
    intro tmps fl hf hb
    simp only [List.all_cons,Bool.and_eq_true] at hb
    have h1:=hf.put (d:=some p.1) hb.1 p.2
    exact ih (tmps:=tmps.setIfInBounds p.1 p.2) (fl:=(p.1,p.2)::fl) ⟨h1.size,rfl,h1.look⟩ hb.2
def yieldAt (R:Array Oper) (N i:Nat) (fl:FL):Option (Option Nat×Nat×Array Value) :=
  match R[i]? with
  | some o=>match wantedF R fl o with
    | some true=>bif (known fl o && (match o.dst with | some d=>Nat.blt d N | none=>true)) then
        match o.op with
        | .call c=>match c.callee with
          | .value f=>match ev fl f with
            | .func (.yield l) ⟨[]⟩ _=>some (o.dst,l,c.args.map (ev fl))
            | _=>none
          | _=>none
        | _=>none
      else none
    | _=>none
  | none=>none
def beginG (P:Program) (l:Nat) (B:Code) (Qr:Exit→Act→World→Prop) (a1:Act) (w1:World):Prop:=∃w2,(Instr.beginRound l).run P w1= .ok () w2∧B.cw (some l) P Qr a1 w2
def yR (K:Act→World→Prop) (N:Nat) (fl:FL) (ds:List Nat) (d:Option Nat) (e:Ending) (w:World):Prop:=∃b,e= .returned (.bool b)∧∀a',Fr a' N (putF fl d (.bool b)) ds→K a' w
theorem p_yield {i j l D:Nat} {d:Option Nat} {args:Array Value} {ps:Array Tmp} {A B:Code} (hf:Fr a N fl ds) (ho:yieldAt R N i fl=some (d,l,args)) (hS:St h L w) (hj:L[j]? =some (loopA l N0 fl0 ps A B D .ready none))
    (hps:(Nat.beq args.size ps.size && (ps.zip args).toList.all fun p=>Nat.blt p.1 N0)=true)
    (k:∀a1,Fr a1 N0 (yFL ps args fl0)→A.cw (some l) P (Exit.then (beginG P l B (roundPost P l (yR K N fl ds d))) (fun _ _ _=>False)) a1 w):wpOpIn (WF ro) 0 P R Q i K a w:=by
  simp only [Bool.and_eq_true] at hps
  obtain ⟨hsz,hlt⟩:=hps
  have hsz:=Nat.eq_of_beq_eq_true hsz
  obtain ⟨o,⟨fn,tmps,hfr,he⟩,hl,hput⟩:=hS.focus1 hj loopA_one
  have:=Hp.one_inj he
  subst this
  unfold yieldAt at ho
  unfold wpOpIn
  cases hR:R[i]? with
  | none=>rw [hR] at ho; simp at ho
  | some op =>
    rw [hR] at ho
    simp only at ho ⊢
    split at ho
    · rename_i hw
      rw [wantedF_sound hf hw]
      cases hk:(known fl op && (match op.dst with | some d=>Nat.blt d N | none=>true)) with
      | false=>rw [hk] at ho; simp at ho
      | true =>
        rw [hk] at ho
        simp only [cond_true] at ho
        simp only [Bool.and_eq_true] at hk
        split at ho
        · rename_i c hop
          split at ho
          · rename_i f hcal
            split at ho
            · rename_i l' cap hev
              simp only [Option.some.injEq,Prod.mk.injEq] at ho
              obtain ⟨rfl,rfl,rfl⟩:=ho
              have hrun:(execOp a.eval op).run P w= .ok (.round l' fn ((ps.zip (c.args.map (ev fl))).foldl (fun tmps (t,a)=>tmps.setIfInBounds t a) tmps) A B) w:=by
                rw [hf.exec hk.1]
                simp only [execOp,hop,resolve,hcal,hev,Deferred.ofValue,Sem.run_bind,Sem.run_pure,Result.andThen_ok,invoke]
                have e0:(⟨[]⟩:Array Value) ++ c.args.map (ev fl)=c.args.map (ev fl):=by simp
                rw [e0]
                exact run_yield hl hsz
              refine ⟨fun _ _=>trivial,?_⟩
              rw [Oper.semAt_eq _ _ _ (by rw [hop]; simp),hrun]
              refine ⟨WF_depth,roundIn_of_wpIn trivial ?_⟩
              have hfr2:=yFL_fr (l:=(ps.zip (c.args.map (ev fl))).toList) hfr hlt
              have hfr3:Fr { tmps:=(ps.zip (c.args.map (ev fl))).foldl (fun t (p:Nat×Value)=>t.setIfInBounds p.1 p.2) tmps,defers:=[] } N0 (yFL ps (c.args.map (ev fl)) fl0):=by
                unfold yFL
                rw [← Array.foldl_toList, ← Array.foldl_toList]
                exact hfr2
              refine wpIn_mono (k _ hfr3) ?_
              intro e a2 w2 q
              cases e <;> first | exact q.elim | skip
              obtain ⟨w3,hb,hbody⟩:=q
              refine ⟨w3,hb,wpIn_mono hbody ?_⟩
              intro e a3 w4 q
              cases e <;> first
                | exact q.elim
                | (obtain ⟨v,w5,hend,b,hv,hk2⟩:=q
                   cases hv
                   exact ⟨_,w5,hend,hk2 _ (hf.put hk.2 _)⟩)
            · cases ho
          · cases ho
        · cases ho
    · cases ho
theorem p_begin {j l D:Nat} {ps:Array Tmp} {A B:Code} {Qr:Exit→Act→World→Prop} (hS:St h L w) (hj:L[j]? =some (loopA l N0 fl0 ps A B D .ready none))
    (k:∀w2,St h (L.set j (loopA l N0 fl0 ps A B D .busy none)) w2→B.cw (some l) P Qr a1 w2):beginG P l B Qr a1 w:=by
  obtain ⟨o,⟨fn,tmps,hfr,he⟩,hl,hput⟩:=hS.focus1 hj loopA_one
  have:=Hp.one_inj he
  subst this
  exact ⟨_,run_beginRound hl rfl,k _ (hput _ _ ⟨fn,tmps,hfr,rfl⟩)⟩
theorem p_endRound {j l D:Nat} {ps:Array Tmp} {A B:Code} {R':Ending→World→Prop} (hS:St h L w) (hj:L[j]? =some (loopA l N0 fl0 ps A B D .busy none)) (jump:Option Code)
    (k:∀w',St h (L.set j (loopA l N0 fl0 ps A B D (if jump.isNone then .ready else .done) jump)) w'→R' (.returned (.bool jump.isNone)) w') :
    ∃v w',(Instr.endRound l jump).run P w= .ok v w'∧R' (.returned v) w':=by
  obtain ⟨o,⟨fn,tmps,hfr,he⟩,hl,hput⟩:=hS.focus1 hj loopA_one
  have:=Hp.one_inj he
  subst this
  exact ⟨_,_,run_endRound jump hl,k _ (hput _ _ ⟨fn,tmps,hfr,rfl⟩)⟩
theorem p_roundN {j l D:Nat} {ps:Array Tmp} {A B:Code} {d:Option Nat} (hS:St h L w) (hj:L[j]? =some (loopA l N0 fl0 ps A B D .busy none))
    (k:∀w' a',St h (L.set j (loopA l N0 fl0 ps A B D .ready none)) w'→Fr a' N (putF fl d (.bool true)) ds→K a' w'):roundPost P l (yR K N fl ds d) .normal a1 w :=
  p_endRound hS hj none fun w' hS'=>⟨true,rfl,fun a' hf=>k w' a' hS' hf⟩
theorem p_roundX {j l D id:Nat} {ps:Array Tmp} {A B:Code} {d:Option Nat} (hS:St h L w) (hj:L[j]? =some (loopA l N0 fl0 ps A B D .busy none))
    (k:∀w' a',St h (L.set j (loopA l N0 fl0 ps A B D .done (some (.exit id)))) w'→Fr a' N (putF fl d (.bool false)) ds→K a' w'):roundPost P l (yR K N fl ds d) (.exit id) a1 w :=
  p_endRound hS hj (some (.exit id)) fun w' hS'=>⟨false,rfl,fun a' hf=>k w' a' hS' hf⟩
section drawY
variable {md : Region.Mode} {y : Nat}
def normY (md:Region.Mode) (ops:Array Oper) (y:Nat) (pl2:List (Nat×Bool)):List (Nat×Bool)→Array Bool→Bool
  | [],listed=>(match Region.ready md ops listed with | [j]=>Nat.beq y j | _=>false) && normB md ops [] pl2 (listed.setIfInBounds y true)
  | (i,true)::rest,listed=>(Region.ready md ops listed).contains i && Region.free md ops listed i && (aheadL md ops y).contains i && !Nat.beq i y && normY md ops y pl2 rest (listed.setIfInBounds i true)
  | (_,false)::_,_=>false
def drawY (c:Code) (y:Nat) (pl pl2:List (Nat×Bool)):Bool :=
  (isReg true c && noDefer (cops c)) && (Region.noSelect (cops c) && (Nat.beq (pl.length + 1 + pl2.length) (cops c).size && normY .any (cops c) y pl2 pl (Array.replicate (cops c).size false)))
end drawY
end Go.Sx
set_option linter.unusedVariables false
namespace Go.Sx
open Go.Sl
variable {P : Program} {a : Act} {N : Nat} {fl : FL} {ds : List Nat} {w : World} {R : Array Oper} {m : List Nat} {S : World → Prop} {K : Act → World → Prop} {pl : List (Nat × Bool)} {ro : Option Nat} {c : Code} {Q : Exit → Act → World → Prop}
def pureO:List Obl→Bool
  | []=>true
  | .prop _::l=>pureO l
  | .cell _ _::_=>false
theorem pureO_any {w w':World}:∀ {l:List Obl},pureO l=true→HA w l→HA w' l
  | [],_,_=> .nil
  | .prop _::_,h,k=>by cases k with | prop e k=>exact .prop e (pureO_any h k)
  | .cell _ _::_,h,_=>by cases h
def evX (P:Program) (R:Array Oper) (N:Nat) (m:List Nat):List (Nat×Bool)→FL→List Value→Option (FL×List Obl×List Obl×List Value)
  | [],fl,os=>some (fl,[],[],os)
  | (k,b)::pl,fl,os=>match R[k]? with
    | none=>none
    | some o=>bif (match o.dst with | some d=>Nat.blt d N | none=>true) then
      match wantedF R fl o with
      | none=>none
      | some false=>evX P R N m pl (putF fl o.dst undef) os
      | some true=>bif known fl o then
          match opQ P (ev fl) o os with
          | none=>none
          | some (v,obs,os')=>match evX P R N m pl (putF fl o.dst v) os' with
            | none=>none
            | some (fl',oF,oC,os'')=>bif b then (bif (pureO obs || lateB .any R m k) then some (fl',obs ++ oF,oC,os'') else none) else some (fl',oF,obs ++ oC,os'')
        else none
      else none
theorem wpPlan_mix (hSw:S w):∀(pl:List (Nat×Bool)) {a:Act} {fl:FL} {os:List Value} {fl':FL} {oF oC:List Obl} {os':List Value} {rest:List (Nat×Bool)},
    Fr a N fl ds→evX P R N m pl fl os=some (fl',oF,oC,os')→(∀w',S w'→HA w' oF)→HA w oC →
    (∀a',Fr a' N fl' ds→wpPlan P R m S K rest a' w)→wpPlan P R m S K (pl ++ rest) a w
  | [],a,fl,os,fl',oF,oC,os',rest,hf,he,_,_,k=>by
    simp only [evX,Option.some.injEq,Prod.mk.injEq] at he
    obtain ⟨rfl,_,_,_⟩:=he
    exact k a hf
  | (i,b)::pl,a,fl,os,fl',oF,oC,os',rest,hf,he,hF,hC,k=>by
    simp only [evX] at he
    cases hR:R[i]? with
    | none=>rw [hR] at he; simp at he
    | some o =>
      rw [hR] at he
      simp only at he
      cases hd:(match o.dst with | some d=>Nat.blt d N | none=>true) with
      | false=>rw [hd] at he; simp at he
      | true =>
        rw [hd] at he
        simp only [cond_true] at he
        cases hw:wantedF R fl o with
        | none=>rw [hw] at he; simp at he
        | some c =>
          rw [hw] at he
          have hwa:=wantedF_sound hf hw
          cases c with
          | false =>
            simp only at he
            have ih:=wpPlan_mix hSw pl (rest:=rest) (hf.put hd undef) he hF hC k
            cases b with
            | true=>exact ⟨o,undef,hR, .inr (.inr ⟨hwa,rfl⟩),ih⟩
            | false =>
              show wpOp P R _ i (fun a' w'=>(m.contains i=false→S w')∧wpPlan P R m S K (pl ++ rest) a' w') a w
              unfold wpOp
              simp only [hR,hwa]
              exact ⟨fun _=>hSw,ih⟩
          | true =>
            simp only at he
            cases hk:known fl o with
            | false=>rw [hk] at he; simp at he
            | true =>
              rw [hk] at he
              simp only [cond_true] at he
              cases hq:opQ P (ev fl) o os with
              | none=>rw [hq] at he; simp at he
              | some t =>
                obtain ⟨v,obs1,os1⟩:=t
                rw [hq] at he
                simp only at he
                cases hr:evX P R N m pl (putF fl o.dst v) os1 with
                | none=>rw [hr] at he; simp at he
                | some t' =>
                  obtain ⟨fl2,oF2,oC2,os2⟩:=t'
                  rw [hr] at he
                  simp only at he
                  cases b with
                  | true =>
                    simp only [cond_true] at he
                    cases hp:(pureO obs1 || lateB .any R m i) with
                    | false=>rw [hp] at he; simp at he
                    | true =>
                      rw [hp] at he
                      simp only [cond_true,Option.some.injEq,Prod.mk.injEq] at he
                      obtain ⟨rfl,rfl,rfl,rfl⟩:=he
                      have ih:=wpPlan_mix hSw pl (rest:=rest) (hf.put hd v) hr (fun w' h=>(hF w' h).right) hC k
                      refine ⟨o,v,hR,?_,ih⟩
                      rcases Bool.or_eq_true_iff.1 hp with hp | hp
                      · exact .inr (.inl ⟨hwa,fun w' _=>by rw [hf.exec hk]; exact opQ_sound hq (pureO_any hp (hF w hSw).left)⟩)
                      · exact .inl ⟨.inl ⟨hwa,fun w' hw'=>by rw [hf.exec hk]; exact opQ_sound hq (hF w' hw').left⟩,hSw,hp⟩
                  | false =>
                    simp only [cond_false,Option.some.injEq,Prod.mk.injEq] at he
                    obtain ⟨rfl,rfl,rfl,rfl⟩:=he
                    have ih:=wpPlan_mix hSw pl (rest:=rest) (hf.put hd v) hr hF hC.right k
                    show wpOp P R _ i (fun a' w'=>(m.contains i=false→S w')∧wpPlan P R m S K (pl ++ rest) a' w') a w
                    unfold wpOp
                    simp only [hR,hwa,if_true]
                    refine .inl ?_
                    unfold Oper.wp
                    rw [hf.exec hk,opQ_sound hq hC.left]
                    exact ⟨fun _=>hSw,ih⟩
def keys (fl:FL):List Nat:=fl.map (·.1)
def evXK (P:Program) (R:Array Oper) (N:Nat) (m:List Nat) (pl:List (Nat×Bool)) (fl:FL) (os:List Value) (keep:List Nat):Option (FL×List Obl×List Obl) :=
  match evX P R N m pl fl os with
  | some (fl',oF,oC,[])=>match keepF fl' keep with
    | some r=>some (r,oF,oC)
    | none=>none
  | _=>none
theorem evXK_spec {os:List Value} {keep:List Nat} {fl':FL} {oF oC:List Obl} (h:evXK P R N m pl fl os keep=some (fl',oF,oC)):∃fl1,evX P R N m pl fl os=some (fl1,oF,oC,[])∧keepF fl1 keep=some fl':=by
  unfold evXK at h
  split at h
  · rename_i fl1 oF1 oC1 he
    split at h
    · rename_i r hk
      simp only [Option.some.injEq,Prod.mk.injEq] at h
      obtain ⟨rfl,rfl,rfl⟩:=h
      exact ⟨fl1,he,hk⟩
    · cases h
  · cases h
theorem p_qS (n:Nat) (os:List Value) (fl':FL) (oF oC:List Obl) (hSw:S w) (hf:Fr a N fl ds) (he:evXK P R N m (pl.take n) fl os (keys fl')=some (fl',oF,oC)) (hF:∀w',S w'→HA w' oF) (hC:HA w oC)
    (k:∀a',Fr a' N fl' ds→wpPlan P R m S K (pl.drop n) a' w):wpPlan P R m S K pl a w:=by
  obtain ⟨fl1,h1,h2⟩:=evXK_spec he
  have:=wpPlan_mix (K:=K) (rest:=pl.drop n) hSw (pl.take n) hf h1 hF hC fun a' hf'=>k a' (hf'.keep h2)
  rwa [List.take_append_drop] at this
theorem p_qE (n:Nat) (os:List Value) (fl':FL) (oF oC:List Obl) (hf:Fr a N fl ds) (he:evXK P R N m (pl.take n) fl os (keys fl')=some (fl',oF,oC)) (hF:HA w oF) (hC:HA w oC)
    (k:∀a',Fr a' N fl' ds→wpPlan P R m (fun x=>x=w) K (pl.drop n) a' w):wpPlan P R m (fun x=>x=w) K pl a w :=
  p_qS n os fl' oF oC rfl hf he (fun w' e=>by subst e; exact hF) hC k
theorem p_qn (n:Nat) (os:List Value) (fl':FL) (oC:List Obl) (hf:Fr a N fl ds) (he:evXK P R N m (pl.take n) fl os (keys fl')=some (fl',[],oC)) (hC:HA w oC)
    (k:∀a',Fr a' N fl' ds→wpPlan P R m (fun _=>True) K (pl.drop n) a' w):wpPlan P R m (fun _=>True) K pl a w :=
  p_qS n os fl' [] oC trivial hf he (fun _ _=> .nil) hC k
theorem p_qz (os:List Value) (fl':FL) (oC:List Obl) (hf:Fr a N fl ds) (he:evXK P R N m pl fl os (keys fl')=some (fl',[],oC)) (hC:HA w oC)
    (k:∀a',Fr a' N fl' ds→K a' w):wpPlan P R m (fun _=>True) K pl a w:=by
  obtain ⟨fl1,h1,h2⟩:=evXK_spec he
  have:=wpPlan_mix (S:=fun _=>True) (K:=K) (rest:=[]) trivial pl hf h1 (fun _ _=> .nil) hC fun a' hf'=>k a' (hf'.keep h2)
  rwa [List.append_nil] at this
theorem p_qzE (os:List Value) (fl':FL) (oF oC:List Obl) (hf:Fr a N fl ds) (he:evXK P R N m pl fl os (keys fl')=some (fl',oF,oC)) (hF:HA w oF) (hC:HA w oC)
    (k:∀a',Fr a' N fl' ds→K a' w):wpPlan P R m (fun x=>x=w) K pl a w:=by
  obtain ⟨fl1,h1,h2⟩:=evXK_spec he
  have:=wpPlan_mix (S:=fun x=>x=w) (K:=K) (rest:=[]) rfl pl hf h1 (fun w' e=>by subst e; exact hF) hC fun a' hf'=>k a' (hf'.keep h2)
  rwa [List.append_nil] at this
def evL (P:Program) (R:Array Oper) (N:Nat) (m:List Nat) (pl:List (Nat×Bool)) (fl:FL) (os:List Value) (keep:List Nat):Option (FL×List Obl) :=
  bif pl.all (fun p=>m.contains p.1 && !p.2) then evK P R N (pl.map (·.1)) fl os keep else none
theorem p_qL (n:Nat) (os:List Value) (fl':FL) (oC:List Obl) (hf:Fr a N fl ds) (he:evL P R N m (pl.take n) fl os (keys fl')=some (fl',oC)) (hC:HA w oC)
    (k:∀a',Fr a' N fl' ds→wpPlan P R m S K (pl.drop n) a' w):wpPlan P R m S K pl a w:=by
  unfold evL at he
  cases ha:(pl.take n).all (fun p=>m.contains p.1 && !p.2) with
  | false=>rw [ha] at he; cases he
  | true =>
    rw [ha] at he
    have h1:∀p∈pl.take n,m.contains p.1=true∧p.2=false:=fun p hp=>by
      have:=List.all_eq_true.1 ha p hp
      simpa using this
    refine p_runL n os (keys fl') (List.all_eq_true.2 fun p hp=>(h1 p hp).1) hf (List.all_eq_true.2 fun p hp=>?_) he hC k
    rw [(h1 p hp).2]; rfl
def evR (P:Program) (c:Code) (N:Nat) (fl:FL) (os:List Value) (keep:List Nat):Option (FL×List Obl×List Obl) :=
  bif isReg false c && noDefer (cops c) then evXK P (cops c) N [] (planSeq c) fl os keep else none
theorem w_q (os:List Value) (fl':FL) (oC:List Obl) (hf:Fr a N fl ds) (he:evR P c N fl os (keys fl')=some (fl',[],oC)) (hC:HA w oC)
    (k:∀a',Fr a' N fl' ds→Q .normal a' w):c.cw ro P Q a w:=by
  unfold evR at he
  cases hc:(isReg false c && noDefer (cops c)) with
  | false=>rw [hc] at he; cases he
  | true=>rw [hc] at he; exact w_reg hc (p_qz os fl' oC hf he hC k)
def evSR (P:Program) (c:Code) (N:Nat) (fl:FL) (os:List Value) (keep:List Nat):Option (FL×List Obl×List Obl) :=
  bif isSeq c then evR P (cl c) N fl os keep else none
theorem w_sq (os:List Value) (fl':FL) (oC:List Obl) (hf:Fr a N fl ds) (he:evSR P c N fl os (keys fl')=some (fl',[],oC)) (hC:HA w oC)
    (k:∀a',Fr a' N fl' ds→(cr c).cw ro P Q a' w):c.cw ro P Q a w:=by
  unfold evSR at he
  cases hc:isSeq c with
  | false=>rw [hc] at he; cases he
  | true=>rw [hc] at he; exact w_seq hc (w_q os fl' oC hf he hC fun a' hf'=>n_then (k a' hf'))
def evRD (P:Program) (c:Code) (pl:List (Nat×Bool)) (m:List Nat) (N:Nat) (fl:FL) (os:List Value) (keep:List Nat):Option (FL×List Obl×List Obl) :=
  bif P.follows .mixedOrders && drawOK c pl m then evXK P (cops c) N m pl fl os keep else none
theorem w_qD (pl:List (Nat×Bool)) (m:List Nat) (os:List Value) (fl':FL) (oF oC:List Obl) (hf:Fr a N fl ds) (he:evRD P c pl m N fl os (keys fl')=some (fl',oF,oC)) (hF:HA w.drew oF) (hC:HA w.drew oC)
    (k:∀a',Fr a' N fl' ds→Q .normal a' w.drew):c.cw ro P Q a w:=by
  unfold evRD at he
  cases hc:(P.follows .mixedOrders && drawOK c pl m) with
  | false=>rw [hc] at he; cases he
  | true =>
    rw [hc] at he
    simp only [Bool.and_eq_true] at hc
    exact w_regD hc.1 pl m (fun x=>x=w.drew) hc.2 rfl (p_qzE os fl' oF oC hf he hF hC k)
def evSRD (P:Program) (c:Code) (pl:List (Nat×Bool)) (m:List Nat) (N:Nat) (fl:FL) (os:List Value) (keep:List Nat):Option (FL×List Obl×List Obl) :=
  bif isSeq c then evRD P (cl c) pl m N fl os keep else none
theorem w_sqD (pl:List (Nat×Bool)) (m:List Nat) (os:List Value) (fl':FL) (oF oC:List Obl) (hf:Fr a N fl ds) (he:evSRD P c pl m N fl os (keys fl')=some (fl',oF,oC)) (hF:HA w.drew oF) (hC:HA w.drew oC)
    (k:∀a',Fr a' N fl' ds→(cr c).cw ro P Q a' w.drew):c.cw ro P Q a w:=by
  unfold evSRD at he
  cases hc:isSeq c with
  | false=>rw [hc] at he; cases he
  | true=>rw [hc] at he; exact w_seq hc (w_qD pl m os fl' oF oC hf he hF hC fun a' hf'=>n_then (k a' hf'))
theorem w_sr (hc:(isSeq c && (isReg false (cl c) && noDefer (cops (cl c))))=true) (k:wpPlan P (cops (cl c)) [] (fun _=>True) (fun a w=>Exit.then (fun a w=>(cr c).cw ro P Q a w) Q .normal a w) (planSeq (cl c)) a w):c.cw ro P Q a w:=by
  simp only [Bool.and_eq_true] at hc
  exact w_seq hc.1 (w_reg (by simp only [Bool.and_eq_true]; exact hc.2) k)
variable {K' : Act → World → Prop}
theorem p_qt (os:List Value) (fl':FL) (oC:List Obl) (hf:Fr a N fl ds) (he:evXK P R N m pl fl os (keys fl')=some (fl',[],oC)) (hC:HA w oC)
    (k:∀a',Fr a' N fl' ds→K' a' w):wpPlan P R m (fun _=>True) (fun a w=>Exit.then K' Q .normal a w) pl a w:=p_qz os fl' oC hf he hC fun a' hf'=>n_then (k a' hf')
theorem p_qtE (os:List Value) (fl':FL) (oF oC:List Obl) (hf:Fr a N fl ds) (he:evXK P R N m pl fl os (keys fl')=some (fl',oF,oC)) (hF:HA w oF) (hC:HA w oC)
    (k:∀a',Fr a' N fl' ds→K' a' w):wpPlan P R m (fun x=>x=w) (fun a w=>Exit.then K' Q .normal a w) pl a w:=p_qzE os fl' oF oC hf he hF hC fun a' hf'=>n_then (k a' hf')
theorem p_dt (hp:pl.isEmpty=true) (k:K' a w):wpPlan P R m S (fun a w=>Exit.then K' Q .normal a w) pl a w:=p_done hp (n_then k)
def evP (P:Program) (R:Array Oper) (N:Nat) (pl:List (Nat×Bool)) (fl:FL) (os:List Value) (keep:List Nat):Option (FL×List Obl) :=
  bif pl.all (fun p=>p.2) then evK P R N (pl.map (·.1)) fl os keep else none
theorem p_qP (n:Nat) (os:List Value) (fl':FL) (oF:List Obl) (hf:Fr a N fl ds) (he:evP P R N (pl.take n) fl os (keys fl')=some (fl',oF)) (hF:∀w',HA w' oF)
    (k:∀a',Fr a' N fl' ds→wpPlan P R m S K (pl.drop n) a' w):wpPlan P R m S K pl a w:=by
  unfold evP at he
  cases ha:(pl.take n).all (fun p=>p.2) with
  | false=>rw [ha] at he; cases he
  | true =>
    rw [ha] at he
    refine p_firstP n os (keys fl') hf (List.all_eq_true.2 fun p hp=>?_) he hF k
    rw [List.all_eq_true.1 ha p hp]; rfl
end Go.Sx
namespace Go.Sx
open Go.Sl
structure Part where
  lot:Int
  mass:Int
  deriving DecidableEq
def PartT:Ty Part:=Ty.flat 2 (fun p=>[.int .i64 p.lot, .int .i64 p.mass]) (fun _=>rfl) (fun _=>rfl)
structure Lot where
  id:Int
  owner:Int
  grade:Int
  wet:Int
  deriving DecidableEq
def LotT:Ty Lot:=Ty.flat 4 (fun p=>[.int .i64 p.id, .int .i64 p.owner, .int .i64 p.grade, .int .i64 p.wet]) (fun _=>rfl) (fun _=>rfl)
structure Deed where
  kind:Int
  lot:Int
  frm:Int
  to:Int
  mass:Int
  deriving DecidableEq
def DeedT:Ty Deed:=Ty.flat 5 (fun p=>[.int .i64 p.kind, .int .i64 p.lot, .int .i64 p.frm, .int .i64 p.to, .int .i64 p.mass]) (fun _=>rfl) (fun _=>rfl)
structure Trail where
  deed:Int
  mass:Int
  deriving DecidableEq
def TrailT:Ty Trail:=Ty.flat 2 (fun p=>[.int .i64 p.deed, .int .i64 p.mass]) (fun _=>rfl) (fun _=>rfl)
end Go.Sx
set_option linter.unusedVariables false
namespace Go.Sx
open Go.Sl
variable {α : Type} {T : Ty α} {h h' : Zone} {L : List Atom} {w : World} {E : TypeId}
theorem _root_.Go.Sl.St.split (s:St h L w) {i:Nat} {A B C:Atom} (hi:L[i]? =some A) (k:∀z,A.P h z→∃x y,B.P h x∧C.P h y∧x.apart y∧z=x.add y):St h (B::L.set i C) w:=by
  obtain ⟨z,hz,hd,hb,hzw⟩:=s.sep
  obtain ⟨u,v,hu,duv,e,hset⟩:=hz.focus hi
  obtain ⟨x,y,hx,hy,dxy,e'⟩:=k u hu
  subst e' e
  obtain ⟨d1,d2⟩:=Hp.add_apart.1 duv
  refine ⟨⟨x.add (y.add v),⟨x,y.add v,hx,hset h C y (Zone.le_refl h) hy d2,Hp.apart_add.2 ⟨dxy,d1⟩,rfl⟩,?_,hb,?_⟩,s.os,s.tape,s.output⟩
  · rw [← Hp.add_assoc]; exact hd
  · rw [← Hp.add_assoc]; exact hzw
theorem _root_.Go.Sl.St.join (s:St h L w) {i j:Nat} {A B C:Atom} (hi:L[i]? =some A) (hj:L[j]? =some B) (hij:j≠i) (k:∀x y,A.P h x→B.P h y→x.apart y→C.P h (x.add y)):St h ((L.set i C).set j emp) w:=by
  obtain ⟨z,hz,hd,hb,hzw⟩:=s.sep
  obtain ⟨y,v,hy,dyv,e,hset⟩:=hz.focus hj
  have h1:=hset h emp Hp.nil (Zone.le_refl h) rfl (Hp.apart_comm (Hp.apart_nil _))
  rw [Hp.nil_add] at h1
  have hi':(L.set j emp)[i]? =some A:=by rw [List.getElem?_set_ne hij]; exact hi
  obtain ⟨x,u,hx,dxu,e',hset'⟩:=h1.focus hi'
  subst e' e
  obtain ⟨d1,d2⟩:=Hp.apart_add.1 dyv
  have h2:=hset' h C (x.add y) (Zone.le_refl h) (k x y hx hy (Hp.apart_comm d1)) (Hp.add_apart.2 ⟨dxu,d2⟩)
  rw [List.set_comm _ _ hij] at h2
  have ez:y.add (x.add u)=(x.add y).add u:=by rw [← Hp.add_assoc,Hp.add_comm d1]
  rw [ez] at hd hzw
  exact ⟨⟨_,h2,hd,hb,hzw⟩,s.os,s.tape,s.output⟩
def ownL (T:Ty α) (E:TypeId) (os:List (Option Addr×Nat)) (D:List (List α)):List Atom:=List.zipWith (fun p d=>ownS T E p.1 p.2 d) os D
def cellL (os:List (Option Addr×Nat)) (D:List (List α)):List Value:=List.zipWith (fun p d=>Value.slice p.1 d.length p.2) os D
def ownA (T:Ty α) (E:TypeId) (vs:List Value) (D:List (List α)):Atom :=
  ⟨fun h z=>∃os:List (Option Addr×Nat),os.length=D.length∧vs=cellL os D∧Sep h (ownL T E os D) z,fun _ _ _ k e=>e.elim fun os e=>⟨os,e.1,e.2.1,e.2.2.mono k⟩⟩
def ownH (T:Ty α) (E:TypeId) (vs:List Value) (D:List (List α)) (n:Nat):Atom :=
  ⟨fun h z=>∃os:List (Option Addr×Nat),os.length=D.length∧vs=cellL os D∧Sep h ((ownL T E os D).set n emp) z,fun _ _ _ k e=>e.elim fun os e=>⟨os,e.1,e.2.1,e.2.2.mono k⟩⟩
theorem ownL_get {os:List (Option Addr×Nat)} {D:List (List α)} {n:Nat} {p:Option Addr×Nat} {d:List α} (hp:os[n]? =some p) (hd:D[n]? =some d):(ownL T E os D)[n]? =some (ownS T E p.1 p.2 d):=by
  unfold ownL; rw [List.getElem?_zipWith,hp,hd]
theorem cellL_get {os:List (Option Addr×Nat)} {D:List (List α)} {n:Nat} {p:Option Addr×Nat} {d:List α} (hp:os[n]? =some p) (hd:D[n]? =some d):(cellL os D)[n]? =some (.slice p.1 d.length p.2):=by
  unfold cellL; rw [List.getElem?_zipWith,hp,hd]
theorem ownL_set:∀ {os:List (Option Addr×Nat)} {D:List (List α)} {n:Nat} {p:Option Addr×Nat} {d:List α},ownL T E (os.set n p) (D.set n d)=(ownL T E os D).set n (ownS T E p.1 p.2 d)
  | [],D,n,p,d=>by simp [ownL]
  | _::_,[],n,p,d=>by simp [ownL]
  | a::os,b::D,0,p,d=>by simp [ownL]
  | a::os,b::D,n + 1,p,d=>by
    have:=ownL_set (os:=os) (D:=D) (n:=n) (p:=p) (d:=d)
    simpa [ownL] using this
theorem cellL_set:∀ {os:List (Option Addr×Nat)} {D:List (List α)} {n:Nat} {p:Option Addr×Nat} {d:List α},cellL (os.set n p) (D.set n d)=(cellL os D).set n (.slice p.1 d.length p.2)
  | [],D,n,p,d=>by simp [cellL]
  | _::_,[],n,p,d=>by simp [cellL]
  | a::os,b::D,0,p,d=>by simp [cellL]
  | a::os,b::D,n + 1,p,d=>by
    have:=cellL_set (os:=os) (D:=D) (n:=n) (p:=p) (d:=d)
    simpa [cellL] using this
theorem ownA_len {vs:List Value} {D:List (List α)} {z:Hp} (k:(ownA T E vs D).P h z):vs.length=D.length:=by
  obtain ⟨os,e1,e2,_⟩:=k
  subst e2
  simp [cellL,e1]
theorem Sep.nils:∀n,Sep h (List.replicate n (ownS T E none 0 [])) Hp.nil
  | 0=>rfl
  | n + 1=>⟨Hp.nil,Hp.nil, .inl ⟨rfl,rfl,rfl,rfl⟩,Sep.nils n,Hp.apart_nil _,rfl⟩
theorem _root_.Go.Sl.St.ownNew (s:St h L w) (T:Ty α) (E:TypeId) (n:Nat):St h (ownA T E (List.replicate n (.slice none 0 0)) (List.replicate n [])::L) w:=by
  obtain ⟨z,hz,hd,hb,hzw⟩:=s.sep
  refine ⟨⟨z,⟨Hp.nil,z,⟨List.replicate n (none,0),by simp,by simp [cellL],?_⟩,hz,Hp.apart_comm (Hp.apart_nil _),rfl⟩,hd,hb,hzw⟩,s.os,s.tape,s.output⟩
  have e:ownL T E (List.replicate n (none,0)) (List.replicate n [])=List.replicate n (ownS T E none 0 []):=by simp [ownL]
  rw [e]
  exact Sep.nils n
theorem _root_.Go.Sl.St.ownOpen (s:St h L w) {j:Nat} {vs:List Value} {D:List (List α)} (hj:L[j]? =some (ownA T E vs D)) {i:Int} {d:List α} (e:getI D i=some d) :
    ∃o cap,vs[i.toNat]? =some (.slice o d.length cap)∧(0≤i∧i<vs.length)∧St h (ownS T E o cap d::L.set j (ownH T E vs D i.toNat)) w:=by
  obtain ⟨hb,hx⟩:=getI_spec e
  obtain ⟨z,hz,_,_,_⟩:=s.focus hj
  obtain ⟨os,e1,e2,e3⟩:=hz
  have hlt:i.toNat<os.length:=by rw [e1]; exact (List.getElem?_eq_some_iff.1 hx).1
  have hlen:vs.length=D.length:=by subst e2; simp [cellL,e1]
  refine ⟨os[i.toNat].1,os[i.toNat].2,by subst e2; exact cellL_get (List.getElem?_eq_getElem hlt) hx,⟨hb.1,by rw [hlen]; exact hb.2⟩,s.split hj fun z' ⟨os',f1,f2,f3⟩=>?_⟩
  have hlt':i.toNat<os'.length:=by rw [f1]; exact (List.getElem?_eq_some_iff.1 hx).1
  have hp:os'[i.toNat]=os[i.toNat]:=by
    have c1:=cellL_get (List.getElem?_eq_getElem hlt) hx
    have c2:=cellL_get (List.getElem?_eq_getElem hlt') hx
    rw [← e2,f2,c2] at c1
    simp only [Option.some.injEq,Value.slice.injEq,true_and] at c1
    exact Prod.ext c1.1 c1.2
  obtain ⟨x,y,hx',dxy,ez,hset⟩:=f3.focus (ownL_get (List.getElem?_eq_getElem hlt') hx)
  rw [hp] at hx'
  refine ⟨x,y,hx',⟨os',f1,f2,?_⟩,dxy,ez⟩
  have:=hset h emp Hp.nil (Zone.le_refl h) rfl (Hp.apart_comm (Hp.apart_nil _))
  rwa [Hp.nil_add] at this
theorem _root_.Go.Sl.St.ownClose (s:St h L w) {j k:Nat} {vs:List Value} {D:List (List α)} {n:Nat} {o:Option Addr} {cap:Nat} {d:List α} (hj:L[j]? =some (ownH T E vs D n)) (hk:L[k]? =some (ownS T E o cap d)) (hjk:k≠j) (hn:n<D.length) :
    St h ((L.set j (ownA T E (vs.set n (.slice o d.length cap)) (D.set n d))).set k emp) w:=by
  refine s.join hj hk hjk fun x y ⟨os,e1,e2,e3⟩ hy dxy=>⟨os.set n (o,cap),by simp [e1],by rw [cellL_set,e2],?_⟩
  rw [ownL_set]
  have hnl:n<(ownL T E os D).length:=by simp [ownL,e1]; exact hn
  have hg:((ownL T E os D).set n emp)[n]? =some emp:=by rw [List.getElem?_set_self hnl]
  obtain ⟨a,b,ha,dab,ez,hset⟩:=e3.focus hg
  have ha':a=Hp.nil:=ha
  subst ha'
  rw [Hp.nil_add] at ez
  subst ez
  have:=hset h (ownS T E o cap d) y (Zone.le_refl h) hy (Hp.apart_comm dxy)
  rw [List.set_set] at this
  rw [Hp.add_comm dxy]
  exact this
theorem OwnP.shared {o:Option Addr} {cap:Nat} {xs:List α} {x:Hp} (hx:OwnP T E o cap xs h x) (hb:x.le h.blk):SliceR T h o cap xs:=by
  rcases hx with ⟨rfl,rfl,rfl,rfl⟩ | ⟨g,cur,rfl,rfl,h1,h2,h3,h4⟩
  · exact SliceR.nil' T h
  · refine ⟨h1,h2,fun e=>(by cases e),fun a e i y hy=>?_⟩
    cases e
    obtain ⟨c,hc,hg⟩:=h4.get hy
    refine ⟨c,hc,fun k v hk=>?_⟩
    have hblk:h.blk g=some (.cells cur E (0,0)):=Hp.one_le.1 hb
    have:=hg k v hk
    rw [List.getElem?_take] at this
    split at this
    · rw [add_add]
      have hadd:(⟨g,0,none⟩:Addr).add (i * T.size + k)=⟨g,i * T.size + k,none⟩:=by unfold Addr.add; split <;> simp_all
      rw [hadd]
      simpa [Zone.cell?,hblk] using this
    · cases this
theorem ownRows:∀ {os:List (Option Addr×Nat)} {D:List (List α)} {x:Hp},os.length=D.length→Sep h (ownL T E os D) x→x.le h.blk→Rows (Ty.slice T) h (cellL os D) D
  | [],[],_,_,_,_=>rfl
  | [],_::_,_,e,_,_=>by cases e
  | _::_,[],_,e,_,_=>by cases e
  | p::os,d::D,x,e,⟨a,b,ha,hb,dab,ex⟩,hx=>by
    subst ex
    have la:a.le h.blk:=Hp.le_trans (Hp.le_add_left a b) hx
    have lb:b.le h.blk:=Hp.le_trans (Hp.le_add_right dab) hx
    exact ⟨[.slice p.1 d.length p.2],cellL os D,rfl,⟨p.1,p.2,rfl,OwnP.shared ha la⟩,ownRows (by simpa using e) hb lb⟩
theorem _root_.Go.Sl.St.ownShareA (s:St h L w) {j:Nat} {vs:List Value} {D:List (List α)} (hj:L[j]? =some (ownA T E vs D)) :
    ∃h',h.le h'∧St h' (L.set j emp) w∧(Ty.arr D.length (Ty.slice T)).rep h' vs D:=by
  obtain ⟨h',x,hle,hx,hxb,hs⟩:=s.freeze hj
  obtain ⟨os,e1,e2,e3⟩:=hx
  exact ⟨h',hle,hs,rfl,by rw [e2]; exact ownRows e1 e3 hxb⟩
theorem cellL_ones:∀(os:List (Option Addr×Nat)) (D:List (List α)),oneCells (cellL os D)=true
  | [],_=>rfl
  | _::_,[]=>rfl
  | _::os,_::D=>cellL_ones os D
theorem _root_.Go.Sl.St.ownOnes (s:St h L w) {j:Nat} {vs:List Value} {D:List (List α)} (hj:L[j]? =some (ownA T E vs D)):oneCells vs=true:=by
  obtain ⟨z,⟨os,_,e2,_⟩,_,_,_⟩:=s.focus hj
  rw [e2]
  exact cellL_ones os D
theorem set_same {β:Type} {l:List β} {n:Nat} {x:β} (e:l[n]? =some x):l.set n x=l:=by
  obtain ⟨hlt,rfl⟩:=List.getElem?_eq_some_iff.1 e
  exact List.set_getElem_self hlt
theorem _root_.Go.Sl.St.ownClose' (s:St h L w) {j k:Nat} {vs:List Value} {D:List (List α)} {n:Nat} {o:Option Addr} {cap:Nat} {d:List α} (hj:L[j]? =some (ownH T E vs D n)) (hk:L[k]? =some (ownS T E o cap d)) (hjk:k≠j)
    (hv:vs[n]? =some (.slice o d.length cap)) (hd:D[n]? =some d):St h ((L.set j (ownA T E vs D)).set k emp) w:=by
  have hlt:=(List.getElem?_eq_some_iff.1 hd)
  have hlv:=(List.getElem?_eq_some_iff.1 hv)
  have:=s.ownClose hj hk hjk hlt.1
  have e1:=set_same hv
  have e2:=set_same hd
  rwa [e1,e2] at this
theorem _root_.Go.Sl.St.ownShareN (s:St h L w) {j:Nat} {vs:List Value} {D:List (List α)} (hj:L[j]? =some (ownA T E vs D)) {n:Nat} (hn:vs.length=n) :
    ∃h',h.le h'∧St h' (L.set j emp) w∧(Ty.arr n (Ty.slice T)).rep h' vs D:=by
  obtain ⟨z,hz,_,_,_⟩:=s.focus hj
  have:=ownA_len hz
  subst hn
  rw [this]
  exact s.ownShareA hj
theorem splice_mid (pre vs post:List Value) {n:Nat} (hn:n<vs.length) (v:Value):splice (pre ++ vs ++ post) (pre.length + n) [v]=pre ++ vs.set n v ++ post:=by
  unfold splice
  have e1:(pre ++ vs ++ post).take (pre.length + n)=pre ++ vs.take n:=by
    rw [List.append_assoc,List.take_append,List.take_of_length_le (by omega),Nat.add_sub_cancel_left,List.take_append_of_le_length (by omega)]
  have e2:(pre ++ vs ++ post).drop (pre.length + n + [v].length)=vs.drop (n + 1) ++ post:=by
    rw [List.append_assoc,List.drop_append,List.drop_of_length_le (by simp; omega),List.nil_append,show pre.length + n + [v].length - pre.length=n + 1 by simp; omega,List.drop_append_of_le_length (by omega)]
  rw [e1,e2,List.set_eq_take_append_cons_drop,if_pos hn]
  simp
section
variable {P : Program} {a : Act} {N : Nat} {fl : FL} {ds : List Nat} {R : Array Oper} {m : List Nat} {S : World → Prop} {K : Act → World → Prop} {pl : List (Nat × Bool)}
theorem p_storeA {i j:Nat} {b:Nat} {ix:Int} {pre vs post:List Value} {v:Value} {X:TypeId} (hS:St h L w) (hf:Fr a N fl ds) (hj:L[j]? =some (box b (pre ++ vs ++ post) X)) (hix:ix.toNat<vs.length)
    (ho:storeAt P R N pl fl=some (i,(⟨b,pre.length,none⟩:Addr).add (ix.toNat * 1),[v])) (hone:oneCells [v]=true)
    (k:∀w' a',St h (L.set j (box b (pre ++ vs.set ix.toNat v ++ post) X)) w'→Fr a' N fl ds→(m.contains i=false→S w')∧wpPlan P R m S K pl.tail a' w'):wpPlan P R m S K pl a w:=by
  rw [arrAddr] at ho
  refine p_store hS hf hj ho (by simp; omega) hone fun w' a' hS' hf'=>?_
  rw [splice_mid _ _ _ hix] at hS'
  exact k w' a' hS' hf'
end
theorem nine {vs:List Value} (e:vs.length=9):∃a0 a1 a2 a3 a4 a5 a6 a7 a8,vs=[a0,a1,a2,a3,a4,a5,a6,a7,a8]:=by
  match vs,e with
  | [a0,a1,a2,a3,a4,a5,a6,a7,a8],_=>exact ⟨a0,a1,a2,a3,a4,a5,a6,a7,a8,rfl⟩
end Go.Sx
set_option linter.unusedVariables false
set_option linter.unusedSimpArgs false
namespace Go.Sx
open Go.Sl
section
variable {β : Type} {f : β → Value} {h h' : Zone} {L : List Atom} {w : World}
def getK:List (Int×β)→Int→Option β
  | [],_=>none
  | p::D,k=>bif p.1 == k then some p.2 else getK D k
def putK:List (Int×β)→Int→β→List (Int×β)
  | [],k,v=>[(k,v)]
  | p::D,k,v=>bif decide (k<p.1) then (k,v)::p::D else bif k == p.1 then (k,v)::D else p::putK D k v
def Rise (D:List (Int×β)):Prop:=D.Pairwise fun p q=>p.1<q.1
theorem putK_mem:∀ {D:List (Int×β)} {k:Int} {v:β},Rise D→∀j u,(j,u)∈putK D k v↔(j=k∧u=v)∨(j≠k∧(j,u)∈D)
  | [],k,v,_,j,u=>by simp only [putK,List.mem_singleton,Prod.mk.injEq,List.not_mem_nil,and_false,or_false]
  | p::D,k,v,hr,j,u=>by
    have hp:=List.pairwise_cons.1 hr
    unfold putK
    by_cases h1:k<p.1
    · simp only [h1,decide_true,cond_true,List.mem_cons,Prod.mk.injEq]
      constructor
      · rintro (h | h | h)
        · exact .inl h
        · refine .inr ⟨?_, .inl h⟩
          have:j=p.1:=by rw [← h]
          omega
        · have:=hp.1 _ h
          simp only at this
          exact .inr ⟨by omega, .inr h⟩
      · rintro (h | ⟨_,h⟩)
        · exact .inl h
        · exact .inr h
    · simp only [h1,decide_false,cond_false]
      by_cases h2:k=p.1
      · subst h2
        simp only [beq_self_eq_true,cond_true,List.mem_cons,Prod.mk.injEq]
        constructor
        · rintro (h | h)
          · exact .inl h
          · have:=hp.1 _ h
            simp only at this
            exact .inr ⟨by omega, .inr h⟩
        · rintro (h | ⟨h,h' | h'⟩)
          · exact .inl h
          · exact absurd (by rw [← h']) h
          · exact .inr h'
      · have h3:(k == p.1)=false:=by simpa using h2
        simp only [h3,cond_false,List.mem_cons]
        rw [putK_mem hp.2]
        constructor
        · rintro (h | h | ⟨h,h'⟩)
          · refine .inr ⟨?_, .inl h⟩
            have:j=p.1:=by rw [← h]
            omega
          · exact .inl h
          · exact .inr ⟨h, .inr h'⟩
        · rintro (h | ⟨h,h' | h'⟩)
          · exact .inr (.inl h)
          · exact .inl h'
          · exact .inr (.inr ⟨h,h'⟩)
theorem putK_rise:∀ {D:List (Int×β)} {k:Int} {v:β},Rise D→Rise (putK D k v)
  | [],k,v,_=>List.pairwise_singleton _ _
  | p::D,k,v,hr=>by
    have hp:=List.pairwise_cons.1 hr
    unfold putK
    by_cases h1:k<p.1
    · simp only [h1,decide_true,cond_true]
      exact List.pairwise_cons.2 ⟨fun q hq=>by
        rcases List.mem_cons.1 hq with rfl | hq
        · exact h1
        · have:=hp.1 q hq; simp only; omega,hr⟩
    · simp only [h1,decide_false,cond_false]
      by_cases h2:k=p.1
      · subst h2
        simp only [beq_self_eq_true,cond_true]
        exact List.pairwise_cons.2 ⟨hp.1,hp.2⟩
      · have h3:(k == p.1)=false:=by simpa using h2
        simp only [h3,cond_false]
        refine List.pairwise_cons.2 ⟨fun q hq=>?_,putK_rise hp.2⟩
        obtain ⟨j,u⟩:=q
        rcases (putK_mem hp.2 j u).1 hq with ⟨rfl,_⟩ | ⟨_,hq⟩
        · simp only; omega
        · exact hp.1 _ hq
theorem getK_mem:∀ {D:List (Int×β)} {k:Int} {v:β},Rise D→(getK D k=some v↔(k,v)∈D)
  | [],k,v,_=>by simp [getK]
  | p::D,k,v,hr=>by
    have hp:=List.pairwise_cons.1 hr
    unfold getK
    by_cases h1:p.1=k
    · subst h1
      simp only [beq_self_eq_true,cond_true,Option.some.injEq,List.mem_cons]
      constructor
      · rintro rfl; exact .inl rfl
      · rintro (h | h)
        · rw [← h]
        · have:=hp.1 _ h; simp only at this; omega
    · have h3:(p.1 == k)=false:=by simpa using h1
      simp only [h3,cond_false,List.mem_cons]
      rw [getK_mem hp.2]
      constructor
      · exact .inr
      · rintro (h | h)
        · exact absurd (by rw [← h]) h1
        · exact h
theorem getK_none {D:List (Int×β)} {k:Int} (hr:Rise D) (h:∀v,(k,v)∉D):getK D k=none:=by
  cases e:getK D k with
  | none=>rfl
  | some v=>exact absurd ((getK_mem hr).1 e) (h v)
theorem rise_ext:∀ {D E:List (Int×β)},Rise D→Rise E→(∀p,p∈D↔p∈E)→D=E
  | [],[],_,_,_=>rfl
  | [],q::E,_,_,h=>by have:=(h q).2 (by simp); cases this
  | p::D,[],_,_,h=>by have:=(h p).1 (by simp); cases this
  | p::D,q::E,hD,hE,h=>by
    have hp:=List.pairwise_cons.1 hD
    have hq:=List.pairwise_cons.1 hE
    have e:p=q:=by
      rcases List.mem_cons.1 ((h p).1 (by simp)) with e | e
      · exact e
      · rcases List.mem_cons.1 ((h q).2 (by simp)) with e' | e'
        · exact e'.symm
        · have h1:=hq.1 _ e; have h2:=hp.1 _ e'; omega
    subst e
    congr 1
    refine rise_ext hp.2 hq.2 fun r=>?_
    have hr:=h r
    simp only [List.mem_cons] at hr
    constructor
    · intro hm
      rcases hr.1 (.inr hm) with e | e
      · subst e; have:=hp.1 _ hm; omega
      · exact e
    · intro hm
      rcases hr.2 (.inr hm) with e | e
      · subst e; have:=hq.1 _ hm; omega
      · exact e
def ent (f:β→Value) (t:Int×β×Nat):MapEntry:={ key:= .int .i64 t.1,val:=f t.2.1,born:=t.2.2 }
structure MapM (l:List (Int×β×Nat)) (clock:Nat) (D:List (Int×β)):Prop where
  rise:Rise D
  keys:(l.map (·.1)).Nodup
  borns:(l.map (·.2.2)).Nodup
  old:∀t∈l,t.2.2<clock
  mem:∀k v,(k,v)∈D↔∃b,(k,v,b)∈l
def mobj (f:β→Value) (l:List (Int×β×Nat)) (clock:Nat):Obj:= .map (l.map (ent f)).toArray clock
theorem MapM.nil:MapM ([]:List (Int×β×Nat)) 0 []:=⟨List.Pairwise.nil,List.nodup_nil,List.nodup_nil,by simp,by simp⟩
def MapR (f:β→Value) (h:Zone) (o:Option Nat) (D:List (Int×β)):Prop :=
  (o=none∧D=[])∨∃r l clock,o=some r∧h.blk r=some (mobj f l clock)∧MapM l clock D
theorem MapR.mono (k:h.le h') {o:Option Nat} {D:List (Int×β)} (s:MapR f h o D):MapR f h' o D:=by
  rcases s with s | ⟨r,l,clock,e,hb,hm⟩
  · exact .inl s
  · exact .inr ⟨r,l,clock,e,k.blk _ _ hb,hm⟩
theorem MapR.nil' (f:β→Value) (h:Zone):MapR f h none []:= .inl ⟨rfl,rfl⟩
def mapA (f:β→Value) (r:Nat) (D:List (Int×β)):Atom :=
  ⟨fun _ z=>∃l clock,z=Hp.one r (mobj f l clock)∧MapM l clock D,fun _ _ _ _ e=>e⟩
def Ty.map (f:β→Value):Ty (List (Int×β)) where
  size:=1
  rep h cs D:=∃o,cs=[.map o]∧MapR f h o D
  len:=by rintro h cs x ⟨o,rfl,_⟩; rfl
  one:=by rintro h cs x ⟨o,rfl,_⟩ v hv; simp only [List.mem_singleton] at hv; subst hv; rfl
  mono:=by rintro h h' cs x k ⟨o,e,s⟩; exact ⟨o,e,s.mono k⟩
theorem mapRep {o:Option Nat} {D:List (Int×β)} (s:MapR f h o D):(Ty.map f).rep h [.map o] D:=⟨o,rfl,s⟩
theorem _root_.Go.Sl.St.mapShare (s:St h L w) {j:Nat} {r:Nat} {D:List (Int×β)} (hj:L[j]? =some (mapA f r D)) :
    ∃h',h.le h'∧St h' (L.set j emp) w∧MapR f h' (some r) D:=by
  obtain ⟨h',x,hle,hx,hxb,hs⟩:=s.freeze hj
  obtain ⟨l,clock,rfl,hm⟩:=hx
  exact ⟨h',hle,hs, .inr ⟨r,l,clock,rfl,Hp.one_le.1 hxb,hm⟩⟩
theorem findNow_ent {k:Int}:∀(l:List (Int×β×Nat)) (i:Nat),
    (Instr.findNow (.int .i64) (.int .i64 k) (l.map (ent f)) i=some none∧∀v b,(k,v,b)∉l) ∨
    ∃j v b,l[j]? =some (k,v,b)∧Instr.findNow (.int .i64) (.int .i64 k) (l.map (ent f)) i=some (some (i + j,f v))
  | [],i=> .inl ⟨rfl,by simp⟩
  | (k',v',b')::l,i=>by
    by_cases e:k'=k
    · subst e
      exact .inr ⟨0,v',b',rfl,by simp [Instr.findNow,Instr.sameNow,ent]⟩
    · have e':¬ k=k':=fun h=>e h.symm
      have e2:(k == k')=false:=by simpa using e'
      rcases findNow_ent l (i + 1) with ⟨h1,h2⟩ | ⟨j,v,b,h1,h2⟩
      · refine .inl ⟨by simpa [Instr.findNow,Instr.sameNow,ent,e2] using h1,fun v b hm=>?_⟩
        rcases List.mem_cons.1 hm with h | h
        · simp only [Prod.mk.injEq] at h; exact e' h.1
        · exact h2 v b h
      · refine ⟨j + 1,v,b,h1,?_⟩ |> .inr
        have:i + (j + 1)=i + 1 + j:=by omega
        rw [this]
        simpa [Instr.findNow,Instr.sameNow,ent,e2] using h2
theorem isKey_int (k:Int):MapKept.IsKey (.int .i64) (.int .i64 k):=by simp [MapKept.IsKey]
theorem toList_mobj (l:List (Int×β×Nat)):(l.map (ent f)).toArray.toList=l.map (ent f):=rfl
structure MapOK (P:Program) (t:TypeId) (z:Value):Prop where
  ex:∃kt et,P.underlying t=some (.map kt et)∧P.underlying kt=some (.int .i64)∧∀w,(zeroValue et).run P w= .ok z w
theorem MapOK.of {P:Program} {t kt et:TypeId} {z:Value} (h1:P.underlying t=some (.map kt et)) (h2:P.underlying kt=some (.int .i64)) (h3:runO P (zeroValue et) []=some (z,[],[])):MapOK P t z :=
  ⟨kt,et,h1,h2,fun w=>runO_sound (w:=w) _ h3 (by simp)⟩
def LookR (f:β→Value) (w:World) (o:Option Nat) (D:List (Int×β)):Prop :=
  (o=none∧D=[])∨∃r l clock,o=some r∧w.heap[r]? =some (mobj f l clock)∧MapM l clock D
theorem St.blk (s:St h L w) {r:Nat} {o:Obj} (e:h.blk r=some o):w.heap[r]? =some o:=by
  obtain ⟨z,_,_,hb,_⟩:=s.sep
  exact hb _ _ e
theorem MapR.look {o:Option Nat} {D:List (Int×β)} (m:MapR f h o D) (s:St h L w):LookR f w o D:=by
  rcases m with m | ⟨r,l,clock,e,hb,hm⟩
  · exact .inl m
  · exact .inr ⟨r,l,clock,e,St.blk s hb,hm⟩
theorem LookR.drew {o:Option Nat} {D:List (Int×β)} (m:LookR f w o D):LookR f w.drew o D:=m
def lkK (D:List (Int×β)) (k:Int) (z:β):β:=(getK D k).getD z
def hasK (D:List (Int×β)) (k:Int):Bool:=(getK D k).isSome
theorem LookR.run {P:Program} {t:TypeId} {o:Option Nat} {D:List (Int×β)} {k:Int} {c:Bool} {z:β} (m:LookR f w o D) (hM:MapOK P t (f z)) :
    (Instr.lookup t (.map o) (.int .i64 k) c).run P w= .ok (bif c then .tuple #[f (lkK D k z), .bool (hasK D k)] else f (lkK D k z)) w:=by
  obtain ⟨kt,et,h1,h2,h3⟩:=hM.ex
  rcases m with ⟨rfl,rfl⟩ | ⟨r,l,clock,rfl,hb,hm⟩
  · have g:Instr.findNow (.int .i64) (.int .i64 k) (#[]:Array MapEntry).toList 0=some none:=rfl
    unfold Instr.lookup
    simp only [Sem.run_bind,run_underlying h1,Result.andThen_ok,Sem.run_pure,MapKept.run_checkKey h2 (isKey_int k),MapKept.run_findKey h2 g,h3,lkK,hasK,getK,Option.getD_none,Option.isSome_none]
    cases c <;> rfl
  · unfold Instr.lookup
    rcases findNow_ent (f:=f) (k:=k) l 0 with ⟨g1,g2⟩ | ⟨j,v,b,g1,g2⟩
    · have hn:getK D k=none:=getK_none hm.rise fun v hv=>by obtain ⟨b,hb⟩:=(hm.mem k v).1 hv; exact g2 v b hb
      simp only [Sem.run_bind,run_underlying h1,Result.andThen_ok,Sem.run_pure,MapKept.run_getObj_map hb,toList_mobj,MapKept.run_checkKey h2 (isKey_int k),MapKept.run_findKey h2 g1,h3,lkK,hasK,hn,Option.getD_none,Option.isSome_none]
      cases c <;> rfl
    · have hn:getK D k=some v:=(getK_mem hm.rise).2 ((hm.mem k v).2 ⟨b,List.mem_of_getElem? g1⟩)
      simp only [Sem.run_bind,run_underlying h1,Result.andThen_ok,Sem.run_pure,MapKept.run_getObj_map hb,toList_mobj,MapKept.run_checkKey h2 (isKey_int k),MapKept.run_findKey h2 g2,lkK,hasK,hn,Option.getD_some,Option.isSome_some]
      cases c <;> rfl
theorem modify_map {γ δ:Type} (g:γ→δ) (p:δ→δ) (q:γ→γ) (e:∀x,p (g x)=g (q x)):∀(l:List γ) (j:Nat),(l.map g).modify j p=(l.modify j q).map g
  | [],j=>by simp
  | x::l,0=>by simp [e]
  | x::l,j + 1=>by simp [modify_map g p q e l j]
theorem mem_modify {γ:Type} {p:γ→γ}:∀ {l:List γ} {j:Nat} {x:γ},l[j]? =some x→∀y,y∈l.modify j p↔y=p x∨∃i,i≠j∧l[i]? =some y
  | [],j,x,h,y=>by simp at h
  | a::l,0,x,h,y=>by
    simp only [List.getElem?_cons_zero,Option.some.injEq] at h
    subst h
    simp only [List.modify_zero_cons,List.mem_cons]
    constructor
    · rintro (h | h)
      · exact .inl h
      · obtain ⟨i,hi⟩:=List.getElem?_of_mem h
        exact .inr ⟨i + 1,by omega,by simpa using hi⟩
    · rintro (h | ⟨i,hne,hi⟩)
      · exact .inl h
      · cases i with
        | zero=>exact absurd rfl hne
        | succ i=>exact .inr (List.mem_of_getElem? (by simpa using hi))
  | a::l,j + 1,x,h,y=>by
    simp only [List.getElem?_cons_succ] at h
    simp only [List.modify_succ_cons,List.mem_cons,mem_modify h y]
    constructor
    · rintro (rfl | h | ⟨i,hne,hi⟩)
      · exact .inr ⟨0,by omega,by simp⟩
      · exact .inl h
      · exact .inr ⟨i + 1,by omega,by simpa using hi⟩
    · rintro (h | ⟨i,hne,hi⟩)
      · exact .inr (.inl h)
      · cases i with
        | zero=>simp only [List.getElem?_cons_zero,Option.some.injEq] at hi; exact .inl hi.symm
        | succ i=>exact .inr (.inr ⟨i,by omega,by simpa using hi⟩)
theorem key_inj:∀ {l:List (Int×β×Nat)},(l.map (·.1)).Nodup→∀ {i j:Nat} {k:Int} {x y:β×Nat},l[i]? =some (k,x)→l[j]? =some (k,y)→i=j:=by
  intro l hn i j k x y hi hj
  have h1:(l.map (·.1))[i]? =some k:=by rw [List.getElem?_map,hi]; rfl
  have h2:(l.map (·.1))[j]? =some k:=by rw [List.getElem?_map,hj]; rfl
  exact (List.getElem?_inj (List.getElem?_eq_some_iff.1 h1).1 hn).1 (h1.trans h2.symm)
theorem map_modify_same {γ δ:Type} (g:γ→δ) (q:γ→γ):∀(l:List γ) (j:Nat),(∀x,l[j]? =some x→g (q x)=g x)→(l.modify j q).map g=l.map g
  | [],j,_=>by simp
  | x::l,0,e=>by simp [e x (by simp)]
  | x::l,j + 1,e=>by simp [map_modify_same g q l j (fun y hy=>e y (by simpa using hy))]
theorem MapM.put {l:List (Int×β×Nat)} {clock:Nat} {D:List (Int×β)} (m:MapM l clock D) {j:Nat} {k:Int} {u v:β} {b:Nat} (hj:l[j]? =some (k,u,b)) :
    MapM (l.modify j fun t=>(k,v,t.2.2)) clock (putK D k v):=by
  refine ⟨putK_rise m.rise,?_,?_,fun t ht=>?_,fun k' v'=>?_⟩
  · rw [map_modify_same]
    · exact m.keys
    · intro x hx; rw [hj] at hx; simp only [Option.some.injEq] at hx; subst hx; rfl
  · rw [map_modify_same]
    · exact m.borns
    · intro x hx; rfl
  · rcases (mem_modify hj t).1 ht with rfl | ⟨i,_,hi⟩
    · exact m.old (k,u,b) (List.mem_of_getElem? hj)
    · exact m.old _ (List.mem_of_getElem? hi)
  · rw [putK_mem m.rise]
    constructor
    · rintro (⟨rfl,rfl⟩ | ⟨hne,hm⟩)
      · exact ⟨b,(mem_modify hj _).2 (.inl rfl)⟩
      · obtain ⟨b',hb'⟩:=(m.mem _ _).1 hm
        obtain ⟨i,hi⟩:=List.getElem?_of_mem hb'
        refine ⟨b',(mem_modify hj _).2 (.inr ⟨i,fun e=>?_,hi⟩)⟩
        subst e; rw [hj] at hi; simp only [Option.some.injEq,Prod.mk.injEq] at hi; exact hne hi.1.symm
    · rintro ⟨b',hb'⟩
      rcases (mem_modify hj _).1 hb' with e | ⟨i,hne,hi⟩
      · simp only [Prod.mk.injEq] at e; exact .inl ⟨e.1,e.2.1⟩
      · refine .inr ⟨fun e=>hne ?_,(m.mem _ _).2 ⟨b',List.mem_of_getElem? hi⟩⟩
        subst e
        exact key_inj m.keys hi hj
theorem MapM.push {l:List (Int×β×Nat)} {clock:Nat} {D:List (Int×β)} (m:MapM l clock D) {k:Int} {v:β} (hk:∀v b,(k,v,b)∉l) :
    MapM (l ++ [(k,v,clock)]) (clock + 1) (putK D k v):=by
  refine ⟨putK_rise m.rise,?_,?_,fun t ht=>?_,fun k' v'=>?_⟩
  · rw [List.map_append,List.nodup_append]
    refine ⟨m.keys,by simp,fun a ha b hb=>?_⟩
    obtain ⟨⟨k0,v0,b0⟩,ht,rfl⟩:=List.mem_map.1 ha
    simp only [List.map_cons,List.map_nil,List.mem_singleton] at hb
    subst hb
    intro e
    simp only at e
    subst e
    exact hk _ _ ht
  · rw [List.map_append,List.nodup_append]
    refine ⟨m.borns,by simp,fun a ha b hb=>?_⟩
    obtain ⟨t,ht,rfl⟩:=List.mem_map.1 ha
    simp only [List.map_cons,List.map_nil,List.mem_singleton] at hb
    have:=m.old _ ht
    omega
  · rcases List.mem_append.1 ht with ht | ht
    · have:=m.old _ ht; omega
    · simp only [List.mem_singleton] at ht; subst ht; simp
  · rw [putK_mem m.rise]
    constructor
    · rintro (⟨rfl,rfl⟩ | ⟨hne,hm⟩)
      · exact ⟨clock,by simp⟩
      · obtain ⟨b',hb'⟩:=(m.mem _ _).1 hm
        exact ⟨b',List.mem_append_left _ hb'⟩
    · rintro ⟨b',hb'⟩
      rcases List.mem_append.1 hb' with hb' | hb'
      · exact .inr ⟨fun e=>hk v' b' (e ▸ hb'),(m.mem _ _).2 ⟨b',hb'⟩⟩
      · simp only [List.mem_singleton,Prod.mk.injEq] at hb'; exact .inl ⟨hb'.1,hb'.2.1⟩
theorem run_put {P:Program} {t:TypeId} {z:Value} {r:Nat} {l:List (Int×β×Nat)} {clock:Nat} {D:List (Int×β)} {k:Int} {v:β} (hM:MapOK P t z) (hb:w.heap[r]? =some (mobj f l clock)) (m:MapM l clock D) :
    ∃l' clock',(Instr.mapUpdate t (.map (some r)) (.int .i64 k) (f v)).run P w= .ok () { w with heap:=w.heap.setIfInBounds r (mobj f l' clock') }∧MapM l' clock' (putK D k v):=by
  obtain ⟨kt,et,h1,h2,_⟩:=hM.ex
  rcases findNow_ent (f:=f) (k:=k) l 0 with ⟨g1,g2⟩ | ⟨j,u,b,g1,g2⟩
  · refine ⟨l ++ [(k,v,clock)],clock + 1,?_,m.push g2⟩
    unfold Instr.mapUpdate
    simp only [Sem.run_bind,run_underlying h1,Result.andThen_ok,MapKept.run_getObj_map hb,toList_mobj,MapKept.run_checkKey h2 (isKey_int k),MapKept.run_findKey h2 g1,MapKept.run_setObj_map _ hb]
    simp [mobj,ent]
  · refine ⟨l.modify j fun t=>(k,v,t.2.2),clock,?_,m.put g1⟩
    have e1:((l.map (ent f)).toArray[0 + j]?.map (·.key)).getD (.int .i64 k)= .int .i64 k:=by
      rw [Nat.zero_add]
      simp [g1,ent]
    unfold Instr.mapUpdate
    simp only [Sem.run_bind,run_underlying h1,Result.andThen_ok,MapKept.run_getObj_map hb,toList_mobj,MapKept.run_checkKey h2 (isKey_int k),MapKept.run_findKey h2 g2,MapKept.run_setObj_map _ hb,e1,MapKept.run_keyThatStays (isKey_int k)]
    rw [Nat.zero_add,List.modify_toArray,modify_map (ent f) _ (fun t=>(k,v,t.2.2)) (fun x=>rfl)]
    rfl
end
section
variable {β : Type} {f : β → Value} {h h' : Zone} {L : List Atom} {w : World}
variable {P : Program} {a : Act} {N : Nat} {fl : FL} {ds : List Nat} {R : Array Oper} {m : List Nat} {S : World → Prop} {K : Act → World → Prop} {pl : List (Nat × Bool)}
def lookAt (R:Array Oper) (N:Nat) (pl:List (Nat×Bool)) (fl:FL):Option (Nat×Option Nat×TypeId×Option Nat×Int×Bool) :=
  match opAt R N pl fl with
  | some (i,o)=>match o.op with
    | .lookup t x k c=>match ev fl x,ev fl k with
      | .map r, .int .i64 n=>some (i,o.dst,t,r,n,c)
      | _,_=>none
    | _=>none
  | none=>none
theorem p_lookup {i:Nat} {d:Option Nat} {t:TypeId} {o:Option Nat} {k:Int} {c:Bool} {z:β} {D:List (Int×β)} (hf:Fr a N fl ds) (ho:lookAt R N pl fl=some (i,d,t,o,k,c)) (hM:MapOK P t (f z)) (hD:LookR f w o D)
    (kk:∀a',Fr a' N (putF fl d (bif c then .tuple #[f (lkK D k z), .bool (hasK D k)] else f (lkK D k z))) ds→(m.contains i=false→S w)∧wpPlan P R m S K pl.tail a' w):wpPlan P R m S K pl a w:=by
  unfold lookAt at ho
  cases h1:opAt R N pl fl with
  | none=>rw [h1] at ho; simp at ho
  | some q =>
    obtain ⟨i',op⟩:=q
    rw [h1] at ho
    simp only at ho
    split at ho
    · rename_i t' x k' c' hop
      split at ho
      · rename_i r n hx hk
        simp only [Option.some.injEq,Prod.mk.injEq] at ho
        obtain ⟨rfl,rfl,rfl,rfl,rfl,rfl⟩:=ho
        refine p_val hf h1 ?_ kk
        have:=hD.run (P:=P) (t:=t') (k:=n) (c:=c') hM
        simp [execOp,hop,hx,hk,this,Result.andThen]
      · cases ho
    · cases ho
def putAt (R:Array Oper) (N:Nat) (pl:List (Nat×Bool)) (fl:FL):Option (Nat×TypeId×Nat×Int×Value) :=
  match opAt R N pl fl with
  | some (i,o)=>match o.op,o.dst with
    | .mapUpdate t m k v,none=>match ev fl m,ev fl k with
      | .map (some r), .int .i64 n=>some (i,t,r,n,ev fl v)
      | _,_=>none
    | .insert t m k v,none=>match ev fl m,ev fl k with
      | .map (some r), .int .i64 n=>some (i,t,r,n,ev fl v)
      | _,_=>none
    | _,_=>none
  | none=>none
theorem putAt_run {i:Nat} {t:TypeId} {r:Nat} {k:Int} {v:Value} {w':World} (ho:putAt R N pl fl=some (i,t,r,k,v)) (hst:(Instr.mapUpdate t (.map (some r)) (.int .i64 k) v).run P w= .ok () w') :
    ∃o,opAt R N pl fl=some (i,o)∧o.dst=none∧(execOp (ev fl) o).run P w= .ok .skip w':=by
  unfold putAt at ho
  cases h1:opAt R N pl fl with
  | none=>rw [h1] at ho; simp at ho
  | some q =>
    obtain ⟨i',o⟩:=q
    rw [h1] at ho
    simp only at ho
    split at ho
    · rename_i t' x k' v' hop hdst
      split at ho
      · rename_i r' n hx hk
        simp only [Option.some.injEq,Prod.mk.injEq] at ho
        obtain ⟨rfl,rfl,rfl,rfl,rfl⟩:=ho
        exact ⟨o,rfl,hdst,by simp [execOp,hop,hx,hk,hst,Result.andThen]⟩
      · cases ho
    · rename_i t' x k' v' hop hdst
      split at ho
      · rename_i r' n hx hk
        simp only [Option.some.injEq,Prod.mk.injEq] at ho
        obtain ⟨rfl,rfl,rfl,rfl,rfl⟩:=ho
        exact ⟨o,rfl,hdst,by simp [execOp,hop,hx,hk,hst,Result.andThen]⟩
      · cases ho
    · cases ho
theorem p_put {i j:Nat} {t:TypeId} {z:Value} {r:Nat} {k:Int} {v:β} {D:List (Int×β)} (hS:St h L w) (hf:Fr a N fl ds) (hj:L[j]? =some (mapA f r D)) (ho:putAt R N pl fl=some (i,t,r,k,f v)) (hM:MapOK P t z)
    (kk:∀w' a',St h (L.set j (mapA f r (putK D k v))) w'→Fr a' N fl ds→(m.contains i=false→S w')∧wpPlan P R m S K pl.tail a' w'):wpPlan P R m S K pl a w:=by
  obtain ⟨x,⟨l,clock,rfl,hm⟩,hxw,_,_⟩:=hS.focus hj
  obtain ⟨l',clock',hrun,hm'⟩:=run_put (k:=k) (v:=v) hM (Hp.one_le.1 hxw) hm
  obtain ⟨o,hop,hd,hex⟩:=putAt_run ho hrun
  refine p_skip hf hop hex fun a' hf'=>?_
  rw [hd] at hf'
  refine kk _ a' ?_ hf'
  obtain ⟨x,hx,hxw',_,hset⟩:=hS.focus hj
  have h1:w.heap[r]? =some (mobj f l clock):=Hp.one_le.1 hxw
  obtain ⟨l2,c2,e2,_⟩:=hx
  subst e2
  have h2:=MapKept.heap_set (o':=mobj f l' clock') h1
  refine hset _ _ (Hp.one r (mobj f l' clock')) ⟨l',clock',rfl,hm'⟩ (Hp.one_le.2 h2.1) (fun k _ hne=>h2.2 k fun e=>?_) (fun k o'' hk=>?_) rfl rfl rfl
  · subst e; simp [Hp.one] at hne
  · right; unfold Hp.one at hk ⊢; split at hk <;> simp_all
theorem p_makeMap {i:Nat} {d:Option Nat} (f:β→Value) (hS:St h L w) (hf:Fr a N fl ds) (he:∀b,newAt P R N pl fl b=some (i,d, .map #[] 0, .map (some b)))
    (k:∀b w' a',St h (mapA f b []::L) w'→Fr a' N (putF fl d (.map (some b))) ds→(m.contains i=false→S w')∧wpPlan P R m S K pl.tail a' w'):wpPlan P R m S K pl a w :=
  p_new (o:=fun _=> .map #[] 0) (v:=fun b=> .map (some b)) hS hf he fun b w' a' hS' hf'=>k b w' a' (hS'.conv (i:=0) rfl fun z hz=>⟨[],0,hz,MapM.nil⟩) hf'
def iterA (f:β→Value) (b:Nat) (left:List (Int×β)):Atom :=
  ⟨fun h z=>(z=Hp.one b (.mapIter none 0 #[] 0)∧left=[])∨∃m l clock seen c0,∃D:List (Int×β),h.blk m=some (mobj f l clock)∧MapM l clock D∧z=Hp.one b (.mapIter (some m) clock seen c0)∧clock≤c0∧left=(l.filter fun t=> !seen.contains t.2.2).map (fun t=>(t.1,t.2.1)),
   fun _ _ _ k e=>e.imp (fun x=>x) fun ⟨m,l,clock,seen,c0,D,e1,e2⟩=>⟨m,l,clock,seen,c0,D,k.blk _ _ e1,e2⟩⟩
def iterE (f:β→Value) (b:Nat) (left:List (Int×β)) (k:Int) (v:β):Atom :=
  ⟨fun h z=>∃(m:Nat) (l:List (Int×β×Nat)) (clock:Nat) (seen:Array Nat) (born:Nat),∃D:List (Int×β),h.blk m=some (mobj f l clock)∧MapM l clock D∧z=Hp.one b (.mapIter (some m) clock (seen.push born) clock)∧(k,v,born)∈l∧left=(l.filter fun t=> !(seen.push born).contains t.2.2).map (fun t=>(t.1,t.2.1)),
   fun _ _ _ k ⟨m,l,clock,seen,born,D,e1,e2⟩=>⟨m,l,clock,seen,born,D,k.blk _ _ e1,e2⟩⟩
theorem iterE_A {b:Nat} {left:List (Int×β)} {k:Int} {v:β} (z:Hp) (e:(iterE f b left k v).P h z):(iterA f b left).P h z:=by
  obtain ⟨m,l,clock,seen,born,D,e1,e2,e3,_,e4⟩:=e
  exact .inr ⟨m,l,clock,seen.push born,clock,D,e1,e2,e3,Nat.le_refl _,e4⟩
def rangeAt (R:Array Oper) (N:Nat) (pl:List (Nat×Bool)) (fl:FL):Option (Nat×Option Nat×TypeId×Option Nat) :=
  match opAt R N pl fl with
  | some (i,o)=>match o.op with
    | .range t x=>match ev fl x with
      | .map r=>some (i,o.dst,t,r)
      | _=>none
    | _=>none
  | none=>none
theorem filter_none (l:List (Int×β×Nat)):(l.filter fun t=> !(#[]:Array Nat).contains t.2.2)=l:=List.filter_eq_self.2 (fun _ _=>by simp)
theorem p_range {i:Nat} {d:Option Nat} {t:TypeId} {o:Option Nat} {z:Value} {D:List (Int×β)} (hS:St h L w) (hf:Fr a N fl ds) (ho:rangeAt R N pl fl=some (i,d,t,o)) (hM:MapOK P t z) (hD:MapR f h o D)
    (kk:∀b w' a' left,(∀p,p∈left↔p∈D)→St h (iterA f b left::L) w'→Fr a' N (putF fl d (.pointer (some ⟨b,0,none⟩))) ds→(m.contains i=false→S w')∧wpPlan P R m S K pl.tail a' w'):wpPlan P R m S K pl a w:=by
  obtain ⟨kt,et,h1,h2,_⟩:=hM.ex
  unfold rangeAt at ho
  cases e1:opAt R N pl fl with
  | none=>rw [e1] at ho; simp at ho
  | some q =>
    obtain ⟨i',op⟩:=q
    rw [e1] at ho
    simp only at ho
    split at ho
    · rename_i t' x hop
      split at ho
      · rename_i r hx
        simp only [Option.some.injEq,Prod.mk.injEq] at ho
        obtain ⟨rfl,rfl,rfl,rfl⟩:=ho
        rcases hD with ⟨rfl,rfl⟩ | ⟨r,l,clock,rfl,hb,hm⟩
        · have hrun:=run_range_nilMap (P:=P) w t' kt et h1
          refine p_val hf e1 (by simp [execOp,hop,hx,hrun,Result.andThen]) fun a' hf'=>kk _ _ a' [] (by simp) (hS.new _ _ (.inl ⟨rfl,rfl⟩)) hf'
        · have hrun:=run_range_map (P:=P) w t' kt et r _ clock h1 (St.blk hS hb)
          refine p_val hf e1 (by simp [execOp,hop,hx,hrun,Result.andThen]) fun a' hf'=>kk _ _ a' (l.map fun t=>(t.1,t.2.1)) (fun p=>?_) (hS.new _ _ (.inr ⟨r,l,clock, #[],clock,D,hb,hm,rfl,Nat.le_refl _,congrArg (List.map fun t:Int×β×Nat=>(t.1,t.2.1)) (filter_none l).symm⟩)) hf'
          obtain ⟨k,v⟩:=p
          rw [hm.mem,List.mem_map]
          constructor
          · rintro ⟨⟨k',v',b'⟩,ht,e⟩; simp only [Prod.mk.injEq] at e; obtain ⟨rfl,rfl⟩:=e; exact ⟨b',ht⟩
          · rintro ⟨b,hb'⟩; exact ⟨_,hb',rfl⟩
      · cases ho
    · cases ho
def nextAt (R:Array Oper) (N:Nat) (pl:List (Nat×Bool)) (fl:FL):Option (Nat×Option Nat×Nat) :=
  match opAt R N pl fl with
  | some (i,o)=>match o.op with
    | .next x false=>match ev fl x with
      | .pointer (some ⟨b,0,none⟩)=>some (i,o.dst,b)
      | _=>none
    | _=>none
  | none=>none
theorem p_next {i j b:Nat} {d:Option Nat} {left:List (Int×β)} (hS:St h L w) (hf:Fr a N fl ds) (ho:nextAt R N pl fl=some (i,d,b)) (hj:L[j]? =some (iterA f b left))
    (k0:left=[]→∀a',Fr a' N (putF fl d (.tuple #[.bool false])) ds→(m.contains i=false→S w)∧wpPlan P R m S K pl.tail a' w)
    (k1:∀(k:Int) (v:β) left' w' a',(∀p,p∈left↔p=(k,v)∨p∈left')→left'.length<left.length→St h (L.set j (iterE f b left' k v)) w'→Fr a' N (putF fl d (.tuple #[.bool true, .int .i64 k,f v])) ds→(m.contains i=false→S w')∧wpPlan P R m S K pl.tail a' w'):wpPlan P R m S K pl a w:=by
  unfold nextAt at ho
  cases e1:opAt R N pl fl with
  | none=>rw [e1] at ho; simp at ho
  | some q =>
    obtain ⟨i',op⟩:=q
    rw [e1] at ho
    simp only at ho
    split at ho
    · rename_i x hop
      split at ho
      · rename_i b' hx
        simp only [Option.some.injEq,Prod.mk.injEq] at ho
        obtain ⟨rfl,rfl,rfl⟩:=ho
        obtain ⟨x0,hx0,hxw,hdx,hset⟩:=hS.focus hj
        rcases hx0 with ⟨rfl,rfl⟩ | ⟨m',l,clock,seen,c0,D,hb,hm,rfl,hc,rfl⟩
        · have hr:w.heap[b']? =some (.mapIter none 0 #[] 0):=Hp.one_le.1 hxw
          have hrun:(Instr.next (.pointer (some ⟨b',0,none⟩)) false op.type).run P w= .ok (.tuple #[.bool false]) w:=by
            simp only [Instr.next,getObj,Sem.run_bind,Sem.run,hr,Result.andThen]
            rfl
          exact p_val hf e1 (by simp [execOp,hop,hx,hrun,Result.andThen]) fun a' hf'=>k0 rfl a' hf'
        · have hr:w.heap[b']? =some (.mapIter (some m') clock seen c0):=Hp.one_le.1 hxw
          have hb':w.heap[m']? =some (.map (l.map (ent f)).toArray clock):=St.blk hS hb
          have hne:m'≠b':=fun e=>by
            subst e
            rcases hdx m' with e | e
            · rw [hb] at e; cases e
            · simp [Hp.one] at e
          have hleft:(leftOf (l.map (ent f)).toArray seen).toList=(l.filter fun t=> !seen.contains t.2.2).map (ent f):=by
            unfold leftOf
            rw [Array.toList_filter,toList_mobj,List.filter_map]
            rfl
          rcases run_next_at (P:=P) w op.type b' m' clock c0 seen _ clock hr hb' (fun x hx=>by
              rw [toList_mobj] at hx
              obtain ⟨t,ht,rfl⟩:=List.mem_map.1 hx
              exact hm.old t ht) hc with ⟨h0,hrun⟩ | ⟨e,he,w1,hal,hrun⟩
          · refine p_val hf e1 (by simp [execOp,hop,hx,hrun,Result.andThen]) fun a' hf'=>k0 ?_ a' hf'
            have:(leftOf (l.map (ent f)).toArray seen).toList=[]:=List.eq_nil_of_length_eq_zero (by simpa using h0)
            rw [hleft] at this
            simp only [List.map_eq_nil_iff] at this
            rw [this]; rfl
          · rw [hleft] at he
            obtain ⟨⟨k,v,born⟩,ht,rfl⟩:=List.mem_map.1 he
            have htl:(k,v,born)∈l:=(List.mem_filter.1 ht).1
            have hsn:seen.contains born=false:=by simpa using (List.mem_filter.1 ht).2
            have hr1:w1.heap[b']? =some (.mapIter (some m') clock seen c0):=by rcases hal with rfl | rfl <;> exact hr
            have h2:=MapKept.heap_set (o':= .mapIter (some m') clock (seen.push born) clock) hr1
            have hrun':(Instr.next (.pointer (some ⟨b',0,none⟩)) false op.type).run P w= .ok (.tuple #[.bool true, .int .i64 k,f v]) (Go.ChangeMaps.setBlock w1 b' (.mapIter (some m') clock (seen.push born) clock)):=hrun
            refine p_val hf e1 (by simp [execOp,hop,hx,hrun',Result.andThen]; rfl) fun a' hf'=>k1 k v ((l.filter fun t=> !(seen.push born).contains t.2.2).map fun t=>(t.1,t.2.1)) _ a' (fun p=>?_) ?_ ?_ hf'
            · simp only [List.mem_map,List.mem_filter]
              constructor
              · rintro ⟨t,⟨ht1,ht2⟩,rfl⟩
                by_cases hb2:t.2.2=born
                · left
                  have hi:=List.getElem?_of_mem ht1
                  have hj2:=List.getElem?_of_mem htl
                  obtain ⟨i1,hi⟩:=hi
                  obtain ⟨j1,hj2⟩:=hj2
                  have g1:(l.map (·.2.2))[i1]? =some born:=by rw [List.getElem?_map,hi]; simp [hb2]
                  have g2:(l.map (·.2.2))[j1]? =some born:=by rw [List.getElem?_map,hj2]; rfl
                  have:=(List.getElem?_inj (List.getElem?_eq_some_iff.1 g1).1 hm.borns).1 (g1.trans g2.symm)
                  subst this
                  rw [hi] at hj2
                  simp only [Option.some.injEq] at hj2
                  subst hj2; rfl
                · refine .inr ⟨t,⟨ht1,?_⟩,rfl⟩
                  rw [contains_push]
                  simp only [Bool.not_or,Bool.and_eq_true]
                  exact ⟨ht2,by simpa using hb2⟩
              · rintro (rfl | ⟨t,⟨ht1,ht2⟩,rfl⟩)
                · exact ⟨_,⟨htl,by simpa using hsn⟩,rfl⟩
                · refine ⟨t,⟨ht1,?_⟩,rfl⟩
                  rw [contains_push] at ht2
                  simp only [Bool.not_or,Bool.and_eq_true] at ht2
                  exact ht2.1
            · have h3:=left_shrinks (l.map (ent f)).toArray seen (ent f (k,v,born)) (by rw [hleft]; exact List.mem_map.2 ⟨_,ht,rfl⟩)
              have hleft2:(leftOf (l.map (ent f)).toArray (seen.push born)).toList=(l.filter fun t=> !(seen.push born).contains t.2.2).map (ent f):=by
                unfold leftOf
                rw [Array.toList_filter,toList_mobj,List.filter_map]
                rfl
              have l1:=congrArg List.length hleft
              have l2:=congrArg List.length hleft2
              simp only [Array.length_toList,List.length_map] at l1 l2
              have e3:(ent f (k,v,born)).born=born:=rfl
              rw [e3,l1,l2] at h3
              simpa only [List.length_map] using h3
            · have hz:(iterE f b' ((l.filter fun t=> !(seen.push born).contains t.2.2).map fun t=>(t.1,t.2.1)) k v).P h (Hp.one b' (.mapIter (some m') clock (seen.push born) clock)):=⟨m',l,clock,seen,born,D,hb,hm,rfl,htl,rfl⟩
              have hw1:∀k:Nat,w1.heap[k]? =w.heap[k]? :=by rcases hal with rfl | rfl <;> exact fun _=>rfl
              refine hset _ _ _ hz (Hp.one_le.2 h2.1) (fun q _ hq=>?_) (fun q o'' hq=>?_) (by rcases hal with rfl | rfl <;> rfl) (by rcases hal with rfl | rfl <;> rfl) (by rcases hal with rfl | rfl <;> rfl)
              · exact (h2.2 q fun e=>by subst e; simp [Hp.one] at hq).trans (hw1 q)
              · right; unfold Hp.one at hq ⊢; split at hq <;> simp_all
      · cases ho
    · cases ho
def entryAt (R:Array Oper) (N:Nat) (pl:List (Nat×Bool)) (fl:FL):Option (Nat×Option Nat×Nat) :=
  match opAt R N pl fl with
  | some (i,o)=>match o.op with
    | .entry x=>match ev fl x with
      | .pointer (some ⟨b,0,none⟩)=>some (i,o.dst,b)
      | _=>none
    | _=>none
  | none=>none
theorem p_entry {i j b:Nat} {d:Option Nat} {left:List (Int×β)} {k:Int} {v:β} (hS:St h L w) (hf:Fr a N fl ds) (ho:entryAt R N pl fl=some (i,d,b)) (hj:L[j]? =some (iterE f b left k v))
    (kk:∀a',Fr a' N (putF fl d (.tuple #[.int .i64 k,f v])) ds→(m.contains i=false→S w)∧wpPlan P R m S K pl.tail a' w):wpPlan P R m S K pl a w:=by
  unfold entryAt at ho
  cases e1:opAt R N pl fl with
  | none=>rw [e1] at ho; simp at ho
  | some q =>
    obtain ⟨i',op⟩:=q
    rw [e1] at ho
    simp only at ho
    split at ho
    · rename_i x hop
      split at ho
      · rename_i b' hx
        simp only [Option.some.injEq,Prod.mk.injEq] at ho
        obtain ⟨rfl,rfl,rfl⟩:=ho
        obtain ⟨x0,⟨m',l,clock,seen,born,D,hb,hm,rfl,htl,rfl⟩,hxw,hdx,hset⟩:=hS.focus hj
        have hr:w.heap[b']? =some (.mapIter (some m') clock (seen.push born) clock):=Hp.one_le.1 hxw
        have hb':w.heap[m']? =some (.map (l.map (ent f)).toArray clock):=St.blk hS hb
        have hrun:(Instr.entry (.pointer (some ⟨b',0,none⟩))).run P w= .ok (.tuple #[.int .i64 k,f v]) w:=run_entry_at (P:=P) w b' m' clock seen _ clock (ent f (k,v,born)) hr hb' (by rw [toList_mobj]; exact List.mem_map.2 ⟨_,htl,rfl⟩) (by
          rw [toList_mobj,List.map_map]; exact hm.borns)
        exact p_val hf e1 (by simp [execOp,hop,hx,hrun,Result.andThen]) fun a' hf'=>kk a' hf'
      · cases ho
    · cases ho
def uniK (D:List (Int×Bool)) (l:List (Int×Bool)):List (Int×Bool):=l.foldl (fun a p=>putK a p.1 true) D
theorem uniK_rise:∀ {l D:List (Int×Bool)},Rise D→Rise (uniK D l)
  | [],_,h=>h
  | _::l,_,h=>uniK_rise (l:=l) (putK_rise h)
theorem uniK_mem:∀ {l D:List (Int×Bool)},Rise D→∀j u,(j,u)∈uniK D l↔(u=true∧∃v,(j,v)∈l)∨((∀v,(j,v)∉l)∧(j,u)∈D)
  | [],D,h,j,u=>by simp [uniK]
  | p::l,D,h,j,u=>by
    show (j,u)∈uniK (putK D p.1 true) l↔_
    rw [uniK_mem (putK_rise h),putK_mem h]
    obtain ⟨k,x⟩:=p
    by_cases e:j=k
    · subst e
      constructor
      · rintro (⟨h1,v,h2⟩ | ⟨h1,⟨_,h2⟩ | ⟨h2,_⟩⟩)
        · exact .inl ⟨h1,v,List.mem_cons_of_mem _ h2⟩
        · exact .inl ⟨h2,x,by simp⟩
        · exact absurd rfl h2
      · rintro (⟨h1,v,h2⟩ | ⟨h1,h2⟩)
        · by_cases e2:∃v,(j,v)∈l
          · exact .inl ⟨h1,e2⟩
          · exact .inr ⟨fun v hv=>e2 ⟨v,hv⟩, .inl ⟨rfl,h1⟩⟩
        · exact absurd (by simp) (h1 x)
    · have hk:∀v,(j,v)∈(k,x)::l↔(j,v)∈l:=fun v=>by simp [e]
      simp only [hk,e,false_and,ne_eq,not_false_eq_true,true_and,false_or]
theorem uniK_step {D left left':List (Int×Bool)} {k:Int} {v:Bool} (h:Rise D) (e:∀p,p∈left↔p=(k,v)∨p∈left'):uniK D left=uniK (putK D k true) left':=by
  have e2:uniK (putK D k true) left'=uniK D ((k,v)::left'):=rfl
  rw [e2]
  refine rise_ext (uniK_rise h) (uniK_rise h) fun p=>?_
  obtain ⟨j,u⟩:=p
  simp only [uniK_mem h,e,List.mem_cons]
theorem uniK_same {D left left':List (Int×Bool)} (h:Rise D) (e:∀p,p∈left↔p∈left'):uniK D left=uniK D left':=by
  refine rise_ext (uniK_rise h) (uniK_rise h) fun p=>?_
  obtain ⟨j,u⟩:=p
  simp only [uniK_mem h,e]
theorem _root_.Go.Sl.St.mapRise (s:St h L w) {j r:Nat} {D:List (Int×β)} (hj:L[j]? =some (mapA f r D)):Rise D:=by
  obtain ⟨x,⟨l,clock,rfl,hm⟩,_,_,_⟩:=s.focus hj
  exact hm.rise
theorem MapM.len {l:List (Int×β×Nat)} {clock:Nat} {D:List (Int×β)} (m:MapM l clock D):l.length=D.length:=by
  have h1:(l.map fun t=>(t.1,t.2.1)).length=D.length:=by
    have hn1:(l.map (·.1)).Nodup:=m.keys
    have hn2:(D.map (·.1)).Nodup:=by
      have:=m.rise
      unfold Rise at this
      rw [List.Nodup,List.pairwise_map]
      exact this.imp fun h e=>by omega
    have e:∀k,k∈l.map (·.1)↔k∈D.map (·.1):=fun k=>by
      simp only [List.mem_map]
      constructor
      · rintro ⟨⟨k',v,b⟩,ht,rfl⟩; exact ⟨(k',v),(m.mem _ _).2 ⟨b,ht⟩,rfl⟩
      · rintro ⟨⟨k',v⟩,ht,rfl⟩; obtain ⟨b,hb⟩:=(m.mem _ _).1 ht; exact ⟨(k',v,b),hb,rfl⟩
    have:=((List.perm_ext_iff_of_nodup hn1 hn2).2 e).length_eq
    simpa using this
  simpa using h1
end
end Go.Sx
set_option linter.unusedVariables false
set_option linter.unusedSimpArgs false
namespace Go.Sx
open Go.Sl
section
variable {α : Type} {T : Ty α} {h h' : Zone} {L : List Atom} {w : World} {E : TypeId}
theorem _root_.Go.Sl.St.splitE (s:St h L w) {i:Nat} {A:Atom} (hi:L[i]? =some A) :
    ∃x,A.P h x∧∀(B C:Atom) (x1 x2:Hp),B.P h x1→C.P h x2→x1.apart x2→x=x1.add x2→St h (B::L.set i C) w:=by
  obtain ⟨z,hz,hd,hb,hzw⟩:=s.sep
  obtain ⟨u,v,hu,duv,e,hset⟩:=hz.focus hi
  subst e
  refine ⟨u,hu,fun B C x1 x2 h1 h2 d12 e'=>?_⟩
  subst e'
  obtain ⟨d1,d2⟩:=Hp.add_apart.1 duv
  refine ⟨⟨x1.add (x2.add v),⟨x1,x2.add v,h1,hset h C x2 (Zone.le_refl h) h2 d2,Hp.apart_add.2 ⟨d12,d1⟩,rfl⟩,?_,hb,?_⟩,s.os,s.tape,s.output⟩
  · rw [← Hp.add_assoc]; exact hd
  · rw [← Hp.add_assoc]; exact hzw
def star (A B:Atom):Atom:=⟨fun h z=>∃x y,A.P h x∧B.P h y∧x.apart y∧z=x.add y,fun _ _ _ k ⟨x,y,hx,hy,d,e⟩=>⟨x,y,A.mono _ _ _ k hx,B.mono _ _ _ k hy,d,e⟩⟩
structure Pl where
  lots:List Lot
  holds:List (List (List Part))
  may:List (List (List (Int×Bool)))
abbrev HeapT:Ty (List Part):=Ty.slice PartT
abbrev SetT:Ty (List (Int×Bool)):=Ty.map Value.bool
def plA (X E1 E2:TypeId) (b:Nat) (P:Pl):Atom :=
  ⟨fun h z=>∃o c vs ms,SliceR LotT h o c P.lots∧vs.length=9∧ms.length=9∧(star (ownA SetT E2 ms P.may) (star (ownA HeapT E1 vs P.holds) (box b (.slice o P.lots.length c::(vs ++ ms)) X))).P h z,
   fun _ _ _ k ⟨o,c,vs,ms,e1,e2,e3,e4⟩=>⟨o,c,vs,ms,e1.mono k,e2,e3,(star _ _).mono _ _ _ k e4⟩⟩
theorem _root_.Go.Sl.St.plOpen (s:St h L w) {i:Nat} {X E1 E2:TypeId} {b:Nat} {P:Pl} (hi:L[i]? =some (plA X E1 E2 b P)) :
    ∃o c v0 v1 v2 v3 v4 v5 v6 v7 v8 m0 m1 m2 m3 m4 m5 m6 m7 m8,SliceR LotT h o c P.lots ∧
      St h (ownA HeapT E1 [v0,v1,v2,v3,v4,v5,v6,v7,v8] P.holds::ownA SetT E2 [m0,m1,m2,m3,m4,m5,m6,m7,m8] P.may ::
        L.set i (box b [.slice o P.lots.length c,v0,v1,v2,v3,v4,v5,v6,v7,v8,m0,m1,m2,m3,m4,m5,m6,m7,m8] X)) w:=by
  obtain ⟨x,⟨o,c,vs,ms,e1,e2,e3,x1,x2,hx1,hx2,d12,e4⟩,hset⟩:=s.splitE hi
  obtain ⟨v0,v1,v2,v3,v4,v5,v6,v7,v8,rfl⟩:=nine e2
  obtain ⟨m0,m1,m2,m3,m4,m5,m6,m7,m8,rfl⟩:=nine e3
  have s1:=hset _ _ _ _ hx1 hx2 d12 e4
  have hlt:i<L.length:=(List.getElem?_eq_some_iff.1 hi).1
  have hi1:(ownA SetT E2 [m0,m1,m2,m3,m4,m5,m6,m7,m8] P.may::L.set i (star (ownA HeapT E1 [v0,v1,v2,v3,v4,v5,v6,v7,v8] P.holds) (box b (.slice o P.lots.length c::([v0,v1,v2,v3,v4,v5,v6,v7,v8] ++ [m0,m1,m2,m3,m4,m5,m6,m7,m8])) X)))[i + 1]? =some (star (ownA HeapT E1 [v0,v1,v2,v3,v4,v5,v6,v7,v8] P.holds) (box b (.slice o P.lots.length c::([v0,v1,v2,v3,v4,v5,v6,v7,v8] ++ [m0,m1,m2,m3,m4,m5,m6,m7,m8])) X)):=by
    rw [List.getElem?_cons_succ,List.getElem?_set_self hlt]
  have s2:=s1.split hi1 fun z e=>e
  rw [List.set_cons_succ,List.set_set] at s2
  exact ⟨o,c,v0,v1,v2,v3,v4,v5,v6,v7,v8,m0,m1,m2,m3,m4,m5,m6,m7,m8,e1,s2⟩
theorem _root_.Go.Sl.St.plClose (s:St h L w) {i j k:Nat} {X E1 E2:TypeId} {b:Nat} {o:Option Addr} {c:Nat} {lots:List Lot} {holds:List (List (List Part))} {may:List (List (List (Int×Bool)))} {v0 v1 v2 v3 v4 v5 v6 v7 v8 m0 m1 m2 m3 m4 m5 m6 m7 m8:Value}
    (hi:L[i]? =some (box b [.slice o lots.length c,v0,v1,v2,v3,v4,v5,v6,v7,v8,m0,m1,m2,m3,m4,m5,m6,m7,m8] X)) (hl:SliceR LotT h o c lots)
    (hj:L[j]? =some (ownA HeapT E1 [v0,v1,v2,v3,v4,v5,v6,v7,v8] holds)) (hk:L[k]? =some (ownA SetT E2 [m0,m1,m2,m3,m4,m5,m6,m7,m8] may)) (hji:j≠i) (hki:k≠i) (hkj:k≠j) :
    St h (((L.set i (plA X E1 E2 b ⟨lots,holds,may⟩)).set j emp).set k emp) w:=by
  have s1:=s.join (C:=star (ownA HeapT E1 [v0,v1,v2,v3,v4,v5,v6,v7,v8] holds) (box b [.slice o lots.length c,v0,v1,v2,v3,v4,v5,v6,v7,v8,m0,m1,m2,m3,m4,m5,m6,m7,m8] X)) hi hj hji
    fun x y hx hy d=>⟨y,x,hy,hx,Hp.apart_comm d,Hp.add_comm d⟩
  have hlt:i<L.length:=(List.getElem?_eq_some_iff.1 hi).1
  have hi1:((L.set i (star (ownA HeapT E1 [v0,v1,v2,v3,v4,v5,v6,v7,v8] holds) (box b [.slice o lots.length c,v0,v1,v2,v3,v4,v5,v6,v7,v8,m0,m1,m2,m3,m4,m5,m6,m7,m8] X))).set j emp)[i]? =some (star (ownA HeapT E1 [v0,v1,v2,v3,v4,v5,v6,v7,v8] holds) (box b [.slice o lots.length c,v0,v1,v2,v3,v4,v5,v6,v7,v8,m0,m1,m2,m3,m4,m5,m6,m7,m8] X)):=by
    rw [List.getElem?_set_ne hji,List.getElem?_set_self hlt]
  have hk1:((L.set i (star (ownA HeapT E1 [v0,v1,v2,v3,v4,v5,v6,v7,v8] holds) (box b [.slice o lots.length c,v0,v1,v2,v3,v4,v5,v6,v7,v8,m0,m1,m2,m3,m4,m5,m6,m7,m8] X))).set j emp)[k]? =some (ownA SetT E2 [m0,m1,m2,m3,m4,m5,m6,m7,m8] may):=by
    rw [List.getElem?_set_ne (Ne.symm hkj),List.getElem?_set_ne (Ne.symm hki)]; exact hk
  have s2:=s1.join (C:=plA X E1 E2 b ⟨lots,holds,may⟩) hi1 hk1 hki fun x y hx hy d=>⟨o,c,[v0,v1,v2,v3,v4,v5,v6,v7,v8],[m0,m1,m2,m3,m4,m5,m6,m7,m8],hl,rfl,rfl,y,x,hy,hx,Hp.apart_comm d,Hp.add_comm d⟩
  rw [List.set_comm _ _ hji,List.set_set] at s2
  exact s2
def plO (X E1 E2:TypeId) (p:Option Addr) (x:Option Pl):Atom :=
  ⟨fun h z=>match x with | none=>p=none∧z=Hp.nil | some P=>∃b,p=some ⟨b,0,none⟩∧(plA X E1 E2 b P).P h z,
   fun _ _ _ k e=>by
    cases x with
    | none=>exact e
    | some P=>obtain ⟨b,e1,e2⟩:=e; exact ⟨b,e1,(plA X E1 E2 b P).mono _ _ _ k e2⟩⟩
theorem _root_.Go.Sl.St.plNone (s:St h L w) (X E1 E2:TypeId):St h (plO X E1 E2 none none::L) w:=by
  obtain ⟨z,hz,hd,hb,hzw⟩:=s.sep
  exact ⟨⟨z,⟨Hp.nil,z,⟨rfl,rfl⟩,hz,Hp.apart_comm (Hp.apart_nil _),rfl⟩,hd,hb,hzw⟩,s.os,s.tape,s.output⟩
theorem _root_.Go.Sl.St.plSome (s:St h L w) {i:Nat} {X E1 E2:TypeId} {b:Nat} {P:Pl} (hi:L[i]? =some (plA X E1 E2 b P)):St h (L.set i (plO X E1 E2 (some ⟨b,0,none⟩) (some P))) w :=
  s.conv hi fun z e=>⟨b,rfl,e⟩
theorem _root_.Go.Sl.St.plGet (s:St h L w) {i:Nat} {X E1 E2:TypeId} {p:Option Addr} {P:Pl} (hi:L[i]? =some (plO X E1 E2 p (some P))):∃b,p=some ⟨b,0,none⟩∧St h (L.set i (plA X E1 E2 b P)) w:=by
  obtain ⟨x,⟨b,e1,e2⟩,_,_,_⟩:=s.focus hi
  refine ⟨b,e1,s.conv hi fun z ⟨b',e1',e2'⟩=>?_⟩
  rw [e1] at e1'
  simp only [Option.some.injEq,Addr.mk.injEq,and_true] at e1'
  rw [e1']; exact e2'
def rawA (y:Hp):Atom:=⟨fun _ z=>z=y,fun _ _ _ _ e=>e⟩
theorem lend {P:Program} {f:FuncId} {args:Array Value} {v:Value} (s:St h L w) {j:Nat} {vs:List Value} {D:List (List α)} {n:Nat} (hj:L[j]? =some (ownA T E vs D)) (hn:vs.length=n)
    (k:∀h1 L1,h.le h1→(Ty.arr n (Ty.slice T)).rep h1 vs D→St h1 L1 w→Calls P f args w fun e w'=>∃u,e= .returned u∧∃h2,h1.le h2∧u=v∧St h2 L1 w') :
    Calls P f args w fun e w'=>∃u,e= .returned u∧∃h2,h.le h2∧u=v∧St h2 L w':=by
  obtain ⟨z,hz,hd,hb,hzw⟩:=s.sep
  obtain ⟨x,y,hx,dxy,e,hset⟩:=hz.focus hj
  subst e
  obtain ⟨d1,d2⟩:=Hp.apart_add.1 hd
  let h1:Zone:=⟨h.blk.add x,h.os,h.tape,h.output⟩
  have hle:h.le h1:=⟨Hp.le_add_left _ _,rfl,rfl,rfl⟩
  have hxw:x.le (fun b=>w.heap[b]?):=Hp.le_trans (Hp.le_add_left _ _) hzw
  have hyw:y.le (fun b=>w.heap[b]?):=Hp.le_trans (Hp.le_add_right dxy) hzw
  have hx1:=(ownA T E vs D).mono _ _ _ hle hx
  obtain ⟨os,f1,f2,f3⟩:=hx1
  have hrep:(Ty.arr n (Ty.slice T)).rep h1 vs D:=by
    subst hn
    have hl:vs.length=D.length:=ownA_len hx
    have:(Ty.arr D.length (Ty.slice T)).rep h1 vs D:=⟨rfl,by rw [f2]; exact ownRows f1 f3 (Hp.le_add_right d1)⟩
    rw [hl]; exact this
  have s1:St h1 [rawA y] w:=⟨⟨y,⟨y,Hp.nil,rfl,rfl,Hp.apart_nil _,(Hp.add_nil y).symm⟩,Hp.add_apart.2 ⟨d2,dxy⟩,Hp.add_le hb hxw,hyw⟩,s.os,s.tape,s.output⟩
  refine (k h1 [rawA y] hle hrep s1).mono fun e w' ⟨u,he,h2,hle2,hu,s2⟩=>⟨u,he,?_⟩
  obtain ⟨z',⟨y',q,hy',hq,_,e'⟩,hd',hb',hzw'⟩:=s2.sep
  have ey:y'=y:=hy'
  have eq:q=Hp.nil:=hq
  subst ey eq
  rw [Hp.add_nil] at e'
  subst e'
  let h3:Zone:=⟨fun b=>if (x b).isSome then none else h2.blk b,h2.os,h2.tape,h2.output⟩
  have hle3:h.le h3:=by
    refine ⟨fun b o ho=>?_,hle2.os.trans hle.os,hle2.tape.trans hle.tape,hle2.output.trans hle.output⟩
    have hxb:x b=none:=by
      rcases d1 b with e | e
      · rw [e] at ho; cases ho
      · exact e
    show (if (x b).isSome then none else h2.blk b)=some o
    rw [hxb]
    exact hle2.blk _ _ (hle.blk _ _ ho)
  have hx2:x.le h2.blk:=Hp.le_trans (Hp.le_add_right d1) hle2.blk
  have h32:h3.blk.le h2.blk:=fun b o ho=>by
    have ho':(if (x b).isSome then none else h2.blk b)=some o:=ho
    split at ho'
    · cases ho'
    · exact ho'
  refine ⟨h3,hle3,hu,⟨⟨x.add z',?_,?_,?_,?_⟩,s2.os,s2.tape,s2.output⟩⟩
  · have:=hset h3 (ownA T E vs D) x hle3 ((ownA T E vs D).mono _ _ _ hle3 hx) dxy
    have e0:L.set j (ownA T E vs D)=L:=set_same hj
    rwa [e0] at this
  · refine Hp.apart_add.2 ⟨fun b=>?_,fun b=>?_⟩
    · cases hxb:x b with
      | none=>exact .inr rfl
      | some o=>left; show (if (x b).isSome then none else h2.blk b)=none; rw [hxb]; rfl
    · rcases hd' b with e | e
      · left; show (if (x b).isSome then none else h2.blk b)=none; split
        · rfl
        · exact e
      · exact .inr e
  · exact Hp.le_trans h32 hb'
  · exact Hp.add_le (Hp.le_trans hx2 hb') hzw'
def fnV:Option Nat→Value
  | some n=> .func (.func n) #[] #[]
  | none=> .nilFunc
structure DRow where
  lot:Bool
  frm:Bool
  to:Bool
  mass:Bool
  fn:Option Nat
def rowV (r:DRow):Value:= .agg #[.bool r.lot, .bool r.frm, .bool r.to, .bool r.mass,fnV r.fn]
def zrow:DRow:=⟨false,false,false,false,none⟩
structure Bag where
  parts:List Part
  may:List (Int×Bool)
def BagT:Ty Bag where
  size:=2
  rep h cs x:=∃o c m,cs=[.slice o x.parts.length c, .map m]∧SliceR PartT h o c x.parts∧MapR Value.bool h m x.may
  len:=by rintro h cs x ⟨o,c,m,rfl,_,_⟩; rfl
  one:=by rintro h cs x ⟨o,c,m,rfl,_,_⟩ v hv; simp only [List.mem_cons,List.not_mem_nil,or_false] at hv; rcases hv with rfl | rfl <;> rfl
  mono:=by rintro h h' cs x k ⟨o,c,m,e,s1,s2⟩; exact ⟨o,c,m,e,s1.mono k,s2.mono k⟩
theorem bagRep {x:Bag} {o:Option Addr} {c:Nat} {m:Option Nat} (s1:SliceR PartT h o c x.parts) (s2:MapR Value.bool h m x.may):BagT.rep h [.slice o x.parts.length c, .map m] x:=⟨o,c,m,rfl,s1,s2⟩
theorem _root_.Go.Sl.St.addEmp (s:St h L w):St h (emp::L) w:=by
  obtain ⟨z,hz,hd,hb,hzw⟩:=s.sep
  exact ⟨⟨z,⟨Hp.nil,z,rfl,hz,Hp.apart_comm (Hp.apart_nil _),rfl⟩,hd,hb,hzw⟩,s.os,s.tape,s.output⟩
theorem _root_.Go.Sl.St.swapTo (s:St h L w) {i j:Nat} {A:Atom} (hi:L[i]? =some A) (hj:L[j]? =some emp) (hij:i≠j):St h ((L.set j A).set i emp) w :=
  s.join hj hi hij fun x y hx hy d=>by
    have ex:x=Hp.nil:=hx
    subst ex
    rw [Hp.nil_add]; exact hy
def getO {γ:Type} (D:List (Option γ)) (i:Int):Option γ:=(getI D i).bind fun x=>x
theorem getO_spec {γ:Type} {D:List (Option γ)} {i:Int} {d:γ} (e:getO D i=some d):i.toNat<D.length∧(0≤i∧i<D.length)∧D[i.toNat]? =some (some d):=by
  unfold getO at e
  cases hg:getI D i with
  | none=>rw [hg] at e; cases e
  | some x =>
    rw [hg] at e
    simp only [Option.bind_some] at e
    subst e
    obtain ⟨h1,h2⟩:=getI_spec hg
    exact ⟨(List.getElem?_eq_some_iff.1 h2).1,h1,h2⟩
def allS {γ:Type}:List (Option γ)→Option (List γ)
  | []=>some []
  | none::_=>none
  | some d::D=>(allS D).map fun l=>d::l
theorem allS_spec {γ:Type}:∀ {D:List (Option γ)} {l:List γ},allS D=some l→D=l.map some
  | [],l,e=>by simp only [allS,Option.some.injEq] at e; subst e; rfl
  | none::_,l,e=>by cases e
  | some d::D,l,e=>by
    simp only [allS] at e
    cases h:allS D with
    | none=>rw [h] at e; cases e
    | some m =>
      rw [h] at e
      simp only [Option.map_some,Option.some.injEq] at e
      subst e
      rw [allS_spec h]; rfl
def cellO (T:Ty α) (E:TypeId) (p:Option Addr×Nat):Option (List α)→Atom
  | none=>emp
  | some d=>ownS T E p.1 p.2 d
def ownOL (T:Ty α) (E:TypeId) (os:List (Option Addr×Nat)) (D:List (Option (List α))):List Atom:=List.zipWith (fun p d=>cellO T E p d) os D
structure OShape (vs:List Value) (os:List (Option Addr×Nat)) (D:List (Option (List α))):Prop where
  l1:os.length=D.length
  l2:vs.length=D.length
  one:oneCells vs=true
  at_:∀(i:Nat) (d:List α) (p:Option Addr×Nat),D[i]? =some (some d)→os[i]? =some p→vs[i]? =some (Value.slice p.1 d.length p.2)
def ownO (T:Ty α) (E:TypeId) (vs:List Value) (D:List (Option (List α))):Atom :=
  ⟨fun h z=>∃os,OShape vs os D∧Sep h (ownOL T E os D) z,fun _ _ _ k e=>e.elim fun os e=>⟨os,e.1,e.2.mono k⟩⟩
def ownP (T:Ty α) (E:TypeId) (vs:List Value) (D:List (Option (List α))) (n:Nat):Atom :=
  ⟨fun h z=>∃os,OShape vs os D∧Sep h ((ownOL T E os D).set n emp) z,fun _ _ _ k e=>e.elim fun os e=>⟨os,e.1,e.2.mono k⟩⟩
theorem oneCells_of {vs:List Value} (h:∀v∈vs,v.oneCell'=true):oneCells vs=true:=by
  induction vs with
  | nil=>rfl
  | cons v vs ih=>simp only [oneCells,Bool.and_eq_true]; exact ⟨h v (by simp),ih fun u hu=>h u (by simp [hu])⟩
theorem oneCells_set:∀ {vs:List Value} {n:Nat} {v:Value},oneCells vs=true→v.oneCell'=true→oneCells (vs.set n v)=true
  | [],n,v,h,_=>h
  | u::vs,0,v,h,k=>by simp only [oneCells,Bool.and_eq_true,List.set_cons_zero] at h ⊢; exact ⟨k,h.2⟩
  | u::vs,n + 1,v,h,k=>by simp only [oneCells,Bool.and_eq_true,List.set_cons_succ] at h ⊢; exact ⟨h.1,oneCells_set h.2 k⟩
theorem Sep.emps:∀n,Sep h (List.replicate n emp) Hp.nil
  | 0=>rfl
  | n + 1=>⟨Hp.nil,Hp.nil,rfl,Sep.emps n,Hp.apart_nil _,rfl⟩
theorem ownOL_none (T:Ty α) (E:TypeId):∀n (os:List (Option Addr×Nat)),os.length=n→ownOL T E os (List.replicate n none)=List.replicate n emp
  | 0,[],_=>rfl
  | n + 1,p::os,e=>by
    have:=ownOL_none T E n os (by simpa using e)
    show cellO T E p none::ownOL T E os (List.replicate n none)=emp::List.replicate n emp
    rw [this]; rfl
theorem _root_.Go.Sl.St.ownNewO (s:St h L w) (T:Ty α) (E:TypeId) {n:Nat} {vs:List Value} (hn:vs.length=n) (h1:oneCells vs=true):St h (ownO T E vs (List.replicate n none)::L) w:=by
  obtain ⟨z,hz,hd,hb,hzw⟩:=s.sep
  refine ⟨⟨z,⟨Hp.nil,z,⟨List.replicate n (none,0),⟨by simp,by simp [hn],h1,fun i d p hd=>?_⟩,?_⟩,hz,Hp.apart_comm (Hp.apart_nil _),rfl⟩,hd,hb,hzw⟩,s.os,s.tape,s.output⟩
  · rw [List.getElem?_replicate] at hd; split at hd <;> cases hd
  · rw [ownOL_none T E n _ (by simp)]; exact Sep.emps n
theorem ownOL_get {os:List (Option Addr×Nat)} {D:List (Option (List α))} {n:Nat} {p:Option Addr×Nat} {d:Option (List α)} (hp:os[n]? =some p) (hd:D[n]? =some d):(ownOL T E os D)[n]? =some (cellO T E p d):=by
  unfold ownOL; rw [List.getElem?_zipWith,hp,hd]
theorem ownOL_set:∀ {os:List (Option Addr×Nat)} {D:List (Option (List α))} {n:Nat} {p:Option Addr×Nat} {d:Option (List α)},ownOL T E (os.set n p) (D.set n d)=(ownOL T E os D).set n (cellO T E p d)
  | [],D,n,p,d=>by simp [ownOL]
  | _::_,[],n,p,d=>by simp [ownOL]
  | a::os,b::D,0,p,d=>by simp [ownOL]
  | a::os,b::D,n + 1,p,d=>by
    have:=ownOL_set (os:=os) (D:=D) (n:=n) (p:=p) (d:=d)
    simpa [ownOL] using this
theorem _root_.Go.Sl.St.ownOpenO (s:St h L w) {j:Nat} {vs:List Value} {D:List (Option (List α))} (hj:L[j]? =some (ownO T E vs D)) {i:Int} {d:List α} (e:getO D i=some d) :
    ∃o cap,vs[i.toNat]? =some (.slice o d.length cap)∧(0≤i∧i<vs.length)∧St h (ownS T E o cap d::L.set j (ownP T E vs D i.toNat)) w:=by
  obtain ⟨hlt,hb,hx⟩:=getO_spec e
  obtain ⟨x,⟨os,sh,e3⟩,hset⟩:=s.splitE hj
  have hlt':i.toNat<os.length:=by rw [sh.l1]; exact hlt
  obtain ⟨x1,y,hx',dxy,ez,hset'⟩:=e3.focus (ownOL_get (List.getElem?_eq_getElem hlt') hx)
  refine ⟨os[i.toNat].1,os[i.toNat].2,sh.at_ _ _ _ hx (List.getElem?_eq_getElem hlt'),⟨hb.1,by rw [sh.l2]; exact hb.2⟩,hset _ _ x1 y hx' ⟨os,sh,?_⟩ dxy ez⟩
  have:=hset' h emp Hp.nil (Zone.le_refl h) rfl (Hp.apart_comm (Hp.apart_nil _))
  rwa [Hp.nil_add] at this
theorem _root_.Go.Sl.St.ownOpenS (s:St h L w) {j:Nat} {vs:List Value} {D:List (Option (List α))} (hj:L[j]? =some (ownO T E vs D)) {i:Int} {y:Option (List α)} (e:getI D i=some y) :
    (0≤i∧i<vs.length)∧St h (L.set j (ownP T E vs D i.toNat)) w:=by
  obtain ⟨hb,hx⟩:=getI_spec e
  have hlt:=(List.getElem?_eq_some_iff.1 hx).1
  obtain ⟨x,⟨os,sh,e3⟩,hset⟩:=s.splitE hj
  have hlt':i.toNat<os.length:=by rw [sh.l1]; exact hlt
  obtain ⟨x1,y',hx',dxy,ez,hset'⟩:=e3.focus (ownOL_get (List.getElem?_eq_getElem hlt') hx)
  have h2:=hset' h emp Hp.nil (Zone.le_refl h) rfl (Hp.apart_comm (Hp.apart_nil _))
  rw [Hp.nil_add] at h2
  exact ⟨⟨hb.1,by rw [sh.l2]; exact hb.2⟩,(hset anyA (ownP T E vs D i.toNat) x1 y' trivial ⟨os,sh,h2⟩ dxy ez).tail⟩
theorem _root_.Go.Sl.St.ownCloseO (s:St h L w) {j k:Nat} {vs:List Value} {D:List (Option (List α))} {n:Nat} {o:Option Addr} {cap:Nat} {d:List α} (hj:L[j]? =some (ownP T E vs D n)) (hk:L[k]? =some (ownS T E o cap d)) (hjk:k≠j) (hn:n<D.length) :
    St h ((L.set j (ownO T E (vs.set n (.slice o d.length cap)) (D.set n (some d)))).set k emp) w:=by
  refine s.join hj hk hjk fun x y ⟨os,sh,e3⟩ hy dxy=>⟨os.set n (o,cap),⟨by simp [sh.l1],by simp [sh.l2],oneCells_set sh.one rfl,fun i d' p hd hp=>?_⟩,?_⟩
  · by_cases hi:i=n
    · subst hi
      rw [List.getElem?_set_self hn] at hd
      rw [List.getElem?_set_self (by rw [sh.l1]; exact hn)] at hp
      simp only [Option.some.injEq] at hd hp
      subst hd hp
      rw [List.getElem?_set_self (by rw [sh.l2]; exact hn)]
    · rw [List.getElem?_set_ne (Ne.symm hi)] at hd hp ⊢
      exact sh.at_ i d' p hd hp
  · rw [ownOL_set]
    have hnl:n<(ownOL T E os D).length:=by simp [ownOL,sh.l1]; exact hn
    have hg:((ownOL T E os D).set n emp)[n]? =some emp:=by rw [List.getElem?_set_self hnl]
    obtain ⟨a,b,ha,dab,ez,hset⟩:=e3.focus hg
    have ha':a=Hp.nil:=ha
    subst ha'
    rw [Hp.nil_add] at ez
    subst ez
    have:=hset h (ownS T E o cap d) y (Zone.le_refl h) hy (Hp.apart_comm dxy)
    rw [List.set_set] at this
    rw [Hp.add_comm dxy]
    exact this
theorem ownOL_all (T:Ty α) (E:TypeId):∀(os:List (Option Addr×Nat)) (l:List (List α)),ownOL T E os (l.map some)=ownL T E os l
  | [],_=>by simp [ownOL,ownL]
  | _::_,[]=>by simp [ownOL,ownL]
  | p::os,d::l=>by
    have:=ownOL_all T E os l
    simpa [ownOL,ownL,cellO] using this
theorem cells_all:∀ {vs:List Value} {os:List (Option Addr×Nat)} {l:List (List α)},os.length=l.length→vs.length=l.length→(∀(i:Nat) (d:List α) (p:Option Addr×Nat),l[i]? =some d→os[i]? =some p→vs[i]? =some (Value.slice p.1 d.length p.2))→vs=cellL os l
  | [],os,[],_,_,_=>by cases os <;> rfl
  | [],_,_::_,_,e2,_=>by cases e2
  | _::_,_,[],_,e2,_=>by cases e2
  | _::_,[],_::_,e1,_,_=>by cases e1
  | v::vs,p::os,d::l,e1,e2,k=>by
    have h0:=k 0 d p rfl rfl
    simp only [List.getElem?_cons_zero,Option.some.injEq] at h0
    have:=cells_all (vs:=vs) (os:=os) (l:=l) (by simpa using e1) (by simpa using e2) fun i d' p' hd hp=>k (i + 1) d' p' hd hp
    show v::vs=Value.slice p.1 d.length p.2::cellL os l
    rw [h0, ← this]
theorem _root_.Go.Sl.St.ownAll (s:St h L w) {j:Nat} {vs:List Value} {D:List (Option (List α))} {l:List (List α)} (hj:L[j]? =some (ownO T E vs D)) (e:allS D=some l):St h (L.set j (ownA T E vs l)) w:=by
  have e':=allS_spec e
  subst e'
  refine s.conv hj fun z ⟨os,sh,e3⟩=>⟨os,by simpa using sh.l1,cells_all (by simpa using sh.l1) (by simpa using sh.l2) fun i d p hd hp=>sh.at_ i d p (by rw [List.getElem?_map,hd]; rfl) hp,?_⟩
  rw [ownOL_all] at e3; exact e3
theorem _root_.Go.Sl.St.ownOnesO (s:St h L w) {j:Nat} {vs:List Value} {D:List (Option (List α))} (hj:L[j]? =some (ownO T E vs D)):oneCells vs=true:=by
  obtain ⟨z,⟨os,sh,_⟩,_,_,_⟩:=s.focus hj
  exact sh.one
def cpC {γ:Type} (xs ys:List γ):Option Unit:=if xs.length=ys.length then some () else none
theorem cpC_spec {γ:Type} {xs ys:List γ} {u:Unit} (e:cpC xs ys=some u):xs.length=ys.length:=by
  unfold cpC at e
  split at e
  · assumption
  · cases e
section
variable {P : Program} {a : Act} {N : Nat} {fl : FL} {ds : List Nat} {R : Array Oper} {m : List Nat} {S : World → Prop} {K : Act → World → Prop} {pl : List (Nat × Bool)} {o : Option Addr} {cap : Nat} {xs ys : List α}
def cpAt (R:Array Oper) (N:Nat) (pl:List (Nat×Bool)) (fl:FL):Option (Nat×Option Nat×TypeId×Value×Value) :=
  match opAt R N pl fl with
  | some (i,o)=>match o.op with
    | .call { callee:= .builtin .copy,args:=⟨[s,x]⟩,argTypes:=⟨[t,_]⟩ }=>some (i,o.dst,t,ev fl s,ev fl x)
    | _=>none
  | none=>none
theorem run_copy {t ty t':TypeId} {z:Value} (hE:ElemOK P t E T.size z) {o2:Option Addr} {c2:Nat} (hS:St h L w) {j:Nat} (hj:L[j]? =some (ownS T E o cap xs))
    (hsrc:SrcR T h w o2 ys) (hlen:xs.length=ys.length) :
    ∃w',(Builtin.copy_ #[t,t'] ty #[.slice o xs.length cap, .slice o2 ys.length c2]).run P w= .ok (.int .i64 ys.length) w'∧St h (L.set j (ownS T E o cap ys)) w':=by
  obtain ⟨x,hx,hxw,dx,hset⟩:=hS.focus hj
  obtain ⟨i,hi,hsize,hby,hz⟩:=hE.info
  have hx':OwnP T E o cap xs h x:=hx
  have hmin:Nat.min ys.length xs.length=ys.length:=by rw [hlen]; exact Nat.min_self _
  have same:ys=[]→St h (L.set j (ownS T E o cap ys)) w:=fun e=>by
    have e2:xs=[]:=List.eq_nil_of_length_eq_zero (by rw [hlen,e]; rfl)
    subst e e2
    exact hset w _ x hx hxw (fun _ _ _=>rfl) (fun b o e=> .inr (by rw [e]; rfl)) rfl rfl rfl
  rcases hsrc with ⟨rfl,rfl⟩ | ⟨ad,news,rfl,hnews,hcell⟩
  · refine ⟨w,?_,same rfl⟩
    simp only [Builtin.copy_]
    cases o <;> simp [run_underlying hE.und,sizeOf,typeInfo,hi,Builtin.lenOf,Builtin.firstCells,storeCells,Result.andThen,goInt,Sem.run]
  · have hfc:=run_firstCells_some (P:=P) (w:=w) T.size ys.length ad ys.length c2 news (by rw [hnews.len]) hcell
    rcases hx' with ⟨rfl,rfl,rfl,rfl⟩ | ⟨g,cur,rfl,rfl,h1,h2,h3,h4⟩
    · have ey:ys=[]:=List.eq_nil_of_length_eq_zero (by rw [← hlen]; rfl)
      refine ⟨w,?_,same ey⟩
      subst ey
      have hfc':(Builtin.firstCells T.size 0 (.slice (some ad) 0 c2)).run P w= .ok news.toArray w:=hfc
      simp [Builtin.copy_,run_underlying hE.und,sizeOf,typeInfo,hi,Builtin.lenOf,hsize,hfc',Result.andThen,goInt,Sem.run]
    · have hb:w.heap[g]? =some (.cells cur E (0,0)):=Hp.one_le.1 hxw
      have hnl:news.length=ys.length * T.size:=hnews.len
      have hfit:news.length≤cur.size:=by
        rw [hnl,h3, ← hlen]
        exact Nat.mul_le_mul_right _ h1
      have hst:=run_storeCells_at (P:=P) g 0 E news 0 cur w hb (by simpa using hfit) hnews.one
      simp only [Nat.add_zero] at hst
      refine ⟨w.setRow g (cur.toList.take 0 ++ news ++ cur.toList.drop (0 + news.length)).toArray,?_,?_⟩
      · simp only [Builtin.copy_]
        simp [run_underlying hE.und,sizeOf,typeInfo,hi,Builtin.lenOf,hsize,hlen,hfc,Result.andThen,goInt]
        simp only [List.take_zero,List.nil_append,Nat.zero_add] at hst ⊢
        rw [hst]
      · have hn0:news.length≤cur.toList.length:=by simpa using hfit
        have hcur:(cur.toList.take 0 ++ news ++ cur.toList.drop (0 + news.length)).toArray.toList.take (ys.length * T.size)=news:=by
          simp only [List.take_zero,List.nil_append,List.take_append, ← hnl,List.take_length,Nat.sub_self,List.append_nil]
        refine hset _ _ (Hp.one g (.cells (cur.toList.take 0 ++ news ++ cur.toList.drop (0 + news.length)).toArray E (0,0))) (.inr ⟨g,_,rfl,rfl,by rw [← hlen]; exact h1,h2,?_,by rw [hcur]; exact hnews⟩) (Hp.one_le.2 (setRow_heap w g _ _ E (0,0) hb)) (fun k hk hne=>setRow_other w g k _ fun e=>by subst e; simp [Hp.one] at hne) (fun k o' hk=>?_) rfl rfl rfl
        · rw [← h3]; simp; omega
        · right; unfold Hp.one at hk ⊢; split at hk <;> simp_all
theorem p_copy {i j:Nat} {d:Option Nat} {t:TypeId} {z:Value} {o2:Option Addr} {c2:Nat} {u:Unit} (hE:ElemOK P t E T.size z) (hS:St h L w) (hf:Fr a N fl ds) (hj:L[j]? =some (ownS T E o cap xs))
    (ho:cpAt R N pl fl=some (i,d,t, .slice o xs.length cap, .slice o2 ys.length c2)) (hsrc:SrcR T h w o2 ys) (hz:cpC xs ys=some u)
    (k:∀w' a',St h (L.set j (ownS T E o cap ys)) w'→Fr a' N (putF fl d (.int .i64 ys.length)) ds→(m.contains i=false→S w')∧wpPlan P R m S K pl.tail a' w'):wpPlan P R m S K pl a w:=by
  have hlen:=cpC_spec hz
  unfold cpAt at ho
  cases h1:opAt R N pl fl with
  | none=>rw [h1] at ho; simp at ho
  | some q =>
    obtain ⟨i',op⟩:=q
    rw [h1] at ho
    simp only at ho
    split at ho
    · rename_i s x t1 t2 hop
      simp only [Option.some.injEq,Prod.mk.injEq] at ho
      obtain ⟨rfl,rfl,rfl,hs,hx⟩:=ho
      obtain ⟨w',hrun,hS'⟩:=run_copy (ty:=op.type) (c2:=c2) (t':=t2) hE hS hj hsrc hlen
      refine p_val (w':=w') (v:= .int .i64 ys.length) hf h1 ?_ fun a' hf'=>k w' a' hS' hf'
      simp only [execOp,hop,resolve,invoke,builtin,Sem.run_bind,Sem.run_pure,Result.andThen_ok,List.map_toArray,List.map_cons,List.map_nil,hs,hx,hrun]
    · cases ho
end
end
end Go.Sx
set_option linter.unusedVariables false
namespace Go.Sx
open Go.Sl
variable {P : Program} {a : Act} {N : Nat} {fl : FL} {ds : List Nat} {w : World} {R : Array Oper} {m : List Nat} {S : World → Prop} {K K' : Act → World → Prop} {pl : List (Nat × Bool)} {ro : Option Nat} {c : Code} {Q : Exit → Act → World → Prop} {oF oC : List Obl} {h : Zone} {L : List Atom}
theorem look_sub {fl r:FL} (e:∀t v,look r t=some v→look fl t=some v) (hf:Fr a N fl ds):Fr a N r ds:=⟨hf.size,hf.defers,fun t v hl=>hf.look t v (e t v hl)⟩
theorem Fr.lit (hf:Fr a N fl ds) {b l:Bool} (k:Nat) (e:b=l) (hk:Sx.look fl k=some (.bool b):=by kernel_rfl):Fr a N ((k, .bool l)::fl) ds:=by
  subst e
  refine look_sub (fun t v hl=>?_) hf
  simp only [Sx.look] at hl
  cases hb:Nat.beq k t with
  | true=>rw [hb] at hl; have:=Nat.eq_of_beq_eq_true hb; subst this; simpa [hk] using hl
  | false=>rw [hb] at hl; exact hl
theorem Fr.to {r:FL} (hf:Fr a N fl ds) (hk:keepF fl (keys r)=some r:=by kernel_rfl):Fr a N r ds:=hf.keep hk
def fr3:Option (FL×List Obl×List Obl)→FL
  | some (r,_)=>r
  | none=>[]
def ob3:Option (FL×List Obl×List Obl)→Option (List Obl×List Obl)
  | some (_,o)=>some o
  | none=>none
theorem keepF_keys {fl:FL}:∀ {ks:List Nat} {r:FL},keepF fl ks=some r→keys r=ks
  | [],r,h=>by simp only [keepF,Option.some.injEq] at h; subst h; rfl
  | k::ks,r,h=>by
    simp only [keepF] at h
    split at h
    · rename_i h1 h2
      simp only [Option.some.injEq] at h
      subst h
      have:=keepF_keys h2
      simp only [keys,List.map_cons] at this ⊢
      rw [this]
    · cases h
def Keyed (X:List Nat→Option (FL×List Obl×List Obl)):Prop:=∀ks r o,X ks=some (r,o)→keys r=ks
theorem Keyed.use {X:List Nat→Option (FL×List Obl×List Obl)} (hX:Keyed X) {ks:List Nat} (e:ob3 (X ks)=some (oF,oC)):X (keys (fr3 (X ks)))=some (fr3 (X ks),oF,oC):=by
  cases h1:X ks with
  | none=>rw [h1] at e; cases e
  | some t =>
    obtain ⟨r,o⟩:=t
    rw [h1] at e
    simp only [ob3,Option.some.injEq] at e
    subst e
    show X (keys r)=some (r,oF,oC)
    rw [hX _ _ _ h1,h1]
theorem keyed_XK {os:List Value}:Keyed (evXK P R N m pl fl os):=fun ks r o e=>by
  obtain ⟨oF,oC⟩:=o
  obtain ⟨fl1,_,h2⟩:=evXK_spec e
  exact keepF_keys h2
theorem keyed_if {b:Bool} {X:List Nat→Option (FL×List Obl×List Obl)} (hX:Keyed X):Keyed (fun ks=>bif b then X ks else none):=fun ks r o e=>by
  cases b with
  | false=>cases e
  | true=>exact hX ks r o e
theorem keyed_R {os:List Value}:Keyed (evR P c N fl os):=keyed_if keyed_XK
theorem keyed_SR {os:List Value}:Keyed (evSR P c N fl os):=keyed_if keyed_R
theorem keyed_RD {os:List Value}:Keyed (evRD P c pl m N fl os):=keyed_if keyed_XK
theorem keyed_SRD {os:List Value}:Keyed (evSRD P c pl m N fl os):=keyed_if keyed_RD
theorem c_S (n:Nat) (os:List Value) (ks:List Nat) (hSw:S w) (hf:Fr a N fl ds) (hF:∀w',S w'→HA w' oF) (hC:HA w oC)
    (k:∀a',Fr a' N (fr3 (evXK P R N m (pl.take n) fl os ks)) ds→wpPlan P R m S K (pl.drop n) a' w) (he:ob3 (evXK P R N m (pl.take n) fl os ks)=some (oF,oC):=by kernel_rfl):wpPlan P R m S K pl a w :=
  p_qS n os _ oF oC hSw hf (keyed_XK.use he) hF hC k
theorem c_E (n:Nat) (os:List Value) (ks:List Nat) (hf:Fr a N fl ds) (hF:HA w oF) (hC:HA w oC)
    (k:∀a',Fr a' N (fr3 (evXK P R N m (pl.take n) fl os ks)) ds→wpPlan P R m (fun x=>x=w) K (pl.drop n) a' w) (he:ob3 (evXK P R N m (pl.take n) fl os ks)=some (oF,oC):=by kernel_rfl):wpPlan P R m (fun x=>x=w) K pl a w :=
  p_qE n os _ oF oC hf (keyed_XK.use he) hF hC k
theorem c_n (n:Nat) (os:List Value) (ks:List Nat) (hf:Fr a N fl ds) (hC:HA w oC)
    (k:∀a',Fr a' N (fr3 (evXK P R N m (pl.take n) fl os ks)) ds→wpPlan P R m (fun _=>True) K (pl.drop n) a' w) (he:ob3 (evXK P R N m (pl.take n) fl os ks)=some ([],oC):=by kernel_rfl):wpPlan P R m (fun _=>True) K pl a w :=
  p_qn n os _ oC hf (keyed_XK.use he) hC k
theorem c_z (os:List Value) (ks:List Nat) (hf:Fr a N fl ds) (hC:HA w oC)
    (k:∀a',Fr a' N (fr3 (evXK P R N m pl fl os ks)) ds→K a' w) (he:ob3 (evXK P R N m pl fl os ks)=some ([],oC):=by kernel_rfl):wpPlan P R m (fun _=>True) K pl a w :=
  p_qz os _ oC hf (keyed_XK.use he) hC k
theorem c_t (os:List Value) (ks:List Nat) (hf:Fr a N fl ds) (hC:HA w oC)
    (k:∀a',Fr a' N (fr3 (evXK P R N m pl fl os ks)) ds→K' a' w) (he:ob3 (evXK P R N m pl fl os ks)=some ([],oC):=by kernel_rfl):wpPlan P R m (fun _=>True) (fun a w=>Exit.then K' Q .normal a w) pl a w :=
  p_qt os _ oC hf (keyed_XK.use he) hC k
theorem c_tE (os:List Value) (ks:List Nat) (hf:Fr a N fl ds) (hF:HA w oF) (hC:HA w oC)
    (k:∀a',Fr a' N (fr3 (evXK P R N m pl fl os ks)) ds→K' a' w) (he:ob3 (evXK P R N m pl fl os ks)=some (oF,oC):=by kernel_rfl):wpPlan P R m (fun x=>x=w) (fun a w=>Exit.then K' Q .normal a w) pl a w :=
  p_qtE os _ oF oC hf (keyed_XK.use he) hF hC k
theorem c_q (os:List Value) (ks:List Nat) (hf:Fr a N fl ds) (hC:HA w oC)
    (k:∀a',Fr a' N (fr3 (evR P c N fl os ks)) ds→Q .normal a' w) (he:ob3 (evR P c N fl os ks)=some ([],oC):=by kernel_rfl):c.cw ro P Q a w :=
  w_q os _ oC hf (keyed_R.use he) hC k
theorem c_sq (os:List Value) (ks:List Nat) (hf:Fr a N fl ds) (hC:HA w oC)
    (k:∀a',Fr a' N (fr3 (evSR P c N fl os ks)) ds→(cr c).cw ro P Q a' w) (he:ob3 (evSR P c N fl os ks)=some ([],oC):=by kernel_rfl):c.cw ro P Q a w :=
  w_sq os _ oC hf (keyed_SR.use he) hC k
theorem c_qD (pl:List (Nat×Bool)) (m:List Nat) (os:List Value) (ks:List Nat) (hf:Fr a N fl ds) (hF:HA w.drew oF) (hC:HA w.drew oC)
    (k:∀a',Fr a' N (fr3 (evRD P c pl m N fl os ks)) ds→Q .normal a' w.drew) (he:ob3 (evRD P c pl m N fl os ks)=some (oF,oC):=by kernel_rfl):c.cw ro P Q a w :=
  w_qD pl m os _ oF oC hf (keyed_RD.use he) hF hC k
theorem c_sqD (pl:List (Nat×Bool)) (m:List Nat) (os:List Value) (ks:List Nat) (hf:Fr a N fl ds) (hF:HA w.drew oF) (hC:HA w.drew oC)
    (k:∀a',Fr a' N (fr3 (evSRD P c pl m N fl os ks)) ds→(cr c).cw ro P Q a' w.drew) (he:ob3 (evSRD P c pl m N fl os ks)=some (oF,oC):=by kernel_rfl):c.cw ro P Q a w :=
  w_sqD pl m os _ oF oC hf (keyed_SRD.use he) hF hC k
def iAt:List (Nat×Bool)→Nat
  | []=>0
  | (i,_)::_=>i
def dAt (R:Array Oper) (pl:List (Nat×Bool)):Option Nat:=match R[iAt pl]? with
  | some o=>o.dst
  | none=>none
theorem c_call {f:FuncId} {args:Array Value} (hf:Fr a N fl ds)
    {Φ:Value→World→Prop} (hc:Calls P f args w fun e w'=>∃v,e= .returned v∧Φ v w')
    (k:∀v w' a',Φ v w'→Fr a' N (putF fl (dAt R pl) v) ds→(m.contains (iAt pl)=false→S w')∧wpPlan P R m S K pl.tail a' w')
    (ho:callAt P R N pl fl=some (iAt pl,dAt R pl,f,args):=by kernel_rfl):wpPlan P R m S K pl a w:=p_call hf ho hc k
theorem c_box (cs:List Value) (T:TypeId) (hS:St h L w) (hf:Fr a N fl ds)
    (k:∀b w' a',St h (box b cs T::L) w'→Fr a' N (putF fl (dAt R pl) (.pointer (some ⟨b,0,none⟩))) ds→(m.contains (iAt pl)=false→S w')∧wpPlan P R m S K pl.tail a' w')
    (he:∀b,newAt P R N pl fl b=some (iAt pl,dAt R pl, .cells cs.toArray T (0,0), .pointer (some ⟨b,0,none⟩)):=by intro b; kernel_rfl):wpPlan P R m S K pl a w:=p_box hS hf he k
def offAt (P:Program) (R:Array Oper) (N:Nat) (pl:List (Nat×Bool)) (fl:FL):Nat:=match storeAt P R N pl fl with
  | some (_,A,_)=>A.off
  | none=>0
def vsAt (P:Program) (R:Array Oper) (N:Nat) (pl:List (Nat×Bool)) (fl:FL):List Value:=match storeAt P R N pl fl with
  | some (_,_,vs)=>vs
  | none=>[]
theorem c_st (j:Nat) (cs':List Value) {b:Nat} {cs:List Value} {T:TypeId} (hS:St h L w) (hf:Fr a N fl ds) (hj:L[j]? =some (box b cs T))
    (k:∀w' a',St h (L.set j (box b cs' T)) w'→Fr a' N fl ds→(m.contains (iAt pl)=false→S w')∧wpPlan P R m S K pl.tail a' w')
    (ho:storeAt P R N pl fl=some (iAt pl,⟨b,offAt P R N pl fl,none⟩,vsAt P R N pl fl):=by kernel_rfl)
    (hfit:(Nat.ble (offAt P R N pl fl + (vsAt P R N pl fl).length) cs.length && oneCells (vsAt P R N pl fl))=true:=by kernel_rfl)
    (hcs:splice cs (offAt P R N pl fl) (vsAt P R N pl fl)=cs':=by kernel_rfl):wpPlan P R m S K pl a w:=p_store_eq hS hf hj ho hfit hcs k
theorem c_rt (os:List Value) (v:Value) {fn:Func} {R':Ending→World→Prop} {obs:List Obl} (hf:Fr a N fl) (hob:HA w obs) (k:R' (.returned v) w) (he:resAt P fn fl os=some (v,obs):=by kernel_rfl):postM P fn R' .ret a w:=p_ret hf he hob k
theorem c_fall (os:List Value) (v:Value) {fn:Func} {R':Ending→World→Prop} {obs:List Obl} (hf:Fr a N fl) (hob:HA w obs) (k:R' (.returned v) w) (he:resAt P fn fl os=some (v,obs):=by kernel_rfl):postM P fn R' .normal a w:=p_fall hf he hob k
theorem c_seq (k:(cl c).cw ro P (Exit.then (fun a w=>(cr c).cw ro P Q a w) Q) a w) (hc:isSeq c=true:=by kernel_rfl):c.cw ro P Q a w:=w_seq hc k
theorem c_block (id:Nat) (k:(cl c).cw ro P (Exit.inBlock id Q) a w) (hc:blockId c=some id:=by kernel_rfl):c.cw ro P Q a w:=w_block hc k
theorem c_exit (id:Nat) (k:Q (.exit id) a w) (hc:exitId c=some id:=by kernel_rfl):c.cw ro P Q a w:=w_exit hc k
theorem c_ret (k:Q .ret a w) (hc:isRet c=true:=by kernel_rfl):c.cw ro P Q a w:=w_ret hc k
theorem c_skip (k:Q .normal a w) (hc:isSkip c=true:=by kernel_rfl):c.cw ro P Q a w:=w_skip hc k
theorem c_if (b:Bool) (hf:Fr a N fl ds) (kt:b=true→(cl c).cw ro P Q a w) (ke:b=false→(cr c).cw ro P Q a w) (hc:condV c fl=some (.bool b):=by kernel_rfl):c.cw ro P Q a w:=w_if hf hc kt ke
theorem c_mid (M:Act→World→Prop) (k1:(cl c).cw ro P (Exit.then M Q) a w) (k2:∀a w,M a w→(cr c).cw ro P Q a w) (hc:isSeq c=true:=by kernel_rfl):c.cw ro P Q a w:=w_mid hc M k1 k2
theorem c_sr (k:wpPlan P (cops (cl c)) [] (fun _=>True) (fun a w=>Exit.then (fun a w=>(cr c).cw ro P Q a w) Q .normal a w) (planSeq (cl c)) a w) (hc:(isSeq c && (isReg false (cl c) && noDefer (cops (cl c))))=true:=by kernel_rfl):c.cw ro P Q a w:=w_sr hc k
theorem c_reg (k:wpPlan P (cops c) [] (fun _=>True) (fun a w=>Q .normal a w) (planSeq c) a w) (hc:(isReg false c && noDefer (cops c))=true:=by kernel_rfl):c.cw ro P Q a w:=w_reg hc k
theorem c_dt (k:K' a w) (hp:pl.isEmpty=true:=by kernel_rfl):wpPlan P R m S (fun a w=>Exit.then K' Q .normal a w) pl a w:=p_dt hp k
theorem c_done (k:K a w) (hp:pl.isEmpty=true:=by kernel_rfl):wpPlan P R m S K pl a w:=p_done hp k
theorem c_loop (T:Nat→Act→World→Prop) (n:Nat) (h0:T n a w)
    (k:∀n a w,T n a w→(cl c).cw ro P (Exit.then (fun a' w'=>∃j,j<n∧T j a' w') Q) a w) (hc:isLoop c=true:=by kernel_rfl):c.cw ro P Q a w:=w_loop hc T n h0 k
theorem c_regD (pl:List (Nat×Bool)) (m:List Nat) (S:World→Prop) (hS0:S w.drew)
    (k:wpPlan P (cops c) m S (fun a w=>Q .normal a w) pl a w.drew) (hm:P.follows .mixedOrders=true:=by kernel_rfl) (hB:drawOK c pl m=true:=by kernel_rfl):c.cw ro P Q a w:=w_regD hm pl m S hB hS0 k
theorem zr {h:Zone}:h.le h:=Zone.le_refl _
theorem zt {a b c:Zone} (h:a.le b) (k:b.le c):a.le c:=Zone.le_trans h k
theorem bft (b:Bool):b=true∨b=false:=Bool.eq_false_or_eq_true b
end Go.Sx
