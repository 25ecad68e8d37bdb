/-
  A part of the walk and of the plain law of one given statement. No condition.
-/
import Derived.Test.YtlmgjjmighajdaaSp
import Derived.ProofKit
import Derived.OpenShut
import Derived.Stop.Joined
import Derived.Deep.Slices
import Derived.Test.YtlmgjjmighajdaaP10
set_option linter.unusedVariables false
namespace Go.Sx
open Go.Sl Go.RowKit Go.ChangeShapes
def I64 (n:Int):Prop:= -9223372036854775808≤n∧n≤9223372036854775807
def Opens {α:Type} (P:Program) (t:TypeId) (T:Ty α) (ok:α→Prop):Prop :=
  ∀(H:Type) (enc:TypeId×Value→H) (W:World) (fuel:Nat) (cs:List Value) (d:DataW H×List MemPlace),
    DataW.trod enc P W 0 (fun _=>true) true fuel t cs=some d→∃x,T.rep (Zone.all W) cs x∧ok x
theorem mapM_mem {α β:Type} {f:α→Option β}:∀ {l:List α} {ys:List β},l.mapM f=some ys→∀a∈l,∃y,f a=some y
  | [],_,_,a,ha=>by cases ha
  | x::l,ys,h,a,ha=>by
    rw [List.mapM_cons] at h
    cases hx:f x with
    | none=>rw [hx] at h; simp at h
    | some y =>
      rw [hx] at h
      simp only [Option.pure_def,Option.bind_eq_bind,Option.bind_some] at h
      cases hl:l.mapM f with
      | none=>rw [hl] at h; simp at h
      | some zs =>
        rcases List.mem_cons.1 ha with e | e
        · subst e; exact ⟨y,hx⟩
        · exact mapM_mem hl a e
section
variable {H : Type} {enc : TypeId × Value → H} {P : Program} {W : World} {fuel : Nat} {t : TypeId} {cs : List Value} {d : DataW H × List MemPlace}
theorem trod_fields {fs:Array Field} (ht:P.underlying t=some (.struct fs)) (h:DataW.trod enc P W 0 (fun _=>true) true fuel t cs=some d) :
    cs.length=P.cellsOf t∧∃n,∀f∈fs.toList,∃y,DataW.trod enc P W 0 (fun _=>true) true n f.type ((cs.drop f.offset).take (P.cellsOf f.type))=some y:=by
  cases fuel with
  | zero=>simp [DataW.trod] at h
  | succ n =>
    simp only [DataW.trod,ht] at h
    by_cases hl:cs.length=P.cellsOf t
    · rw [if_pos hl] at h
      refine ⟨hl,n,fun f hf=>?_⟩
      cases hm:fs.toList.mapM fun f=>DataW.trod enc P W 0 (fun _=>true) true n f.type ((cs.drop f.offset).take (P.cellsOf f.type)) with
      | none=>rw [hm] at h; simp at h
      | some ys=>exact mapM_mem hm f hf
    · rw [if_neg hl] at h; cases h
theorem trod_items {m:Nat} {e:TypeId} (ht:P.underlying t=some (.array m e)) (h:DataW.trod enc P W 0 (fun _=>true) true fuel t cs=some d) :
    cs.length=P.cellsOf t∧∃n,∀i,i<m→∃y,DataW.trod enc P W 0 (fun _=>true) true n e ((cs.drop (i * P.cellsOf e)).take (P.cellsOf e))=some y:=by
  cases fuel with
  | zero=>simp [DataW.trod] at h
  | succ n =>
    simp only [DataW.trod,ht] at h
    by_cases hl:cs.length=P.cellsOf t
    · rw [if_pos hl] at h
      refine ⟨hl,n,fun i hi=>?_⟩
      cases hm:(List.range m).mapM fun i=>DataW.trod enc P W 0 (fun _=>true) true n e ((cs.drop (i * P.cellsOf e)).take (P.cellsOf e)) with
      | none=>rw [hm] at h; simp at h
      | some ys=>exact mapM_mem hm i (List.mem_range.2 hi)
    · rw [if_neg hl] at h; cases h
end
def allInt (P:Program):Nat→TypeId→Bool
  | 0,_=>false
  | f + 1,t=>match P.underlying t with
    | some (.int .i64)=>true
    | some (.struct fs)=>fs.toList.all (fun x=>allInt P f x.type) && (List.range (P.cellsOf t)).all fun i=>fs.toList.any fun x=>Nat.ble x.offset i && Nat.blt i (x.offset + P.cellsOf x.type)
    | some (.array n e)=>allInt P f e && (List.range (P.cellsOf t)).all fun i=>Nat.blt (i / P.cellsOf e) n && Nat.blt 0 (P.cellsOf e)
    | _=>false
def IntCells (cs:List Value):Prop:=∀(i:Nat) (c:Value),cs[i]? =some c→∃n:Int,c=Value.int .i64 n∧I64 n
theorem wf_I64 {n:Int} (h:(Lit.int .i64 n).wf=true):I64 n:=by
  have e1:IntKind.i64.min= -9223372036854775808:=by decide
  have e2:IntKind.i64.max=9223372036854775807:=by decide
  simp only [Lit.wf,e1,e2,Bool.and_eq_true,decide_eq_true_eq] at h
  exact h
theorem allInt_spec {H:Type} {enc:TypeId×Value→H} {P:Program} {W:World}:∀(f:Nat) {t:TypeId} (_:allInt P f t=true) {fuel:Nat} {cs:List Value} {d:DataW H×List MemPlace},
    DataW.trod enc P W 0 (fun _=>true) true fuel t cs=some d→IntCells cs
  | 0,_,h,_,_,_,_=>by cases h
  | f + 1,t,h,fuel,cs,d,hd=>by
    unfold allInt at h
    split at h
    · rename_i ht
      obtain ⟨n,rfl,_,hw⟩:=DataW.trod_int ht hd
      intro i c hi
      cases i with
      | zero=>simp only [List.getElem?_cons_zero,Option.some.injEq] at hi; exact ⟨n,hi.symm,wf_I64 hw⟩
      | succ i=>simp at hi
    · rename_i fs ht
      simp only [Bool.and_eq_true,List.all_eq_true,List.any_eq_true,List.mem_range,Nat.ble_eq,Nat.blt_eq] at h
      obtain ⟨h1,h2⟩:=h
      obtain ⟨hl,n,hf⟩:=trod_fields ht hd
      intro i c hi
      have hlt:i<cs.length:=(List.getElem?_eq_some_iff.1 hi).1
      obtain ⟨x,hx,ho,hu⟩:=h2 i (by omega)
      obtain ⟨y,hy⟩:=hf x hx
      refine allInt_spec f (h1 x hx) hy (i - x.offset) c ?_
      rw [List.getElem?_take,if_pos (by omega),List.getElem?_drop,show x.offset + (i - x.offset)=i by omega]
      exact hi
    · rename_i m e ht
      simp only [Bool.and_eq_true,List.all_eq_true,List.mem_range,Nat.blt_eq] at h
      obtain ⟨h1,h2⟩:=h
      obtain ⟨hl,n,hf⟩:=trod_items ht hd
      intro i c hi
      have hlt:i<cs.length:=(List.getElem?_eq_some_iff.1 hi).1
      obtain ⟨hq,hp⟩:=h2 i (by omega)
      obtain ⟨y,hy⟩:=hf _ hq
      have hmod:=Nat.mod_lt i hp
      have hdm:=Nat.div_add_mod i (P.cellsOf e)
      rw [Nat.mul_comm] at hdm
      refine allInt_spec f h1 hy (i % P.cellsOf e) c ?_
      rw [List.getElem?_take,if_pos hmod,List.getElem?_drop,hdm]
      exact hi
    · cases h
theorem opens_ints {α:Type} {P:Program} {t:TypeId} {T:Ty α} {ok:α→Prop} (k:Nat) (hk:P.cellsOf t=k) (hs:(match P.underlying t with | some (.struct _)=>true | some (.array _ _)=>true | _=>false)=true) (ha:allInt P 8 t=true)
    (mk:∀(h:Zone) (l:List Int),l.length=k→(∀n∈l,I64 n)→∃x,T.rep h (l.map fun n=> .int .i64 n) x∧ok x):Opens P t T ok:=fun H enc W fuel cs d h=>by
  have hi:=allInt_spec 8 ha h
  have hl:cs.length=k:=by
    split at hs
    · rename_i fs ht; rw [(trod_fields ht h).1,hk]
    · rename_i m e ht; rw [(trod_items ht h).1,hk]
    · cases hs
  have key:∀cs:List Value,IntCells cs→∃l:List Int,cs=l.map (fun n=> .int .i64 n)∧∀n∈l,I64 n:=by
    intro cs
    induction cs with
    | nil=>exact fun _=>⟨[],rfl,fun _ h=>by cases h⟩
    | cons c cs ih =>
      intro hc
      obtain ⟨n,rfl,hn⟩:=hc 0 c rfl
      obtain ⟨l,rfl,hl⟩:=ih (fun i c hi=>hc (i + 1) c (by simpa using hi))
      exact ⟨n::l,rfl,fun m hm=>by rcases List.mem_cons.1 hm with e | e; exact e ▸ hn; exact hl m e⟩
  obtain ⟨l,rfl,hn⟩:=key cs hi
  exact mk _ l (by simpa using hl) hn
theorem opens_slice {α:Type} {P:Program} {t e:TypeId} {T:Ty α} {ok:α→Prop} (ht:P.underlying t=some (.slice e)) (he:P.cellsOf e=T.size) (h:Opens P e T ok):Opens P t (Ty.slice T) (fun xs=>(∀x∈xs,ok x)∧xs.length≤maxLen):=fun H enc W fuel cs d hd=>by
  rcases Go.Deep.open_slice ht hd with ⟨rfl,_⟩ | ⟨a,len,cap,m,n,D,Pl,rfl,_,hl,hm,hmm,_,hx⟩
  · exact ⟨[],⟨none,0,rfl,SliceR.nil' T _⟩,⟨(fun _ h=>by cases h),by simp⟩⟩
  · simp only [if_true] at hmm
    have hall:∀i,i<len→∃x,(∃c,T.rep (Zone.all W) c x∧∀j v,c[j]? =some v→(Zone.all W).cell? ((a.add (i * T.size)).add j)=some v)∧ok x:=fun i hi=>by
      obtain ⟨cs',h1,h2⟩:=hx i (by omega)
      obtain ⟨x,hr,ho⟩:=h H enc W n cs' _ h2
      refine ⟨x,⟨cs',hr,fun j v hj=>?_⟩,ho⟩
      rw [he] at h1
      obtain ⟨_,hlen,hc⟩:=World.cells?_some h1
      have hlt:j<cs'.length:=(List.getElem?_eq_some_iff.1 hj).1
      exact (hc j (by omega)).trans hj
    have key:∀k,k≤len→∃xs:List α,xs.length=k∧(∀x∈xs,ok x)∧∀i x,xs[i]? =some x→∃c,T.rep (Zone.all W) c x∧∀j v,c[j]? =some v→(Zone.all W).cell? ((a.add (i * T.size)).add j)=some v:=by
      intro k
      induction k with
      | zero=>exact fun _=>⟨[],rfl,(fun _ h=>by cases h),(fun i x h=>by simp at h)⟩
      | succ k ih =>
        intro hk
        obtain ⟨xs,h1,h2,h3⟩:=ih (by omega)
        obtain ⟨x,hx1,hx2⟩:=hall k (by omega)
        refine ⟨xs ++ [x],by simp [h1],fun y hy=>?_,fun i y hy=>?_⟩
        · rcases List.mem_append.1 hy with e | e
          · exact h2 y e
          · simp only [List.mem_singleton] at e; exact e ▸ hx2
        · rw [List.getElem?_append] at hy
          split at hy
          · exact h3 i y hy
          · rename_i hge
            have:i - xs.length=0:=by
              have:=(List.getElem?_eq_some_iff.1 hy).1
              simp at this; omega
            rw [this] at hy
            simp only [List.getElem?_cons_zero,Option.some.injEq] at hy
            subst hy
            have:i=k:=by omega
            subst this
            exact hx1
    obtain ⟨xs,h1,h2,h3⟩:=key len (Nat.le_refl _)
    refine ⟨xs,⟨some a,cap,by rw [h1],⟨by omega,hm,(fun e=>by cases e),fun b e i x hi=>?_⟩⟩,⟨h2,by omega⟩⟩
    cases e
    exact h3 i x hi
section
variable {H : Type} {enc : TypeId × Value → H} {P : Program} {W : World} {base : Nat} {t : TypeId} {v : Value} {d : DataW H} {ps : List MemPlace}
theorem arg_agg {α:Type} {T:Ty α} {ok:α→Prop} (hs:(match P.underlying t with | some (.struct _)=>true | some (.array _ _)=>true | _=>false)=true) (hv:Value.okWide P W .any base t v) (h:DataW.Trod enc P W 0 (fun _=>true) true t v d ps) (ho:Opens P t T ok) :
    ∃cs x,v= .agg cs.toArray∧T.rep (Zone.all W) cs x∧ok x:=by
  obtain ⟨fuel,hf⟩:=h
  obtain ⟨x,hx,hok⟩:=ho H enc W fuel _ _ hf
  have:∃cs,v= .agg cs:=by
    unfold Value.okWide at hv
    split at hs
    · rename_i fs ht; rw [ht] at hv; obtain ⟨cs,e,_⟩:=hv; exact ⟨cs,e⟩
    · rename_i m e ht; rw [ht] at hv; obtain ⟨cs,e,_⟩:=hv; exact ⟨cs,e⟩
    · cases hs
  obtain ⟨cs,rfl⟩:=this
  exact ⟨cs.toList,x,rfl,hx,hok⟩
theorem trodAll_stays (hl:laidOutB P=true) {W':World} (hb:Below W.heap.size W W'):∀ {ts:List TypeId} {vs:List Value} {ds:List (DataW H)} {ps:List MemPlace},(ts.all fun t=>P.readableRec t && Nat.blt t P.types.size)=true →
    DataW.TrodAll enc P W 0 (fun _=>true) true ts vs ds ps→(∀p∈ps,p.block<W.heap.size)→DataW.TrodAll enc P W' 0 (fun b=>decide (b<W.heap.size)) true ts vs ds ps
  | [],[],[],_,_,h,_=>h
  | t::ts,v::vs,d::ds,_,hr,⟨p,q,h1,h2,e⟩,hlt=>by
    simp only [List.all_cons,Bool.and_eq_true,Nat.blt_eq] at hr
    subst e
    exact ⟨p,q,Below.trod hl hr.1.1 hr.1.2 h1 hb (fun x hx=>hlt x (List.mem_append_left _ hx)),trodAll_stays hl hb hr.2 h2 (fun x hx=>hlt x (List.mem_append_right _ hx)),rfl⟩
  | [],_::_,_,_,_,h,_=>h.elim
  | [],[],_::_,_,_,h,_=>h.elim
  | _::_,[],_,_,_,h,_=>h.elim
  | _::_,_::_,[],_,_,h,_=>h.elim
theorem post_true {f:Func} {s:ChangeSpec} {args:Array Value} {ds:List (DataW H)} {before:List MemPlace} {apart:Bool} {W':World} {tb:TypeId} (hl:laidOutB P=true) (hvars:s.vars=[]) (hr:(f.params.toList.all fun t=>P.readableRec t && Nat.blt t P.types.size)=true)
    (hres:f.resultTypes= #[tb]) (hu:P.underlying tb=some .bool) (hW:DataW.Whole enc P f.params.toList s.vars apart W args.toList ds [] before) (hb:Below W.heap.size W W') (hs:s.fn H (ds ++ [])={ results:=[.lit (.bool true)],args:=ds }) :
    s.post enc P f apart true false false W args (.bool true) W':=by
  have hlt:=hW.lt
  have hW0:=hW
  obtain ⟨p,q,hA,hV,rfl,_,_⟩:=hW
  rw [hvars] at hV
  obtain ⟨_,rfl⟩:=trodVars_none hV
  refine ⟨ds,[],p ++ [],[],p,[],hW0,?_,?_,?_,hb.frame _,fun h=>by cases h⟩
  · rw [hs,hres]; exact trodAll_mk1 (shut_bool hu true)
  · rw [hs]; exact trodAll_stays hl hb hr hA (fun x hx=>hlt x (by simpa using hx))
  · rw [hs,hvars]; rfl
end
end Go.Sx
namespace Go.Sx
structure A3 where
  a0:Int
  a1:Int
  a2:Int
  deriving DecidableEq
def A3T:Ty A3:=Ty.flat 3 (fun p=>[.int .i64 p.a0, .int .i64 p.a1, .int .i64 p.a2]) (fun _=>rfl) (fun _=>rfl)
end Go.Sx
set_option linter.unusedVariables false
namespace Go.Sx
open Go.Sl Go.RowKit Go.ChangeShapes
def tripB (P:Program) (t e e' e'':TypeId):Bool:=match P.underlying t with
  | some (.struct fs)=>(match fs.toList with | [f,g,k]=>Nat.beq f.type e && Nat.beq f.offset 0 && Nat.beq g.type e' && Nat.beq g.offset (P.cellsOf e) && Nat.beq k.type e'' && Nat.beq k.offset (P.cellsOf e + P.cellsOf e') && Nat.beq (P.cellsOf e + P.cellsOf e' + P.cellsOf e'') (P.cellsOf t) | _=>false)
  | _=>false
theorem opens_trip {α β γ:Type} {P:Program} {t e e' e'':TypeId} {T:Ty α} {U:Ty β} {V:Ty γ} {ok:α→Prop} {ok':β→Prop} {ok'':γ→Prop} (hb:tripB P t e e' e''=true) (h:Opens P e T ok) (h':Opens P e' U ok') (h'':Opens P e'' V ok''):Opens P t (Ty.pair T (Ty.pair U V)) (fun x=>ok x.1∧ok' x.2.1∧ok'' x.2.2):=fun H enc W fuel cs d hd=>by
  unfold tripB at hb
  split at hb
  · rename_i fs ht
    split at hb
    · rename_i f g k hf
      simp only [Bool.and_eq_true,Nat.beq_eq] at hb
      obtain ⟨⟨⟨⟨⟨⟨h1,h2⟩,h3⟩,h4⟩,h5⟩,h6⟩,h7⟩:=hb
      obtain ⟨hl,n,hx⟩:=trod_fields ht hd
      obtain ⟨y,hy⟩:=hx f (by rw [hf]; exact List.mem_cons_self ..)
      obtain ⟨z,hz⟩:=hx g (by rw [hf]; exact List.mem_cons_of_mem _ (List.mem_cons_self ..))
      obtain ⟨u,hu⟩:=hx k (by rw [hf]; exact List.mem_cons_of_mem _ (List.mem_cons_of_mem _ (List.mem_cons_self ..)))
      rw [h1,h2,List.drop_zero] at hy
      rw [h3,h4] at hz
      rw [h5,h6,List.take_of_length_le (by rw [List.length_drop]; omega)] at hu
      obtain ⟨x1,r1,o1⟩:=h H enc W n _ y hy
      obtain ⟨x2,r2,o2⟩:=h' H enc W n _ z hz
      obtain ⟨x3,r3,o3⟩:=h'' H enc W n _ u hu
      have e1:cs=cs.take (P.cellsOf e) ++ ((cs.drop (P.cellsOf e)).take (P.cellsOf e') ++ cs.drop (P.cellsOf e + P.cellsOf e')):=by
        rw [← List.drop_drop,List.take_append_drop,List.take_append_drop]
      exact ⟨(x1,x2,x3),⟨_,_,e1,r1,_,_,rfl,r2,r3⟩,o1,o2,o3⟩
    · cases hb
  · cases hb
end Go.Sx
